/- NetMay: the law's own reckoning. · HostMay: host.New, whole; what the law's second loops reckon. -/
import Derived.Test.YtnhpljgeckdedaaGreatHmP
import Derived.Deep.CutBlock
set_option linter.unusedSimpArgs false
set_option linter.unusedVariables false
set_option linter.constructorNameAsVariable false
namespace Go.Hm
open Go Go.Proofs Go.RowKit
/-- May a setting be: its length, its MTU. -/
def may0 (n : Nat) (mtu : Int) : Bool := decide (1 ≤ n) && decide (n ≤ 4) && decide (1280 ≤ mtu) && decide (mtu ≤ 65535)
/-- The first k addresses may be, and are distinct. -/
def mayTo (l : List Ad) : Nat → Bool
  | 0 => true
  | k + 1 => mayTo l k && (match l[k]? with | some x => addrL x.1 x.2 | none => true) && !dupL l k
def SetB (W : World) (B : Nat) (sl : Value) (mtu : Int) : Prop := ∀ j, W.cell? ⟨B, j, none⟩ = (setV sl mtu)[j]?
theorem wpList_exec {P : Program} {ops : Array Oper} {rest : List Oper} {o : Oper} {a : Act} {Q : Exit → Act → World → Prop} {w : World} (hw : Region.wanted o (yielded ops a.tmps) = true) {v : Value}
    (hr : (execOp a.eval o).run P w = .ok (.value v) w) (h : wpList P ops Q rest (a.put o.dst v) w) : wpList P ops Q (o :: rest) a w := by
  refine wpList_on hw fun K hK => ?_
  unfold Oper.wp
  rw [hr]
  exact hK _ _ h
theorem exec_neq29 {o : Oper} {a : Act} {w : World} {x y : Operand} {r : Bool} (hop : o.op = Op.binOp .neq 42 x y 42) {u v : Array Value} (hx : a.eval x = .agg u) (hy : a.eval y = .agg v)
    (hr : (Op.equalIn 10000 42 (.agg u) (.agg v)).run Tryz.prog w = .ok r w) : (execOp a.eval o).run Tryz.prog w = .ok (.value (.bool (!r))) w := by
  have h1 : (binOp .neq 42 (.agg u) (.agg v)).run Tryz.prog w = .ok (.bool (!r)) w := by
    have h2 : (Op.equal 42 (.agg u) (.agg v)).run Tryz.prog w = .ok r w := hr
    unfold binOp
    simp [h2, Result.andThen]
  have h3 : (eqGuard .neq 42 x y (.agg u) (.agg v)).run Tryz.prog w = .ok () w := by
    exact run_eqGuard_agg w .neq 42 x y _ _ (Go.Am.eqGuard_plain 40 42 _ kinds29 _ Go.Am.tryz_fit.depth)
  simp [execOp, hop, hx, hy, h1, h3, Result.andThen]
theorem any_snoc {l : List Ad} {j : Nat} {y : Ad} (hy : l[j]? = some y) (p : Ad → Bool) : (l.take (j + 1)).any p = ((l.take j).any p || p y) := by
  obtain ⟨hj, rfl⟩ := List.getElem?_eq_some_iff.1 hy
  rw [List.take_succ_eq_append_getElem hj, List.any_append]; simp
end Go.Hm
namespace Go.Hm
open Go Go.Proofs Go.RowKit
theorem mayTo_true {l : List Ad} {k : Nat} : mayTo l k = true ↔ ∀ i, i < k → (∀ x, l[i]? = some x → addrL x.1 x.2 = true) ∧ dupL l i = false := by
  induction k with
  | zero => simp [mayTo]
  | succ k ih =>
    have e : mayTo l (k + 1) = (mayTo l k && (match l[k]? with | some x => addrL x.1 x.2 | none => true) && !dupL l k) := rfl
    rw [e]
    constructor
    · intro h i hi
      simp only [Bool.and_eq_true, Bool.not_eq_true'] at h
      obtain ⟨⟨h1, h2⟩, h3⟩ := h
      rcases Nat.lt_or_ge i k with hik | hik
      · exact ih.1 h1 i hik
      · obtain rfl : i = k := by omega
        exact ⟨fun x hx => by rw [hx] at h2; exact h2, h3⟩
    · intro h
      simp only [Bool.and_eq_true, Bool.not_eq_true']
      refine ⟨⟨ih.2 fun i hi => h i (by omega), ?_⟩, (h k (by omega)).2⟩
      cases hx : l[k]? with
      | none => rfl
      | some x => exact (h k (by omega)).1 x hx
theorem mayTo_len {l : List Ad} : mayTo l l.length = true ↔ (l.any fun x => !addrL x.1 x.2) = false ∧ distinctL l = true := by
  rw [mayTo_true, List.any_eq_false]
  constructor
  · intro h
    refine ⟨fun x hx => ?_, distinct_of fun j hj => (h j hj).2⟩
    obtain ⟨i, hi⟩ := List.mem_iff_getElem?.1 hx
    simp [(h i (List.getElem?_eq_some_iff.1 hi).1).1 x hi]
  · rintro ⟨h1, h2⟩ i hi
    refine ⟨fun x hx => by simpa using h1 x (List.mem_of_getElem? hx), ?_⟩
    cases hd : dupL l i with
    | false => rfl
    | true => rw [dup_not hi hd] at h2; cases h2
/-- A host came, or none. -/
def NewM (may : Bool) (l : List Ad) (w : World) (e : Ending) (w' : World) : Prop :=
  ∃ v n, e = .returned (.tuple #[v, .int .i64 n]) ∧ Below w.heap.size w w' ∧ ((may = true ∧ n = 0 ∧ ∃ b, v = .pointer (some ⟨b, 0, none⟩) ∧ HostAt w' b l) ∨ (may = false ∧ n = 1 ∧ v = .pointer none))
theorem hostNew (mtu : Int) (a : Addr) (l : List Ad) (sc : Nat) (h1 : 1 ≤ l.length) (hsc : l.length ≤ sc) (w : World) (ha : a.block < w.heap.size) (hrow : RowA w a l) (hf : Fine l) :
    Calls Tryz.prog 44 #[.agg (setV (.slice (some a) l.length sc) mtu)] w (NewM (may0 l.length mtu && mayTo l (min l.length 5)) l w) := by
  rcases Nat.lt_or_ge 4 l.length with h4 | h4
  · refine (new_B mtu (some a) l.length sc h4 w).mono fun e w' he => ?_
    have hm : (may0 l.length mtu && mayTo l (min l.length 5)) = false := by
      have : decide (l.length ≤ 4) = false := by simp; omega
      simp [may0, this]
    exact ⟨_, _, he.1, he.2, .inr ⟨hm, rfl, rfl⟩⟩
  · rw [Nat.min_eq_left (by omega)]
    by_cases hno : (l.any fun x => !addrL x.1 x.2) = true ∨ mtu < 1280 ∨ 65535 < mtu
    · refine (new_C mtu a l sc h1 h4 w ha hrow hf hno).mono fun e w' he => ?_
      have hm : (may0 l.length mtu && mayTo l l.length) = false := by
        rcases hno with h | h | h
        · have : ¬ mayTo l l.length = true := by rw [mayTo_len]; rw [h]; simp
          simp [this]
        · have : decide (1280 ≤ mtu) = false := by simp; omega
          simp [may0, this]
        · have : decide (mtu ≤ 65535) = false := by simp; omega
          simp [may0, this]
      exact ⟨_, _, he.1, he.2, .inr ⟨hm, rfl, rfl⟩⟩
    · have hok : (l.any fun x => !addrL x.1 x.2) = false := by
        cases h : (l.any fun x => !addrL x.1 x.2) with
        | false => rfl
        | true => exact absurd (.inl h) hno
      have hm1 : 1280 ≤ mtu := by
        rcases Int.lt_or_le mtu 1280 with h | h
        · exact absurd (.inr (.inl h)) hno
        · exact h
      have hm2 : mtu ≤ 65535 := by
        rcases Int.lt_or_le 65535 mtu with h | h
        · exact absurd (.inr (.inr h)) hno
        · exact h
      refine (new_F mtu a l sc h1 h4 hsc w ha hrow hf hok hm1 hm2).mono fun e w' he => ?_
      have h0 : may0 l.length mtu = true := by simp [may0]; omega
      unfold NewP at he
      by_cases hd : distinctL l = true
      · rw [if_pos hd] at he
        obtain ⟨b, rfl, hh, hb⟩ := he
        exact ⟨_, _, rfl, hb, .inl ⟨by rw [h0, mayTo_len.2 ⟨hok, hd⟩]; rfl, rfl, b, rfl, hh⟩⟩
      · rw [if_neg hd] at he
        have : mayTo l l.length = false := by
          cases h : mayTo l l.length with
          | false => rfl
          | true => exact absurd (mayTo_len.1 h).2 hd
        exact ⟨_, _, he.1, he.2, .inr ⟨by rw [this]; simp, rfl, rfl⟩⟩
end Go.Hm
