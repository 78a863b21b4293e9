/- HostMay: slices.IndexFunc over addresses. · HostMay: slices.ContainsFunc, slices.Index, slices.Contains over addresses. · HostMay: slices.Index over addresses. · HostMay: slices.Contains over addresses. -/
import Derived.Test.YtecihapafnpgbaaGreatHmA
import Derived.Test.YtecihapafnpgbaaGreatAmB
import Derived.Test.YtecihapafnpgbaaGreatAmG
import Derived.Deep.QuietTactic
import Derived.BigQuiet
set_option linter.unusedSimpArgs false
set_option linter.unusedVariables false
set_option linter.constructorNameAsVariable false
set_option linter.unusedSectionVars false
namespace Go.Hm
open Go Go.Proofs Go.RowKit
abbrev Ad := Bool × List Nat
/-- A row of addresses from a place on. -/
def RowA (W : World) (a : Addr) (l : List Ad) : Prop := ∀ i x, l[i]? = some x → ∀ j, j < 17 → W.cell? ((a.add (i * 17)).add j) = (cellsA x.1 x.2)[j]?
def Fine (l : List Ad) : Prop := ∀ x ∈ l, x.2.length = 16 ∧ x.2.getD 0 0 < 256
theorem RowA.load {W : World} {a : Addr} {l : List Ad} (h : RowA W a l) (hf : Fine l) {i : Nat} {x : Ad} (hi : l[i]? = some x) :
    (loadVar 32 (a.add (i * 17))).run Tryz.prog W = .ok (.agg (cellsA x.1 x.2)) W :=
  run_loadVar_agg (fun w => Tryz.isAgg32 w) (fun w => Tryz.sizeOf32 w) _ _ (cellsA_size _ _ (hf x (List.mem_of_getElem? hi)).1) fun j v hj => by
    have hlt := (Array.getElem?_eq_some_iff.1 hj).1
    rw [cellsA_size _ _ (hf x (List.mem_of_getElem? hi)).1] at hlt
    rw [h i x hi j hlt]; exact hj
theorem RowA.below {W W' : World} {a : Addr} {l : List Ad} (h : RowA W a l) {n : Nat} (hb : Below n W W') (ha : a.block < n) : RowA W' a l := fun i x hi j hj => by
  rw [← h i x hi j hj]
  refine hb.cell ?_
  unfold Addr.add
  split <;> split <;> exact ha
/-- The first place at which a test holds; -1. -/
def indexL (p : Ad → Bool) (l : List Ad) : Int := match l.findIdx? p with | some i => (i : Int) | none => -1
theorem indexL_at {p : Ad → Bool} {l : List Ad} {k : Nat} {x : Ad} (hx : l[k]? = some x) (hp : p x = true) (hz : ∀ j, j < k → ∀ y, l[j]? = some y → p y = false) : indexL p l = (k : Int) := by
  obtain ⟨hk, rfl⟩ := List.getElem?_eq_some_iff.1 hx
  have : l.findIdx? p = some k := List.findIdx?_eq_some_iff_getElem.2 ⟨hk, hp, fun j hj => by rw [hz j hj _ (List.getElem?_eq_getElem (by omega))]; simp⟩
  simp [indexL, this]
theorem indexL_none {p : Ad → Bool} {l : List Ad} (hz : ∀ (j : Nat) y, l[j]? = some y → p y = false) : indexL p l = -1 := by
  have : l.findIdx? p = none := List.findIdx?_eq_none_iff.2 fun x hx => by
    obtain ⟨j, hj⟩ := List.mem_iff_getElem?.1 hx
    exact hz j x hj
  simp [indexL, this]
set_option maxRecDepth 100000 in
set_option maxHeartbeats 1000000 in
theorem index107 (g : Nat) (cap : Array Value) (p : Ad → Bool) (a : Addr) (l : List Ad) (sc : Nat) (w : World) (n : Nat) (hn : n ≤ w.heap.size) (ha : a.block < n) (hrow : RowA w a l) (hf : Fine l) (hlen : l.length ≤ 1000000000)
    (hen : ∀ args W, (callFunc g args).run Tryz.prog W = .ok (.enter g args) W)
    (hcall : ∀ x ∈ l, ∀ W, Below n w W → Calls Tryz.prog g (#[.agg (cellsA x.1 x.2)] ++ cap) W fun e W' => e = .returned (.bool (p x)) ∧ Below W.heap.size W W') :
    Calls Tryz.prog 85 #[.slice (some a) l.length sc, .func (.func g) #[] cap] w fun e w' => e = .returned (.int .i64 (indexL p l)) ∧ Below n w w' := by
  go_enter Tryz.func85, Tryz.ntmps85
  go_wp2
  go_loopw [8] (fun i W => ∃ k : Nat, k ≤ l.length ∧ i = .int .i64 k ∧ Below n w W ∧ ∀ j, j < k → ∀ x, l[j]? = some x → p x = false) (fun i _ => l.length - (intOf i).toNat)
  case atStart => exact ⟨0, Nat.zero_le _, rfl, Below.refl _ _, fun j hj => by omega⟩
  case round =>
    obtain ⟨k, hk, rfl, hb, hz⟩ := hrel
    rcases Nat.lt_or_ge k l.length with hlt | hge
    · obtain ⟨x, hx⟩ : ∃ x, l[k]? = some x := ⟨_, List.getElem?_eq_getElem hlt⟩
      have hld := (hrow.below hb ha).load hf hx
      have hc := hcall x (List.mem_of_getElem? hx) wr hb
      clear hcall hrow
      go_wp2_with (first
        | (refine wpList_load_agg rfl 32 _ rfl _ rfl (cellsA x.1 x.2) hld ?_)
        | (refine hc.mono ?_; rintro e w1 ⟨rfl, hb1⟩))
      · go_ret
        refine ⟨?_, hb.trans (hb1.mono (Nat.le_trans hn hb.size))⟩
        rw [indexL_at hx (by assumption) hz]; rfl
      · rename_i hp
        refine ⟨⟨k + 1, hlt, by simp, hb.trans (hb1.mono (Nat.le_trans hn hb.size)), fun j hj y hy => ?_⟩, by simp [intOf]; omega⟩
        rcases Nat.lt_or_ge j k with h | h
        · exact hz j h y hy
        · obtain rfl : j = k := by omega
          rw [hx] at hy; cases hy; exact hp
    · obtain rfl : k = l.length := by omega
      clear hcall
      go_wp2
      go_ret
      refine ⟨?_, hb⟩
      rw [indexL_none fun j x hx => hz j (List.getElem?_eq_some_iff.1 hx).1 x hx]; rfl
end Go.Hm
namespace Go.Hm
open Go Go.Proofs Go.RowKit
theorem indexL_ge (p : Ad → Bool) (l : List Ad) : decide (indexL p l ≥ 0) = l.any p := by
  unfold indexL
  rw [Bool.eq_iff_iff]
  cases h : l.findIdx? p with
  | none =>
    have := List.findIdx?_eq_none_iff.1 h
    have h2 : l.any p = false := by rw [List.any_eq_false]; intro x hx; rw [this x hx]; simp
    rw [h2]; simp
  | some i =>
    obtain ⟨hi, hp, _⟩ := List.findIdx?_eq_some_iff_getElem.1 h
    have h2 : l.any p = true := List.any_eq_true.2 ⟨_, List.getElem_mem hi, hp⟩
    rw [h2]; simp
set_option maxRecDepth 100000 in
set_option maxHeartbeats 1000000 in
theorem contains98 (g : Nat) (cap : Array Value) (p : Ad → Bool) (a : Addr) (l : List Ad) (sc : Nat) (w : World) (n : Nat) (hn : n ≤ w.heap.size) (ha : a.block < n) (hrow : RowA w a l) (hf : Fine l) (hlen : l.length ≤ 1000000000)
    (hen : ∀ args W, (callFunc g args).run Tryz.prog W = .ok (.enter g args) W)
    (hcall : ∀ x ∈ l, ∀ W, Below n w W → Calls Tryz.prog g (#[.agg (cellsA x.1 x.2)] ++ cap) W fun e W' => e = .returned (.bool (p x)) ∧ Below W.heap.size W W') :
    Calls Tryz.prog 77 #[.slice (some a) l.length sc, .func (.func g) #[] cap] w fun e w' => e = .returned (.bool (l.any p)) ∧ Below n w w' := by
  have hc := index107 g cap p a l sc w n hn ha hrow hf hlen hen hcall
  have hi := indexL_ge p l
  generalize l.any p = r at hi ⊢
  generalize indexL p l = i at hi hc
  clear hcall hrow
  go_enter Tryz.func77, Tryz.ntmps77
  go_wp2_with (first | (go_at_call 85; refine hc.mono ?_; rintro e w1 ⟨rfl, hb1⟩))
  go_ret
  exact ⟨by rw [← hi]; rfl, hb1⟩
end Go.Hm
namespace Go.Hm
open Go Go.Proofs Go.RowKit
theorem wpQuiet_value {P : Program} {ops : Array Oper} {C : World → Prop} {Q : Act → Prop} {o : Oper} {rest : List Oper} {a : Act} (hg : o.guard = none) (v : Value)
    (hr : ∀ w, C w → (execOp a.eval o).run P w = .ok (.value v) w) (h : wpQuiet P ops C Q rest (a.put o.dst v)) : wpQuiet P ops C Q (o :: rest) a := by
  unfold wpQuiet
  rw [show Region.wanted o (yielded ops a.tmps) = true from by simp [Region.wanted, hg], if_pos rfl]
  refine ⟨v, fun w hw => ?_, h⟩
  unfold Oper.quietAt
  rw [hr w hw]
  exact ⟨rfl, rfl⟩
theorem exec_load_agg {P : Program} {o : Oper} {a : Act} {w : World} {t : TypeId} {x : Operand} (hop : o.op = Op.load t x) {p : Addr} (hx : a.eval x = .pointer (some p)) {c : Array Value}
    (hrun : (loadVar t p).run P w = .ok (.agg c) w) : (execOp a.eval o).run P w = .ok (.value (.agg c)) w := by
  simp [execOp, hop, hx, Instr.loadAt, Instr.sureAddr, Result.andThen, hrun]
theorem exec_eql29 {o : Oper} {a : Act} {w : World} {x y : Operand} {r : Bool} (hop : o.op = Op.binOp .eql 32 x y 32) {u v : Array Value} (hx : a.eval x = .agg u) (hy : a.eval y = .agg v)
    (hr : (Op.equalIn 10000 32 (.agg u) (.agg v)).run Tryz.prog w = .ok r w) : (execOp a.eval o).run Tryz.prog w = .ok (.value (.bool r)) w := by
  have h1 : (binOp .eql 32 (.agg u) (.agg v)).run Tryz.prog w = .ok (.bool r) w := by
    have h2 : (Op.equal 32 (.agg u) (.agg v)).run Tryz.prog w = .ok r w := hr
    unfold binOp
    simp [h2, Result.andThen]
  have h3 : (eqGuard .eql 32 x y (.agg u) (.agg v)).run Tryz.prog w = .ok () w := by
    exact run_eqGuard_agg w .eql 32 x y _ _ (Go.Am.eqGuard_plain 40 32 _ kinds29 _ Go.Am.tryz_fit.depth)
  simp [execOp, hop, hx, hy, h1, h3, Result.andThen]
set_option maxRecDepth 100000 in
set_option maxHeartbeats 1000000 in
theorem index180 (y : Ad) (hy : y.2.length = 16) (a : Addr) (l : List Ad) (sc : Nat) (w : World) (n : Nat) (hn : n ≤ w.heap.size) (ha : a.block < n) (hrow : RowA w a l) (hf : Fine l) (hlen : l.length ≤ 1000000000) :
    Calls Tryz.prog 104 #[.slice (some a) l.length sc, .agg (cellsA y.1 y.2)] w fun e w' => e = .returned (.int .i64 (indexL (fun x => y.1 == x.1 && y.2 == x.2) l)) ∧ Below n w w' := by
  go_enter Tryz.func104, Tryz.ntmps104
  go_wp2
  go_loopw [8] (fun i W => ∃ k : Nat, k ≤ l.length ∧ i = .int .i64 k ∧ Below w.heap.size w W ∧ (∀ j, W.cell? ⟨w.heap.size, j, none⟩ = (cellsA y.1 y.2)[j]?) ∧ ∀ j, j < k → ∀ x, l[j]? = some x → (y.1 == x.1 && y.2 == x.2) = false) (fun i _ => l.length - (intOf i).toNat)
  case atStart => exact ⟨0, Nat.zero_le _, rfl, (Below.refl _ _).alloc (Nat.le_refl _) _, fun j => cell_last _ _ _ j, fun j hj => by omega⟩
  case round =>
    obtain ⟨k, hk, rfl, hb, hc, hz⟩ := hrel
    rcases Nat.lt_or_ge k l.length with hlt | hge
    · obtain ⟨x, hx⟩ : ∃ x, l[k]? = some x := ⟨_, List.getElem?_eq_getElem hlt⟩
      have hld := (hrow.below (hb.mono hn) ha).load hf hx
      have hly := load29_at wr w.heap.size y.1 y.2 hy hc
      have hE := equal29 y.1 x.1 y.2 x.2 hy (hf x (List.mem_of_getElem? hx)).1
      have hldR : ∀ m, (loadVar 32 (a.add (k * 17))).run Tryz.prog (wr.drewN m) = .ok (.agg (cellsA x.1 x.2)) (wr.drewN m) := fun m =>
        RowA.load (W := wr.drewN m) (fun i x hi j hj => (hrow.below (hb.mono hn) ha) i x hi j hj) hf hx
      have hsz : w.heap.size < wr.heap.size := by
        have h0 := hc 0
        rw [cellsA_zero] at h0
        unfold World.cell? at h0
        rcases Nat.lt_or_ge w.heap.size wr.heap.size with h | h
        · exact h
        · rw [Array.getElem?_eq_none h] at h0; cases h0
      clear hrow
      generalize hr : (y.1 == x.1 && y.2 == x.2) = r at hE
      go_wp2
      have hcl : ∀ W n, W = wr.drewN n → Below wr.heap.size wr W := fun W n h => by subst h; exact ⟨rfl, rfl, rfl, Nat.le_refl _, fun _ _ => rfl⟩
      refine wp_region_quiet_lit (by kernel_rfl) (by kernel_rfl) ?_
      refine wpQuiet_value rfl (.agg (cellsA y.1 y.2)) (fun W hW => ?_) ?_
      · obtain ⟨m, rfl⟩ := hW
        exact exec_load_agg rfl rfl (load29_at _ w.heap.size y.1 y.2 hy hc)
      refine wpQuiet_value rfl (.slice (some a) l.length sc) (fun W hW => rfl) ?_
      refine wpQuiet_value rfl (.int .i64 k) (fun W hW => rfl) ?_
      refine wpQuiet_value rfl (.pointer (some (a.add (k * 17)))) (fun W hW => ?_) ?_
      · simp [execOp, Act.eval, Act.put, go_sem]
        intro h; omega
      refine wpQuiet_value rfl (.agg (cellsA x.1 x.2)) (fun W hW => ?_) ?_
      · obtain ⟨m, rfl⟩ := hW
        exact exec_load_agg rfl rfl (hldR m)
      refine wpQuiet_value rfl (.bool r) (fun W hW => ?_) ?_
      · exact exec_eql29 rfl rfl rfl (hE W)
      refine wpQuiet_nil ?_
      rintro W ⟨m, rfl⟩
      have hw1 := hcl _ m rfl
      generalize wr.drewN m = W at hw1 ⊢
      clear hcl hldR hld hly hE
      go_wp2
      · go_ret
        refine ⟨?_, (hb.trans (hw1.mono hb.size)).mono hn⟩
        rw [indexL_at hx (hr.trans (by assumption)) hz]; rfl
      · rename_i hp
        refine ⟨⟨k + 1, hlt, by simp, hb.trans (hw1.mono hb.size), fun j => ?_, fun j hj z hz1 => ?_⟩, by simp [intOf]; omega⟩
        · rw [hw1.cell (p := ⟨w.heap.size, j, none⟩) (by show w.heap.size < wr.heap.size; exact hsz)]; exact hc j
        · rcases Nat.lt_or_ge j k with h | h
          · exact hz j h z hz1
          · obtain rfl : j = k := by omega
            rw [hx] at hz1; cases hz1; exact hr.trans hp
    · obtain rfl : k = l.length := by omega
      go_wp2
      go_ret
      refine ⟨?_, hb.mono hn⟩
      rw [indexL_none fun j x hx => hz j (List.getElem?_eq_some_iff.1 hx).1 x hx]; rfl
end Go.Hm
namespace Go.Hm
open Go Go.Proofs Go.RowKit
set_option maxRecDepth 100000 in
set_option maxHeartbeats 1000000 in
theorem contains99 (y : Ad) (hy : y.2.length = 16) (a : Addr) (l : List Ad) (sc : Nat) (w : World) (n : Nat) (hn : n ≤ w.heap.size) (ha : a.block < n) (hrow : RowA w a l) (hf : Fine l) (hlen : l.length ≤ 1000000000) :
    Calls Tryz.prog 42 #[.slice (some a) l.length sc, .agg (cellsA y.1 y.2)] w fun e w' => e = .returned (.bool (l.any fun x => y.1 == x.1 && y.2 == x.2)) ∧ Below n w w' := by
  have hL := load29_last w y.1 y.2 hy
  have hi := indexL_ge (fun x => y.1 == x.1 && y.2 == x.2) l
  have hc := fun w1 (hb : Below w.heap.size w w1) => index180 y hy a l sc w1 n (Nat.le_trans hn hb.size) ha (hrow.below (hb.mono hn) ha) hf hlen
  generalize (l.any fun x => y.1 == x.1 && y.2 == x.2) = r at hi ⊢
  generalize indexL (fun x => y.1 == x.1 && y.2 == x.2) l = i at hi hc
  clear hrow
  go_enter Tryz.func42, Tryz.ntmps42
  go_wp2_with (first | (refine wpList_load_agg rfl 32 _ rfl _ rfl (cellsA y.1 y.2) hL ?_) | (go_at_call 104; refine (hc _ ((Below.refl _ w).alloc (Nat.le_refl _) _)).mono ?_; rintro e w1 ⟨rfl, hb1⟩))
  go_ret
  exact ⟨by rw [← hi]; rfl, (((Below.refl _ w).alloc (Nat.le_refl _) _).mono hn).trans hb1⟩
end Go.Hm
