/- The abstract machine, part 17: rows made longer. · The abstract machine, part 18: maps. · The abstract machine, part 19: maps gone through; every operation. · The abstract machine, part 20: every operation. · The abstract machine, part 21: operations that make a block, at any later time; operations that only read, or hang on their operands alone. · The abstract machine, part 22: operations that hang on their operands alone; operations that read; operations that make a block. -/
import Derived.Test.YtecihapafnpgbaaGreatAmC
import Derived.Laws.Append
import Derived.Test.YtecihapafnpgbaaGreatAmA
set_option linter.unusedSimpArgs false
set_option linter.unusedVariables false
set_option linter.constructorNameAsVariable false
set_option linter.unusedSectionVars false
namespace Go.Am
set_option linter.unusedSectionVars false
variable [Env]
open Go.RowKit (Below)
set_option linter.unusedSimpArgs false
set_option linter.unusedVariables false

section
variable {P : Program} {base : Nat} {σ : Sg} {m : Mem} {w : World} {ρ : Operand → Value} {o : Oper} {tm : Tr Value} {act : Act}

theorem isIntT_some {tys : Array TypeId} {zeros : Bool} (h : isIntT P tys.toList[1]? = some zeros) : (tys[1]? = none ∧ zeros = false) ∨ ∃ t d, tys[1]? = some t ∧ P.underlying t = some d ∧ zeros = isIntD d := by
  have ht : tys.toList[1]? = tys[1]? := by simp
  rw [ht] at h
  cases h1 : tys[1]? with
  | none => rw [h1] at h; injection h with h; exact .inl ⟨rfl, h.symm⟩
  | some t =>
    rw [h1] at h
    obtain ⟨d, hd, h⟩ := b_some.1 (show ((undA P t).b fun d => some (isIntD d)) = some zeros from h)
    replace hd := undA_some hd
    injection h with h
    exact .inr ⟨t, d, rfl, hd, h.symm⟩

theorem isIntD_true {d : TypeDesc} (h : isIntD d = true) : ∃ k, d = .int k := by
  cases d <;> first | exact ⟨_, rfl⟩ | cases h

/-- How many are appended, and their cells. -/
def NewsRun (P : Program) (w : World) (e : TypeId) (size : Nat) (zeros : Bool) (x : Value) (n : Nat) (new : List Value) : Prop :=
  (zeros = false ∧ (Builtin.lenOf x).run P w = .ok n w ∧ (Builtin.firstCells size n x).run P w = .ok ⟨new⟩ w) ∨
    (zeros = true ∧ (∃ k, x = .int k (n : Int)) ∧ n ≤ mostLen ∧ ∃ z : Value, (zeroValue e).run P w = .ok z w ∧ z.cells.size = size ∧ new = reps z.cells.toList n)

theorem append_news {e : TypeId} {size n : Nat} {zeros : Bool} {x : Value} {new : List Value} (hn : NewsRun P w e size zeros x n new) (h0 : size ≠ 0) :
    (if (!zeros) = true then Builtin.firstCells size n x else if n * size = 0 then pure #[] else do pure (Builtin.zeroCells (← zeroValue e).cells n) : Sem (Array Value)).run P w = .ok ⟨new⟩ w := by
  rcases hn with ⟨rfl, h1, h2⟩ | ⟨rfl, ⟨k, rfl⟩, hm, z, hz, hs, rfl⟩
  · rw [if_pos (by decide), h2]
  · rw [if_neg (by decide)]
    by_cases hn0 : n = 0
    · subst hn0
      rw [if_pos (Nat.zero_mul _)]
      rfl
    · rw [if_neg (Nat.mul_ne_zero hn0 h0)]
      rw [Sem.run_bind, hz, Result.andThen_ok, Sem.run_pure]
      unfold Builtin.zeroCells
      rw [range_zero z.cells (by omega) n]

theorem append_stay {tys : Array TypeId} {ty dt e : TypeId} {size len c' n : Nat} {zeros : Bool} {x : Value} {new : List Value} {i : TypeInfo} (hdt : tys[0]? = some dt) (he : P.underlying dt = some (.slice e)) (hsz : sizeT P e = some size) (hi : P.info? e = some i)
    (hz : isIntT P tys.toList[1]? = some zeros) (hn : NewsRun P w e size zeros x n new) (hb : n * i.bytes ≤ 1000000000) (h0 : size ≠ 0) (hle : len + n ≤ c') (a' : Option Addr) :
    (Builtin.append_ tys ty #[.slice a' len c', x]).run P w =
      (Sem.run P (match a' with | some a => storeCells (a.add (len * size)) new | none => pure ()) w).andThen fun _ w' => .ok (.slice a' (len + n) c') w' := by
  have hnew := append_news hn h0
  have hml : mostLen = 1000000000 := rfl
  unfold Builtin.append_
  rw [hdt]
  simp only [List.getElem?_toArray, List.getElem?_cons_zero, List.getElem?_cons_succ]
  rw [Sem.run_bind, run_under he, Result.andThen_ok]
  simp only []
  rw [Sem.run_bind, run_size hsz, Result.andThen_ok]
  rcases hn with ⟨rfl, h1, h2⟩ | ⟨rfl, ⟨k, rfl⟩, hm, z, hzz, hs, rfl⟩
  · have hfin : (Sem.run P (do
        let new ← Builtin.firstCells size n x
        match a' with
        | some a => do
          storeCells (a.add (len * size)) new.toList
          pure (Value.slice a' (len + n) c')
        | x => pure (Value.slice a' (len + n) c')) w) = (Sem.run P (match a' with | some a => storeCells (a.add (len * size)) new | none => pure ()) w).andThen fun _ w' => .ok (.slice a' (len + n) c') w' := by
      rw [Sem.run_bind, h2, Result.andThen_ok]
      cases a' with
      | none => rfl
      | some a => rw [Sem.run_bind]; rfl
    rcases isIntT_some hz with ⟨h3, _⟩ | ⟨t, d, h3, h4, h5⟩
    · rw [h3]
      simp only [Sem.run_bind, Sem.run_pure, Result.andThen_ok, Bool.false_eq_true, if_false, Bool.not_false, if_true, h1, if_pos hle]
      simp only [Sem.run_bind] at hfin
      exact hfin
    · rw [h3]
      simp only [Sem.run_bind, run_under h4, Result.andThen_ok]
      cases d <;> first
        | (simp only [Sem.run_bind, Sem.run_pure, Result.andThen_ok, Bool.false_eq_true, if_false, Bool.not_false, if_true, h1, if_pos hle]
           simp only [Sem.run_bind] at hfin
           exact hfin)
        | (cases h5; done)
  · rcases isIntT_some hz with ⟨_, h3⟩ | ⟨t, d, h3, h4, h5⟩
    · cases h3
    · obtain ⟨kk, rfl⟩ := isIntD_true h5.symm
      rw [h3]
      have hw := wrap_i64 hm
      have hlt : ¬ ((n : Int) < 0) := by omega
      have hb2 : ¬ ((n : Int) * (i.bytes : Int) > 2 ^ 48) := by
        have h1 : ((n * i.bytes : Nat) : Int) ≤ 1000000000 := by omega
        rw [Int.natCast_mul] at h1
        omega
      have htn : (n : Int).toNat = n := by omega
      simp only [Bool.not_true, Bool.false_eq_true, if_false] at hnew
      simp only [Sem.run_bind, run_under h4, Result.andThen_ok, Sem.run_pure, if_true, asInt, asIntOf, hw, if_neg hlt, run_info hi, if_neg hb2, htn, if_pos hle, Bool.not_true, Bool.false_eq_true, if_false]
      rw [hnew, Result.andThen_ok]
      cases a' with
      | none => rfl
      | some a => rw [Sem.run_bind]; rfl

theorem append_grow {tys : Array TypeId} {ty dt e : TypeId} {size len c' n : Nat} {zeros : Bool} {x : Value} {new old : List Value} {i : TypeInfo} (hdt : tys[0]? = some dt) (he : P.underlying dt = some (.slice e)) (hsz : sizeT P e = some size) (hi : P.info? e = some i)
    (hz : isIntT P tys.toList[1]? = some zeros) (hn : ∀ k, NewsRun P { w with drawn := k } e size zeros x n new) (hb : (len + n) * (i.bytes + 1) ≤ 1000000000) (h0 : size ≠ 0) (hgt : c' < len + n) (a' : Option Addr)
    (hold : ∀ k, (Builtin.firstCells size len (.slice a' len c')).run P { w with drawn := k } = .ok ⟨old⟩ { w with drawn := k }) {z : Value} (hzv : zeroV P e = some z) (hzs : z.cells.size = size) :
    ∃ cap, len + n ≤ cap ∧ (Builtin.append_ tys ty #[.slice a' len c', x]).run P w =
      .ok (.slice (some ⟨w.heap.size, 0, none⟩) (len + n) cap) { w with heap := w.heap.push (.cells ⟨old ++ new ++ reps z.cells.toList (cap - (len + n))⟩ e), drawn := w.drawn + 1 } := by
  have hb1 : (len + n) * i.bytes ≤ 1000000000 := Nat.le_trans (Nat.mul_le_mul_left _ (by omega)) hb
  have hb3 : n * i.bytes ≤ 1000000000 := Nat.le_trans (Nat.mul_le_mul_right _ (by omega)) hb1
  have hneed : len + n ≤ 1000000000 := Nat.le_trans (Nat.le_mul_of_pos_right _ (by omega)) hb
  have hnew := append_news (hn (w.drawn + 1)) h0
  have hold := hold (w.drawn + 1)
  have hn := hn w.drawn
  have hml : mostLen = 1000000000 := rfl
  refine ⟨len + n + (w.tape w.drawn (.appendCap (len + n) c' e)) % (2 ^ 63 - (len + n)), by omega, ?_⟩
  have hch : Sem.run P (choose (.appendCap (len + n) c' e)) w = .ok (len + n + (w.tape w.drawn (.appendCap (len + n) c' e)) % (2 ^ 63 - (len + n))) { w with drawn := w.drawn + 1 } := by
    rw [run_choose, if_neg (by simp [Question.forced])]; rfl
  have hcap : len + n ≤ len + n + (w.tape w.drawn (.appendCap (len + n) c' e)) % (2 ^ 63 - (len + n)) := by omega
  generalize len + n + (w.tape w.drawn (.appendCap (len + n) c' e)) % (2 ^ 63 - (len + n)) = cap at hch hcap ⊢
  have hmax : ∀ p : Prop, ¬ (((len + n : Nat) : Int) > IntKind.i64.max ∧ p) := by
    intro p ⟨h, _⟩
    have : IntKind.i64.max = 9223372036854775807 := by decide
    omega
  have hnext : ¬ (Builtin.nextslicecap (len + n) c' * i.bytes > 2 ^ 48) := by
    have := growslice_fits (bytes := i.bytes) hgt (by omega)
    omega
  have hstay : ¬ (len + n ≤ c') := by omega
  unfold Builtin.append_
  rw [hdt]
  simp only [List.getElem?_toArray, List.getElem?_cons_zero, List.getElem?_cons_succ]
  rw [Sem.run_bind, run_under he, Result.andThen_ok]
  simp only []
  rw [Sem.run_bind, run_size hsz, Result.andThen_ok]
  have hzc : ∀ k, Builtin.zeroCells z.cells k = ⟨reps z.cells.toList k⟩ := fun k => range_zero z.cells (by omega) k
  have happ : ∀ a b c : List Value, (⟨a⟩ : Array Value) ++ ⟨b⟩ ++ ⟨c⟩ = ⟨a ++ b ++ c⟩ := fun a b c => by apply Array.ext'; simp
  rcases hn with ⟨rfl, h1, h2⟩ | ⟨rfl, ⟨k, rfl⟩, hm, z', hzz, hs, rfl⟩
  · have h1 : Sem.run P (Builtin.lenOf x) w = .ok n w := h1
    simp only [Bool.not_false, if_true] at hnew
    rcases isIntT_some hz with ⟨h3, _⟩ | ⟨t, d, h3, h4, h5⟩
    · rw [h3]
      simp only [Sem.run_bind, Sem.run_pure, Result.andThen_ok, Bool.false_eq_true, if_false, Bool.not_false, if_true, h1, if_neg hstay, run_info hi, if_neg (hmax _), if_neg hnext, hch, run_askRoom, hold, hnew, run_zero hzv, hzc, Go.newRow, run_newObj, happ]
    · rw [h3]
      simp only [Sem.run_bind, run_under h4, Result.andThen_ok]
      cases d <;> first
        | (simp only [Sem.run_bind, Sem.run_pure, Result.andThen_ok, Bool.false_eq_true, if_false, Bool.not_false, if_true, h1, if_neg hstay, run_info hi, if_neg (hmax _), if_neg hnext, hch, run_askRoom, hold, hnew, run_zero hzv, hzc, Go.newRow, run_newObj, happ]; done)
        | (cases h5; done)
  · rcases isIntT_some hz with ⟨_, h3⟩ | ⟨t, d, h3, h4, h5⟩
    · cases h3
    · obtain ⟨kk, rfl⟩ := isIntD_true h5.symm
      rw [h3]
      have hw := wrap_i64 hm
      have hlt : ¬ ((n : Int) < 0) := by omega
      have hb2 : ¬ ((n : Int) * (i.bytes : Int) > 2 ^ 48) := by
        have h1 : ((n * i.bytes : Nat) : Int) ≤ 1000000000 := by omega
        rw [Int.natCast_mul] at h1
        omega
      have htn : (n : Int).toNat = n := by omega
      simp only [Bool.not_true, Bool.false_eq_true, if_false] at hnew
      simp only [Sem.run_bind, run_under h4, Result.andThen_ok, Sem.run_pure, if_true, asInt, asIntOf, hw, if_neg hlt, run_info hi, if_neg hb2, htn, if_neg hstay, Bool.not_true, Bool.false_eq_true, if_false, if_neg (hmax _), if_neg hnext, hch, run_askRoom, hold, hnew, run_zero hzv, hzc, Go.newRow, run_newObj, happ]

theorem news_rel (h : Rel P base σ m w) {e : TypeId} {size n : Nat} {zeros : Bool} {x x' : Value} {new : List Value} (hs : sizeT P e = some size) (hx : VRel σ x x') (hn : newsA P e size zeros x m = some (n, new)) :
    ∃ new', (∀ k, NewsRun P { w with drawn := k } e size zeros x' n new') ∧ LRel σ new new' ∧ new.length = n * size := by
  cases zeros with
  | false =>
    obtain ⟨q, hq, hn⟩ := b_some.1 (show ((lenA x).b fun n => (firstA size n x m).b fun l => some (n, l)) = some (n, new) from hn)
    obtain ⟨l, hl, hn⟩ := b_some.1 hn
    injection hn with hn
    injection hn with h1 h2
    subst h1; subst h2
    obtain ⟨l', g1, g2, g3⟩ := first_relK h hx hl
    exact ⟨l', fun k => .inl ⟨rfl, len_rel hx hq _, g1 k⟩, g2, g3⟩
  | true =>
    obtain ⟨k, a, ha, hn⟩ := b2_some.1 (show (b2 (vInt x) fun _ a => bC (leI (.ofNat 0) a) (fN (toN a) fun n => bC (Nat.ble n mostLen) ((zeroT P e).b fun z => (repL z n).b fun l => some (n, l)) none) none) = some (n, new) from hn)
    obtain ⟨hle, hn⟩ := bC_some.1 hn
    have hle : (0 : Int) ≤ a := (leI_eq _ _).1 hle
    rw [fN_eq, toN_eq] at hn
    obtain ⟨hm, hn⟩ := bC_some.1 hn
    have hm := (nble _ _).1 hm
    obtain ⟨z, hz, hn⟩ := b_some.1 hn
    obtain ⟨l, hl, hn⟩ := b_some.1 hn
    injection hn with hn
    injection hn with h1 h2
    subst h1; subst h2
    obtain ⟨zv, zn, hzv, hzn, hzc, hzl⟩ := zeroT_some hz
    rw [hs] at hzn; injection hzn with hzn; subst hzn
    obtain ⟨_, _, _, hflat⟩ := zeroV_some hzv
    have hcl : (cellsL zv) = zv.cells.toList := cellsL_eq zv
    have hfl : LRel σ zv.cells.toList zv.cells.toList := by have := (hflat.rel (σ := σ)).cells; rw [hcl] at this; exact this
    have hl := (repL_eq _ _ _).1 hl
    rw [hzc, hcl] at hl
    have hzs : zv.cells.toList.length = size := by rw [← hcl, ← hzc]; exact hzl
    have hrl : ∀ n, (reps zv.cells.toList n).length = n * size := by
      intro n
      induction n with
      | zero => simp [reps]
      | succ n ih => rw [reps, List.length_append, ih, hzs, Nat.add_mul]; omega
    subst hl
    have hxi := vInt_some ha
    refine ⟨reps zv.cells.toList a.toNat, fun j => .inr ⟨rfl, ⟨k, ?_⟩, hm, zv, run_zero hzv _, by simpa using hzs, rfl⟩, hfl.reps _, hrl _⟩
    rw [hxi] at hx
    rw [hx.int_inv, Int.toNat_of_nonneg hle]

/-- The world changes where nothing lies. -/
theorem Rel.away (h : Rel P base σ m w) {k : Nat} {o : Obj} (hk : ∀ c x p, m.get c = some x → σ c = some p → p.blk ≠ k) (hk' : ∀ c p, σ c = some p → p.named → p.blk ≠ k) (hl : k < w.heap.size) : Rel P base σ m (setArr w k o) := by
  have key : ∀ c x p, m.get c = some x → σ c = some p → (setArr w k o).heap[p.blk]? = w.heap[p.blk]? := fun c x p hc hp => by
    rw [setArr_get hl, if_neg (hk c x p hc hp)]
  refine ⟨?_, ?_, ?_, h.inj, h.fresh, by simp [setArr]; exact h.base, fun c p hp hn => by
    obtain ⟨⟨arr, e, fz, h1, h2⟩, h3⟩ := h.own c p hp hn
    exact ⟨⟨arr, e, fz, by rw [setArr_get hl, if_neg (hk' c p hp hn)]; exact h1, h2⟩, h3⟩⟩
  · intro b rw' e vs hb p hp
    rw [key b _ p hb hp]
    exact h.cells b rw' e vs hb p hp
  · intro b es c hb p hp
    rw [key b _ p hb hp]
    exact h.map b es c hb p hp
  · intro b r a s t hb p hp
    rw [key b _ p hb hp]
    exact h.iter b r a s t hb p hp

/-- A block without a place gets one, in an object of the world where nothing else lies. -/
theorem Rel.placeAt (h : Rel P base σ m w) {b : Nat} {x : Blk} {p : Pl} {o : Obj} (hb : m.get b = some x) (hs : σ b = none) (hn : b < m.nxt) (hw : w.heap[p.blk]? = some o) (hbase : base ≤ p.blk)
    (hk : ∀ c x q, m.get c = some x → σ c = some q → q.blk ≠ p.blk) (hk' : ∀ c q, σ c = some q → q.named → q.blk ≠ p.blk) (ho : ObjRel P base σ x p o) (hnm : ¬ p.named) : Rel P base (Am.place σ b p) m w := by
  have hsub := place_sub (p := p) hs
  have hpl : ∀ c q, Am.place σ b p c = some q → (c = b ∧ q = p) ∨ (c ≠ b ∧ σ c = some q) := fun c q hq => by
    unfold Am.place at hq
    by_cases e : c = b
    · rw [if_pos e] at hq; injection hq with hq; exact .inl ⟨e, hq.symm⟩
    · rw [if_neg e] at hq; exact .inr ⟨e, hq⟩
  refine ⟨?_, ?_, ?_, ?_, ?_, h.base, ?_⟩
  · intro c rw' e vs hc q hq
    rcases hpl c q hq with ⟨rfl, rfl⟩ | ⟨hne, hq⟩
    · rw [hb] at hc; injection hc with hc; subst hc
      obtain ⟨h0, h1, h2, arr, fz, rfl, h3, h4, h5⟩ := ho
      refine ⟨h0, h1, h2, fun _ => hbase, arr, fz, hw, h3, h4, fun i v hv => ?_⟩
      obtain ⟨v', a, r⟩ := h5 i v hv
      exact ⟨v', a, r.mono hsub⟩
    · obtain ⟨h0, h1, h2, h3, arr, fz, h4, h5, h6, h7⟩ := h.cells c rw' e vs hc q hq
      refine ⟨h0, h1, h2, h3, arr, fz, h4, h5, h6, fun i v hv => ?_⟩
      obtain ⟨v', a, r⟩ := h7 i v hv
      exact ⟨v', a, r.mono hsub⟩
  · intro c es k hc q hq
    rcases hpl c q hq with ⟨rfl, rfl⟩ | ⟨hne, hq⟩
    · rw [hb] at hc; injection hc with hc; subst hc
      obtain ⟨es', rfl, h1⟩ := ho
      exact ⟨hbase, es', hw, h1.mono hsub⟩
    · obtain ⟨h1, es', h2, h3⟩ := h.map c es k hc q hq
      exact ⟨h1, es', h2, h3.mono hsub⟩
  · intro c r a s t hc q hq
    rcases hpl c q hq with ⟨rfl, rfl⟩ | ⟨hne, hq⟩
    · rw [hb] at hc; injection hc with hc; subst hc
      obtain ⟨h0, r', h1, rfl⟩ := ho
      exact ⟨h0, hbase, r', h1.mono hsub, hw⟩
    · obtain ⟨h0, h1, r', h2, h3⟩ := h.iter c r a s t hc q hq
      exact ⟨h0, h1, r', h2.mono hsub, h3⟩
  · intro c d x y q r hc hd hq hr e
    rcases hpl c q hq with ⟨h1, h2⟩ | ⟨hne, hq'⟩ <;> rcases hpl d r hr with ⟨h3, h4⟩ | ⟨hne', hr'⟩
    · rw [h1, h3]
    · rw [h2] at e; exact absurd e.symm (hk d y r hd hr')
    · rw [h4] at e; exact absurd e (hk c x q hc hq')
    · exact h.inj c d x y q r hc hd hq' hr' e
  · intro c hc
    unfold Am.place
    rw [if_neg (by omega)]
    exact h.fresh c hc
  · intro c q hq hnn
    rcases hpl c q hq with ⟨rfl, rfl⟩ | ⟨hne, hq'⟩
    · exact absurd hnn hnm
    · obtain ⟨h1, h3⟩ := h.own c q hq' hnn
      have h4 := hk' c q hq' hnn
      refine ⟨h1, fun d x r hd hr => ?_⟩
      rcases hpl d r hr with ⟨_, h5⟩ | ⟨_, hr'⟩
      · rw [h5]; exact fun e => h4 e.symm
      · exact h3 d x r hd hr'

theorem killA_rel (h : Rel P base σ m w) {e cap : Nat} {a : Option Addr} {m2 : Mem} (hk : killA m e cap a = some m2) (ha : ∀ b q s, a = some ⟨b, q, s⟩ → ∃ p, σ b = some p) :
    Rel P base σ m2 w ∧ Ext σ m σ m2 := by
  unfold killA at hk
  rw [bC_eq] at hk
  split at hk
  · cases a with
    | none =>
      injection (show some m = some m2 from hk) with hk
      subst hk
      exact ⟨h, Ext.refl _ _⟩
    | some a =>
      obtain ⟨b, q, s⟩ := a
      obtain ⟨⟨rw', e2, vs⟩, hr, hk⟩ := b_some.1 (show ((m.row b).b fun r => rowC r fun rw e2 _ => bC (bC rw (Nat.beq e e2) false) (m.put b none) none) = some m2 from hk)
      obtain ⟨hrw, hk⟩ := bC_some.1 hk
      obtain ⟨p, hp⟩ := ha b q s rfl
      obtain ⟨h1, h2, _⟩ := h.kill hp hk
      exact ⟨h1, h2⟩
  · injection hk with hk
    subst hk
    exact ⟨h, Ext.refl _ _⟩

/-- It does not fit: a new row. -/
theorem grow_rel (h : Rel P base σ m w) {tys : Array TypeId} {ty dt e : TypeId} {size bytes len cap c' n : Nat} {zeros : Bool} {a a' : Option Addr} {d x' v : Value} {new new' : List Value} {m' : Mem} (hdt : tys[0]? = some dt) (he : tSlice P dt = some e)
    (hs : sizeT P e = some size) (hby : bytesT P e = some bytes) (h0 : size ≠ 0) (hz : isIntT P tys.toList[1]? = some zeros) (hn : ∀ k, NewsRun P { w with drawn := k } e size zeros x' n new') (hnew : LRel σ new new') (hnl : new.length = n * size)
    (hmost : (len + n) * (bytes + 1) ≤ mostLen) (hd : VRel σ d (.slice a' len c')) (hg : growA P e size len cap a d n new m = some (v, m')) (hgt : c' < len + n) (ha : ∀ b q s, a = some ⟨b, q, s⟩ → ∃ p, σ b = some p) :
    ∃ v' w' σ', (Builtin.append_ tys ty #[.slice a' len c', x']).run P w = .ok v' w' ∧ VRel σ' v v' ∧ Rel P base σ' m' w' ∧ Ext σ m σ' m' ∧ Below base w w' := by
  obtain ⟨old, hold, hg⟩ := b_some.1 hg
  obtain ⟨z, hzt, hg⟩ := b_some.1 hg
  obtain ⟨_, hg⟩ := bC_some.1 hg
  obtain ⟨l, hl, hg⟩ := b_some.1 hg
  obtain ⟨m2, hk, hg⟩ := b_some.1 hg
  obtain ⟨b, m3, hnw, hg⟩ := b2_some.1 hg
  rw [fN_eq] at hg
  injection hg with hg
  injection hg with h1 h2
  subst h1; subst h2
  have := (appL_eq _ _ _).1 hl; subst this
  obtain ⟨zv, zn, hzv, hzn, hzc, hzl⟩ := zeroT_some hzt
  rw [hs] at hzn; injection hzn with hzn; subst hzn
  have hcl : (cellsL zv) = zv.cells.toList := cellsL_eq zv
  have hzs : zv.cells.toList.length = size := by rw [← hcl, ← hzc]; exact hzl
  have hrl : ∀ n, (reps zv.cells.toList n).length = n * size := by
    intro n
    induction n with
    | zero => simp [reps]
    | succ n ih => rw [reps, List.length_append, ih, hzs, Nat.add_mul]; omega
  obtain ⟨i, hi, rfl⟩ := bytesT_some hby
  obtain ⟨old', ho1, ho2, ho3⟩ := first_relK h hd hold
  obtain ⟨nc, hnc, hrun⟩ := append_grow (ty := ty) hdt (tSlice_some he) hs hi hz hn hmost h0 hgt a' ho1 hzv (by simpa using hzs)
  obtain ⟨k1, k2⟩ := killA_rel h hk ha
  have hol := ho2.1
  have hnl' := hnew.1
  have hlen : (old' ++ new').length = (len + n) * size := by rw [List.length_append, ← hol, ← hnl', ho3, hnl, Nat.add_mul]
  have hlen2 : (old ++ new).length = (len + n) * size := by rw [List.length_append, ho3, hnl, Nat.add_mul]
  obtain ⟨r1, r2, r3⟩ := k1.newRow hnw (ho2.append hnew) nc size 1 (cellsOf_eq hs).symm (arr := ⟨old' ++ new' ++ reps zv.cells.toList (nc - (len + n))⟩)
    (by rw [hlen2, ← hlen]; exact List.take_left' rfl)
    (by show nc * size ≤ (old' ++ new' ++ reps zv.cells.toList (nc - (len + n))).length
        rw [List.length_append, hlen, hrl, ← Nat.add_mul]
        exact Nat.mul_le_mul_right _ (by omega))
    (by rw [hlen2]; exact Nat.mul_le_mul_right _ hnc) (0, 0) (.inl rfl)
  refine ⟨_, _, _, hrun, ?_, r1, k2.trans r2, r3⟩
  have := VRel.slU (σ := Am.place σ b ⟨w.heap.size, 0, nc, size, (old ++ new).length⟩) 0 (len + n) 0 nc (place_same b _) (by show 0 < size; omega) (by simp) (by simp) hnc
  simpa using this

/-- It fits behind what is known. -/
theorem inplace_rel (h : Rel P base σ m w) {tys : Array TypeId} {ty dt e : TypeId} {size bytes len c' n b q i : Nat} {zeros : Bool} {x' v : Value} {new new' : List Value} {m' : Mem} {p : Pl} (hdt : tys[0]? = some dt) (he : tSlice P dt = some e)
    (hs : sizeT P e = some size) (hby : bytesT P e = some bytes) (h0 : size ≠ 0) (hz : isIntT P tys.toList[1]? = some zeros) (hn : ∀ k, NewsRun P { w with drawn := k } e size zeros x' n new') (hnew : LRel σ new new') (hnl : new.length = n * size)
    (hmost : (len + n) * (bytes + 1) ≤ mostLen) (hp : σ b = some p) (hpz : p.sz = size) (hq : q = i * p.sz) (hc : c' + i = p.cap) (hlc : len ≤ c') {s : Option Nat} (hss : s = none) (hg : growA P e size len unk (some ⟨b, q, s⟩) (.slice (some ⟨b, q, s⟩) len unk) n new m = some (v, m')) (hle : len + n ≤ c') :
    ∃ v' w' σ', (Builtin.append_ tys ty #[.slice (some ⟨p.blk, p.sh + q, none⟩) len c', x']).run P w = .ok v' w' ∧ VRel σ' v v' ∧ Rel P base σ' m' w' ∧ Ext σ m σ' m' ∧ Below base w w' := by
  subst hss
  obtain ⟨old, hold, hg⟩ := b_some.1 hg
  obtain ⟨z, hzt, hg⟩ := b_some.1 hg
  obtain ⟨hok, hg⟩ := bC_some.1 hg
  obtain ⟨l, hl, hg⟩ := b_some.1 hg
  obtain ⟨m2, hk, hg⟩ := b_some.1 hg
  obtain ⟨b2, m3, hnw, hg⟩ := b2_some.1 hg
  rw [fN_eq] at hg
  injection hg with hg
  injection hg with h1 h2
  subst h1; subst h2
  have := (appL_eq _ _ _).1 hl; subst this
  obtain ⟨bi, hbi, rfl⟩ := bytesT_some hby
  have hn := hn w.drawn
  have hrun := append_stay (ty := ty) hdt (tSlice_some he) hs hbi hz hn (by
    have : n * bi.bytes ≤ (len + n) * (bi.bytes + 1) := Nat.mul_le_mul (by omega) (by omega)
    have hml : mostLen = 1000000000 := rfl
    omega) h0 hle (some ⟨p.blk, p.sh + q, none⟩)
  obtain ⟨⟨rw', e2, vs⟩, hr, hput⟩ := b_some.1 (show ((m.row b).b fun r => rowC r fun rw e2 _ => bC (bC rw (Nat.beq e e2) false) (m.put b none) none) = some m2 from hk)
  obtain ⟨hrw, hput2⟩ := bC_some.1 hput
  have hrw : rw' = true ∧ e = e2 := by
    cases rw' with
    | false => cases hrw
    | true => exact ⟨rfl, (nbeq _ _).1 hrw⟩
  obtain ⟨rfl, rfl⟩ := hrw
  have hb := row_some hr
  obtain ⟨g0, g1, g2, g3, arr, fz, g4, g5, g6, g7⟩ := h.cells b true e vs hb p hp
  have hlive := h.live hb hp
  obtain ⟨k1, k2, k3, k4, k5⟩ := h.kill hp hput2
  -- the row that is stored
  have hbase := g3 rfl
  have hnl' := hnew.1
  have hq2 : q + c' * size = p.cap * p.sz := by rw [hq, ← hc, Nat.add_mul, hpz]; omega
  have hle2 : (len + n) * size ≤ c' * size := Nat.mul_le_mul_right _ hle
  have hadd : (len + n) * size = len * size + n * size := Nat.add_mul _ _ _
  have hfz : ∀ k, k < arr.size → ¬(fz.1 ≤ k ∧ k < fz.2) := by
    intro k hk
    rcases g6 with g6 | ⟨g6, _⟩ <;> omega
  have hokn : ∀ v ∈ new', cellOk v = true := by
    intro v hv
    obtain ⟨i, hi, rfl⟩ := List.getElem_of_mem hv
    have hi' : i < new.length := by rw [hnew.1]; exact hi
    exact (hnew.2 i new[i] new'[i] (List.getElem?_eq_getElem hi') (List.getElem?_eq_getElem hi)).cellOk ((allOk_eq _).1 hok _ (List.getElem_mem hi'))
  have hst := run_storeCells (P := P) (o := p.sh + q + len * size) new' 0 arr w g4 hfz hokn (by omega)
  simp only [add_eq] at hrun
  rw [hst] at hrun
  -- the old cells
  obtain ⟨rw3, e3, vs3, hb3, hlen3, hold3⟩ := loadCells_some (show m.loadCells b q (len * size) = some old from hold)
  rw [hb] at hb3
  injection hb3 with hb3
  injection hb3 with e5 e4 e6
  subst e6
  have holdl : old.length = len * size := by rw [hold3]; simp; omega
  obtain ⟨hn1, hn2, hn3⟩ := Mem.new_some hnw
  obtain ⟨t1, t2, t3, t4, t5, t6⟩ := k1.grow hnw
  have hfar : ∀ c y r, m3.get c = some y → σ c = some r → r.blk ≠ p.blk := by
    intro c y r hc hr' heq
    have hcne : c ≠ b2 := by rintro rfl; rw [t4] at hr'; cases hr'
    rw [hn3, if_neg (by rw [← hn1]; exact hcne)] at hc
    have hcb : c ≠ b := by rintro rfl; rw [k3] at hc; cases hc
    rw [k5 c hcb] at hc
    exact hcb (h.inj c b y _ r p hc hb hr' hp heq)
  have hfar' : ∀ c r, σ c = some r → r.named → r.blk ≠ p.blk := fun c r hc hn e => (h.own c r hc hn).2 b _ p hb hp e.symm
  have r0 := t1.away (k := p.blk) (o := .cells (arr.toList.take (p.sh + q + len * size + 0) ++ new' ++ arr.toList.drop (p.sh + q + len * size + 0 + new'.length)).toArray e fz) hfar hfar' hlive
  have r1 := r0.placeAt (b := b2) (p := ⟨p.blk, p.sh + q, c', size, (old ++ new).length⟩) t3 t4 t5 (by rw [setArr_get hlive, if_pos rfl]) hbase hfar hfar'
    (show ObjRel P base σ (.cells true e (old ++ new)) _ _ from ?_) (fun hn => h0 hn.1)
  · refine ⟨_, _, _, hrun, ?_, r1, k2.trans ⟨place_sub t4 _, t6.nxt, fun c hc hcs => ⟨?_, (t6.keep c hc hcs).2⟩⟩, below_setArr hbase hlive⟩
    · have := VRel.slU (σ := Am.place σ b2 ⟨p.blk, p.sh + q, c', size, (old ++ new).length⟩) 0 (len + n) 0 c' (place_same b2 _) (by show 0 < size; omega) (by simp) (by simp) hle
      simpa using this
    · unfold Am.place
      rw [if_neg (by omega)]; exact hcs
  · refine ⟨(cellsOf_eq hs).symm, rfl, ?_, _, fz, rfl, ?_, ?_, ?_⟩
    · show (old ++ new).length ≤ c' * size
      rw [List.length_append, holdl, hnl]; omega
    · show p.sh + q + c' * size ≤ _
      simp; omega
    · rcases g6 with g6 | ⟨g6, g8⟩
      · exact .inl g6
      · exact .inr ⟨by simp; omega, g8⟩
    · intro j v hv
      show ∃ v', _ = some v' ∧ _
      simp only [Nat.add_zero, List.getElem?_toArray, List.append_assoc]
      have hsz : (List.take (p.sh + q + len * size) arr.toList).length = p.sh + q + len * size := by simp; omega
      rcases Nat.lt_or_ge j (len * size) with hj | hj
      · rw [List.getElem?_append_left (by omega)] at hv
        rw [List.getElem?_append_left (by show p.sh + q + j < _; omega), List.getElem?_take, if_pos (by show p.sh + q + j < _; omega)]
        rw [hold3, List.getElem?_take, if_pos hj, List.getElem?_drop] at hv
        obtain ⟨v', hv', hr'⟩ := g7 _ v hv
        exact ⟨v', by rw [← Nat.add_assoc] at hv'; simpa using hv', hr'⟩
      · rw [List.getElem?_append_right (by omega), holdl] at hv
        have hj2 : j - len * size < new.length := (List.getElem?_eq_some_iff.1 hv).1
        rw [List.getElem?_append_right (by rw [hsz]; show _ ≤ p.sh + q + j; omega), hsz, List.getElem?_append_left (by show p.sh + q + j - _ < _; omega)]
        have : p.sh + q + j - (p.sh + q + len * size) = j - len * size := by omega
        show ∃ v', new'[p.sh + q + j - (p.sh + q + len * size)]? = some v' ∧ _
        rw [this]
        exact hnew.get hv

/-- It fits. -/
theorem stay_rel (h : Rel P base σ m w) {tys : Array TypeId} {ty dt e : TypeId} {size bytes len cap c' n : Nat} {zeros : Bool} {a a' : Option Addr} {x' v : Value} {new new' : List Value} {m' : Mem} (hdt : tys[0]? = some dt) (he : tSlice P dt = some e)
    (hs : sizeT P e = some size) (hby : bytesT P e = some bytes) (h0 : size ≠ 0) (hz : isIntT P tys.toList[1]? = some zeros) (hn : ∀ k, NewsRun P { w with drawn := k } e size zeros x' n new') (hnew : LRel σ new new') (hnl : new.length = n * size)
    (hmost : (len + n) * (bytes + 1) ≤ mostLen) (hst : stayA size len cap a n new m = some (v, m')) (hle : len + n ≤ c')
    (ha : (a = none ∧ a' = none) ∨ ∃ b q p, a = some ⟨b, q, none⟩ ∧ σ b = some p ∧ (a' = some ⟨p.blk, p.sh + q, none⟩ ∨ n = 0 ∧ a' ≠ none)) (hv : VRel σ (.slice a (len + n) cap) (.slice a' (len + n) c')) :
    ∃ v' w' σ', (Builtin.append_ tys ty #[.slice a' len c', x']).run P w = .ok v' w' ∧ VRel σ' v v' ∧ Rel P base σ' m' w' ∧ Ext σ m σ' m' ∧ Below base w w' := by
  obtain ⟨bi, hbi, rfl⟩ := bytesT_some hby
  have hn0 : n = 0 → new' = [] := fun e => by
    have := hnew.1
    rw [hnl, e, Nat.zero_mul] at this
    exact List.length_eq_zero_iff.1 this.symm
  have hrun := append_stay (ty := ty) hdt (tSlice_some he) hs hbi hz (hn w.drawn) (by
    have : n * bi.bytes ≤ (len + n) * (bi.bytes + 1) := Nat.mul_le_mul (by omega) (by omega)
    have hml : mostLen = 1000000000 := rfl
    omega) h0 hle a'
  rcases ha with ⟨rfl, rfl⟩ | ⟨b, q, p, rfl, hp, ha'⟩
  · have hst : (fN (len + n) fun l => some (Value.slice none l cap, m)) = some (v, m') := hst
    rw [fN_eq] at hst
    injection hst with hst
    injection hst with h1 h2
    subst h1; subst h2
    exact ⟨_, w, σ, hrun, hv, h, Ext.refl _ _, Below.refl _ _⟩
  · have hst : (fN (len + n) fun l => bC (Nat.beq n 0) (some (Value.slice (some ⟨b, q, none⟩) l cap, m))
      (fN (q + len * size) fun o2 => (m.storeCells b o2 new).b fun m' => some (Value.slice (some ⟨b, q, none⟩) l cap, m'))) = some (v, m') := hst
    rw [fN_eq, fN_eq] at hst
    by_cases e : n = 0
    · rw [(nbeq _ _).2 e] at hst
      injection hst with hst
      injection hst with h1 h2
      subst h1; subst h2
      rw [hn0 e] at hrun
      refine ⟨_, w, σ, ?_, hv, h, Ext.refl _ _, Below.refl _ _⟩
      rw [hrun]
      cases a' <;> rfl
    · rw [(nbeqf _ _).2 e] at hst
      obtain ⟨m1, hsc, hst⟩ := b_some.1 (show ((m.storeCells b (q + len * size) new).b fun m' => some (Value.slice (some ⟨b, q, none⟩) (len + n) cap, m')) = some (v, m') from hst)
      injection hst with hst
      injection hst with h1 h2
      subst h1; subst h2
      rcases ha' with rfl | ⟨e', _⟩
      · obtain ⟨w', hr', r1, r2, r3⟩ := h.store hsc hp hnew
        refine ⟨_, w', σ, ?_, hv, r1, r2, r3⟩
        rw [hrun]
        simp only [add_eq]
        rw [Nat.add_assoc, hr']
        rfl
      · exact absurd e' e

theorem run_append (h : Rel P base σ m w) {tys : Array TypeId} {ty : TypeId} {d d' s s' v : Value} {m' : Mem} (hd : VRel σ d d') (hs : VRel σ s s') (hc : appendA P tys.toList d s m = some (v, m')) :
    ∃ v' w' σ', (Builtin.append_ tys ty #[d', s']).run P w = .ok v' w' ∧ VRel σ' v v' ∧ Rel P base σ' m' w' ∧ Ext σ m σ' m' ∧ Below base w w' := by
  obtain ⟨dt, hdt, hc⟩ := b_some.1 hc
  obtain ⟨e, he, hc⟩ := b_some.1 hc
  obtain ⟨⟨a, len, cap⟩, hsl, hc⟩ := b_some.1 hc
  obtain ⟨size, hsz, hc⟩ := b_some.1 (show ((sizeT P e).b fun size => (bytesT P e).b fun bytes =>
    bC (Nat.beq size 0) none
      ((isIntT P tys.toList[1]?).b fun zeros => b2 (newsA P e size zeros s m) fun n new =>
        bC (Nat.ble ((len + n) * (bytes + 1)) mostLen)
          ((topOf P m a size len cap).b fun top => bC (Nat.ble (len + n) top)
            (stayA size len cap a n new m)
            (growA P e size len cap a d n new m)) none)) = some (v, m') from hc)
  obtain ⟨bytes, hby, hc⟩ := b_some.1 hc
  obtain ⟨h0, hc⟩ := bC_none.1 hc
  have h0 := (nbeqf _ _).1 h0
  obtain ⟨zeros, hz, hc⟩ := b_some.1 hc
  obtain ⟨n, new, hn, hc⟩ := b2_some.1 hc
  obtain ⟨hmost, hc⟩ := bC_some.1 hc
  have hmost := (nble _ _).1 hmost
  obtain ⟨top, htop, hfin⟩ := b_some.1 hc
  clear hc
  have := vSlice_some hsl; subst this
  have hdt : tys[0]? = some dt := by simpa using hdt
  obtain ⟨new', hn', hnew, hnl⟩ := news_rel h hsz hs hn
  rw [bC_eq] at hfin
  have hml : mostLen = 1000000000 := rfl
  have hmost2 : len + n ≤ 1000000000 := Nat.le_trans (Nat.le_mul_of_pos_right _ (by omega)) hmost
  cases a with
  | none =>
    have hcap : cap ≠ unk := by rintro rfl; cases htop
    have := topOf_known hcap htop; subst this
    rw [hd.nilSl_inv]
    split at hfin
    · rename_i hle
      have hle := (nble _ _).1 hle
      exact stay_rel h hdt he hsz hby h0 hz hn' hnew hnl hmost hfin hle (.inl ⟨rfl, rfl⟩) (.nilSl _ _)
    · rename_i hle
      have hle : ¬ (len + n ≤ top) := fun e => hle ((nble _ _).2 e)
      exact grow_rel h hdt he hsz hby h0 hz hn' hnew hnl hmost (.nilSl _ _) hfin (by omega) (fun b q s e => by cases e)
  | some a =>
    obtain ⟨b, q, st⟩ := a
    obtain ⟨p, hp, rfl, hcase⟩ := hd.slice_inv
    have hplaced : ∀ b' q' s', (some (⟨b, q, none⟩ : Addr)) = some ⟨b', q', s'⟩ → ∃ p, σ b' = some p := by
      intro b' q' s' e
      injection e with e
      injection e with e1 e2 e3
      subst e1
      exact ⟨p, hp⟩
    rcases hcase with ⟨hcap, rfl⟩ | ⟨rfl, i, c', hz', hq, hc', hlc, rfl⟩ | ⟨rfl, rfl, hpn, a', rfl⟩
    · have := topOf_known hcap htop; subst this
      split at hfin
      · rename_i hle
        have hle := (nble _ _).1 hle
        exact stay_rel h hdt he hsz hby h0 hz hn' hnew hnl hmost hfin hle (.inr ⟨b, q, p, rfl, hp, .inl rfl⟩) (.sl _ _ _ hp hcap)
      · rename_i hle
        have hle : ¬ (len + n ≤ top) := fun e => hle ((nble _ _).2 e)
        exact grow_rel h hdt he hsz hby h0 hz hn' hnew hnl hmost hd hfin (by omega) hplaced
    · obtain ⟨hps, ht1, ht2⟩ := h.top htop hp hz' hq hc' hlc
      split at hfin
      · rename_i hle
        have hle := (nble _ _).1 hle
        exact stay_rel h hdt he hsz hby h0 hz hn' hnew hnl hmost hfin (by omega) (.inr ⟨b, q, p, rfl, hp, .inl rfl⟩) (.slU _ _ _ _ hp hz' hq hc' (by omega))
      · by_cases hle : len + n ≤ c'
        · exact inplace_rel h hdt he hsz hby h0 hz hn' hnew hnl hmost hp hps hq hc' hlc rfl hfin hle
        · exact grow_rel h hdt he hsz hby h0 hz hn' hnew hnl hmost hd hfin (by omega) hplaced
    · have hq0 : top = 0 := by
        obtain ⟨b', o', s', rw', e', vs, he', hg, hn'', htop'⟩ := topOf_unk htop
        injection he' with he'
        injection he' with e1 e2 e3
        subst e1; subst e2
        obtain ⟨g0, g1, g2, _⟩ := h.cells _ _ _ _ hg p hp
        rw [htop', Nat.sub_eq_zero_of_le (by omega)]; simp
      split at hfin
      · rename_i hle
        have hle := (nble _ _).1 hle
        have hn0 : n = 0 := by omega
        subst hn0
        exact stay_rel h hdt he hsz hby h0 hz hn' hnew hnl hmost hfin (by omega) (.inr ⟨b, q, p, rfl, hp, .inr ⟨rfl, by simp⟩⟩) (.slE _ _ hp hpn)
      · rename_i hle
        have hle : ¬ (0 + n ≤ top) := fun e => hle ((nble _ _).2 e)
        exact grow_rel h hdt he hsz hby h0 hz hn' hnew hnl hmost hd hfin (by omega) hplaced

theorem sim_append (h : Rel P base σ m w) {cl : Call} (ho : o.op = .call cl) (hc : cl.callee = .builtin .append) {x y : Operand} (hargs : cl.args = #[x, y]) {c d : Oc} (hx : Ev σ tm ρ x c) (hy : Ev σ tm ρ y d)
    (hf : oAppend P cl.argTypes.toList c d tm m = some act) : OpSim P base σ m w ρ o act := by
  obtain ⟨v, hv, hf⟩ := b_some.1 hf
  obtain ⟨u, hu, hf⟩ := b_some.1 hf
  obtain ⟨r, m', hr, rfl⟩ := okVM_some hf
  obtain ⟨v', w', σ', r1, r2, r3, r4, r5⟩ := run_append h (ty := o.type) (hx v hv) (hy u hu) hr
  refine OpSim.valV ?_ r1 r2 r3 r4 r5
  have : (#[x, y] : Array Operand).map ρ = #[ρ x, ρ y] := by simp
  rw [exec_builtin ho hc, hargs, this]
  rfl

end
end Go.Am
namespace Go.Am
set_option linter.unusedSectionVars false
variable [Env]
open Go.RowKit (Below)
set_option linter.unusedSimpArgs false
set_option linter.unusedVariables false

section
variable {P : Program} {base : Nat} {σ : Sg} {m : Mem} {w : World} {ρ : Operand → Value} {o : Oper} {tm : Tr Value} {act : Act}

theorem isAggV_true {v : Value} (h : isAggV v = true) : ∃ l, v = .agg ⟨l⟩ := by
  unfold isAggV at h
  cases hv : vAgg v with
  | none => rw [hv] at h; cases h
  | some l => exact ⟨l, vAgg_some hv⟩
theorem isAggV_false {v : Value} (h : isAggV v = false) : cellsL v = [v] := by
  unfold isAggV at h
  unfold cellsL
  cases hv : vAgg v with
  | none => rfl
  | some l => rw [hv] at h; cases h

theorem eqCell_same {k : Kd} {x y : Value} (h : eqCell k x y = some true) : Instr.sameBits 9999 x y = true := by
  cases k with
  | bool =>
    obtain ⟨a, ha, h1⟩ := b_some.1 (show ((vBool x).b fun a => (vBool y).b fun b => some (eqB a b)) = some true from h)
    obtain ⟨b, hb, h2⟩ := b_some.1 h1
    injection h2 with h2
    rw [vBool_some ha, vBool_some hb, (eqB_eq _ _).1 h2]
    simp [Instr.sameBits]
  | str =>
    obtain ⟨a, ha, h1⟩ := b_some.1 (show ((vStr x).b fun a => (vStr y).b fun b => some (eqU8s a b)) = some true from h)
    obtain ⟨b, hb, h2⟩ := b_some.1 h1
    injection h2 with h2
    rw [vStr_some ha, vStr_some hb, (eqU8s_eq _ _).1 h2]
    simp [Instr.sameBits, beq_toListBytes]
  | int i =>
    obtain ⟨j, a, ha, h1⟩ := b2_some.1 (show (b2 (vInt x) fun j a => b2 (vInt y) fun l b => bC (bC (eqK j i) (eqK l i) false) (some (eqI a b)) none) = some true from h)
    obtain ⟨l, b, hb, h2⟩ := b2_some.1 h1
    obtain ⟨hk, h2⟩ := bC_some.1 h2
    injection h2 with h2
    have hj : eqK j i = true ∧ eqK l i = true := by cases hh : eqK j i <;> rw [hh] at hk <;> first | cases hk | exact ⟨rfl, hk⟩
    rw [vInt_some ha, vInt_some hb, (eqI_eq _ _).1 h2, (eqK_eq _ _).1 hj.1, (eqK_eq _ _).1 hj.2]
    simp [Instr.sameBits]

theorem sameBits_mono_cell {k : Kd} {x y : Value} (h : eqCell k x y = some true) (n : Nat) : Instr.sameBits n x y = true := by
  have := eqCell_same h
  cases k with
  | bool =>
    obtain ⟨a, ha, h1⟩ := b_some.1 (show ((vBool x).b fun a => (vBool y).b fun b => some (eqB a b)) = some true from h)
    obtain ⟨b, hb, h2⟩ := b_some.1 h1
    rw [vBool_some ha, vBool_some hb] at this ⊢
    simpa [Instr.sameBits] using this
  | str =>
    obtain ⟨a, ha, h1⟩ := b_some.1 (show ((vStr x).b fun a => (vStr y).b fun b => some (eqU8s a b)) = some true from h)
    obtain ⟨b, hb, h2⟩ := b_some.1 h1
    rw [vStr_some ha, vStr_some hb] at this ⊢
    simpa [Instr.sameBits] using this
  | int i =>
    obtain ⟨j, a, ha, h1⟩ := b2_some.1 (show (b2 (vInt x) fun j a => b2 (vInt y) fun l b => bC (bC (eqK j i) (eqK l i) false) (some (eqI a b)) none) = some true from h)
    obtain ⟨l, b, hb, h2⟩ := b2_some.1 h1
    rw [vInt_some ha, vInt_some hb] at this ⊢
    simpa [Instr.sameBits] using this

theorem eqKd_same : ∀ (ks : List Kd) (xs ys : List Value), eqKd ks xs ys = some true → xs.length = ys.length ∧ (xs.zip ys).all (fun (x, y) => Instr.sameBits 9999 x y) = true := by
  intro ks
  induction ks with
  | nil => intro xs ys h; obtain ⟨rfl, rfl, _⟩ := (eqKd_nil _ _ _).1 h; exact ⟨rfl, rfl⟩
  | cons k ks ih =>
    intro xs ys h
    obtain ⟨x, xs', y, ys', b, c, rfl, rfl, hb, hc, hr⟩ := (eqKd_cons _ _ _ _ _).1 h
    have hr2 := hr.symm
    rw [Bool.and_eq_true] at hr2
    obtain ⟨rfl, rfl⟩ := hr2
    obtain ⟨h1, h2⟩ := ih _ _ hc
    exact ⟨by simp [h1], by simp only [List.zip_cons_cons, List.all_cons, h2, sameBits_mono_cell hb 9999, Bool.and_self]⟩

/-- Two keys. -/
theorem key_eq {kt : TypeId} {ks : List Kd} {u : TypeDesc} {ag : Bool} (hk : kindsT P kt = some ks) (hu : P.underlying kt = some u) (hag : dAgg u = ag) {x y x' y' : Value} (hx : VRel σ x x') (hy : VRel σ y y')
    (h1 : isAggV x = ag) (h2 : isAggV y = ag) {b : Bool} (h : eqKd ks (cellsL x) (cellsL y) = some b) (w : World) :
    (Op.equal kt x' y').run P w = .ok b w ∧ (∀ b', Instr.sameNow u x' y' = some b' → b' = b) ∧ (b = true → Instr.sameBits 10000 x' y' = true) := by
  cases ag with
  | true =>
    obtain ⟨xs, rfl⟩ := isAggV_true h1
    obtain ⟨ys, rfl⟩ := isAggV_true h2
    obtain ⟨xs', rfl, hx'⟩ := hx.agg_inv
    obtain ⟨ys', rfl, hy'⟩ := hy.agg_inv
    have h' := eqKd_rel ks xs ys xs' ys' b hx' hy' h
    refine ⟨run_equal_plain hk hu hag h' w, ?_, ?_⟩
    · intro b' hb'
      cases u <;> cases hb'
    · rintro rfl
      obtain ⟨g1, g2⟩ := eqKd_same _ _ _ h'
      unfold Instr.sameBits
      simp [g1]
      simpa using g2
  | false =>
    rw [isAggV_false h1, isAggV_false h2] at h
    have hbk : ∃ k, basicKd u = some k ∧ ks = [k] := by
      obtain ⟨u', hu', hh⟩ := kindsIn_some (d := 39) hk
      rw [hu] at hu'; injection hu' with hu'; subst hu'
      rcases hh with hh | ⟨n, e, es, m, rfl, _⟩ | ⟨fs, m, rfl, _⟩
      · exact hh
      · cases hag
      · cases hag
    obtain ⟨k, hb, rfl⟩ := hbk
    obtain ⟨x0, xs0, y0, ys0, c, d, e1, e2, hc, hd, rfl⟩ := (eqKd_cons _ _ _ _ _).1 h
    injection e1 with e1 e1'; injection e2 with e2 e2'
    subst e1; subst e2; subst e1'; subst e2'
    obtain ⟨_, _, rfl⟩ := (eqKd_nil _ _ _).1 hd
    rw [Bool.and_true]
    have hc' := eqCell_rel hx hy hc
    refine ⟨eqCell_run hu hb hc' 9999 w, ?_, ?_⟩
    · intro b' hb'
      rcases basicKd_some hb with ⟨rfl, rfl⟩ | ⟨rfl, rfl⟩ | ⟨i, rfl, rfl⟩
      · obtain ⟨a, ha, g1⟩ := b_some.1 (show ((vBool x').b fun a => (vBool y').b fun b => some (eqB a b)) = some c from hc')
        obtain ⟨b2, hb2, g2⟩ := b_some.1 g1
        injection g2 with g2
        rw [vBool_some ha, vBool_some hb2] at hb'
        injection hb' with hb'
        rw [← hb', ← g2, Bool.eq_iff_iff, eqB_eq, beq_iff_eq]
      · obtain ⟨a, ha, g1⟩ := b_some.1 (show ((vStr x').b fun a => (vStr y').b fun b => some (eqU8s a b)) = some c from hc')
        obtain ⟨b2, hb2, g2⟩ := b_some.1 g1
        injection g2 with g2
        rw [vStr_some ha, vStr_some hb2] at hb'
        injection hb' with hb'
        rw [← hb', ← g2, Bool.eq_iff_iff, eqU8s_eq, beq_toListBytes]; simp [ByteArray.toList_eq]
      · obtain ⟨j, a, ha, g1⟩ := b2_some.1 (show (b2 (vInt x') fun j a => b2 (vInt y') fun l b => bC (bC (eqK j i) (eqK l i) false) (some (eqI a b)) none) = some c from hc')
        obtain ⟨l, b2, hb2, g2⟩ := b2_some.1 g1
        obtain ⟨hkk, g2⟩ := bC_some.1 g2
        injection g2 with g2
        rw [vInt_some ha, vInt_some hb2] at hb'
        simp only [Instr.sameNow] at hb'
        split at hb'
        · injection hb' with hb'
          rw [← hb', ← g2, eqI_beq]
        · cases hb'
    · rintro rfl
      exact sameBits_mono_cell hc' 10000

theorem findA_cons {ag : Bool} {ks : List Kd} {k : List Value} {e : MapEntry} {es : List MapEntry} {i : Nat} {r : Option (Nat × MapEntry)} (h : findA ag ks k (e :: es) i = some r) :
    isAggV e.key = ag ∧ ∃ b, eqKd ks k (cellsL e.key) = some b ∧ (b = true → r = some (i, e)) ∧ (b = false → findA ag ks k es (i + 1) = some r) := by
  obtain ⟨h1, h2⟩ := bC_some.1 (show bC (eqB ag (isAggV (keyE e))) ((eqKd ks k (cellsL (keyE e))).b fun b => bC b (some (some (i, e))) (findA ag ks k es (i + 1))) none = some r from h)
  obtain ⟨b, hb, h3⟩ := b_some.1 h2
  refine ⟨((eqB_eq _ _).1 h1).symm, b, hb, ?_, ?_⟩
  · rintro rfl; injection h3 with h3; exact h3.symm
  · rintro rfl; exact h3

/-- What 'findKey' finds. -/
theorem run_findKey {kt : TypeId} {ks : List Kd} {u : TypeDesc} {ag : Bool} (hk : kindsT P kt = some ks) (hu : P.underlying kt = some u) (hag : dAgg u = ag) {k k' : Value} (hkk : VRel σ k k') (h1 : isAggV k = ag)
    {es : List MapEntry} {es' : Array MapEntry} (hes : ERel σ es es'.toList) {r : Option (Nat × MapEntry)} (hf : findA ag ks (cellsL k) es 0 = some r) (w : World) :
    (r = none ∧ (Instr.findKey kt k' es'.toList).run P w = .ok none w) ∨
    (∃ i e e', r = some (i, e) ∧ es[i]? = some e ∧ es'[i]? = some e' ∧ VRel σ e.val e'.val ∧ Instr.sameBits 10000 k' e'.key = true ∧ Instr.sameBits 10000 e'.key k' = true ∧ (Instr.findKey kt k' es'.toList).run P w = .ok (some (i, e'.val)) w) := by
  have key : ∀ (es : List MapEntry) (l : List MapEntry) (i : Nat) (r : Option (Nat × MapEntry)), ERel σ es l → findA ag ks (cellsL k) es i = some r →
      (r = none ∧ (Instr.findAsking kt k' l i).run P w = .ok none w ∧ (∀ x, Instr.findNow u k' l i = some x → x = none)) ∨
      (∃ j e e', r = some (i + j, e) ∧ es[j]? = some e ∧ l[j]? = some e' ∧ VRel σ e.val e'.val ∧ Instr.sameBits 10000 k' e'.key = true ∧ Instr.sameBits 10000 e'.key k' = true ∧ (Instr.findAsking kt k' l i).run P w = .ok (some (i + j, e'.val)) w ∧
        (∀ x, Instr.findNow u k' l i = some x → x = some (i + j, e'.val))) := by
    intro es
    induction es with
    | nil =>
      intro l i r hl hr
      have : l = [] := by have := hl.1; simp at this; exact List.length_eq_zero_iff.1 this.symm
      subst this
      injection hr with hr
      exact .inl ⟨hr.symm, rfl, fun x hx => by injection hx with hx; exact hx.symm⟩
    | cons e es ih =>
      intro l i r hl hr
      cases l with
      | nil => have := hl.1; simp at this
      | cons e' l =>
        obtain ⟨r1, r2, r3⟩ := hl.2 0 e e' rfl rfl
        have hl' : ERel σ es l := ⟨by have := hl.1; simpa using this, fun j a b ha hb => hl.2 (j + 1) a b (by simpa using ha) (by simpa using hb)⟩
        obtain ⟨ha, b, hb, hbt, hbf⟩ := findA_cons hr
        obtain ⟨g1, g2, g3⟩ := key_eq hk hu hag hkk r1 h1 ha hb w
        cases b with
        | true =>
          have hr' := hbt rfl
          refine .inr ⟨0, e, e', hr', rfl, rfl, r2, g3 rfl, ?_, ?_, ?_⟩
          · have hb' : eqKd ks (cellsL e.key) (cellsL k) = some true := by
              have sym : ∀ (ks : List Kd) (xs ys : List Value), eqKd ks xs ys = some true → eqKd ks ys xs = some true := by
                intro ks
                induction ks with
                | nil => intro xs ys h; obtain ⟨rfl, rfl, _⟩ := (eqKd_nil _ _ _).1 h; rfl
                | cons k ks ih =>
                  intro xs ys h
                  obtain ⟨x, xs', y, ys', b, c, rfl, rfl, hb, hc, hr⟩ := (eqKd_cons _ _ _ _ _).1 h
                  have hr2 := hr.symm
                  rw [Bool.and_eq_true] at hr2
                  obtain ⟨rfl, rfl⟩ := hr2
                  refine (eqKd_cons _ _ _ _ _).2 ⟨y, ys', x, xs', true, true, rfl, rfl, ?_, ih _ _ hc, rfl⟩
                  cases k with
                  | bool =>
                    obtain ⟨a, ha, h1⟩ := b_some.1 (show ((vBool x).b fun a => (vBool y).b fun b => some (eqB a b)) = some true from hb)
                    obtain ⟨b, hb', h2⟩ := b_some.1 h1
                    injection h2 with h2
                    have := (eqB_eq _ _).1 h2; subst this
                    show ((vBool y).b fun a => (vBool x).b fun b => some (eqB a b)) = some true
                    rw [ha, hb']; exact congrArg some h2
                  | str =>
                    obtain ⟨a, ha, h1⟩ := b_some.1 (show ((vStr x).b fun a => (vStr y).b fun b => some (eqU8s a b)) = some true from hb)
                    obtain ⟨b, hb', h2⟩ := b_some.1 h1
                    injection h2 with h2
                    have := (eqU8s_eq _ _).1 h2; subst this
                    show ((vStr y).b fun a => (vStr x).b fun b => some (eqU8s a b)) = some true
                    rw [ha, hb']; exact congrArg some h2
                  | int i =>
                    obtain ⟨j, a, ha, h1⟩ := b2_some.1 (show (b2 (vInt x) fun j a => b2 (vInt y) fun l b => bC (bC (eqK j i) (eqK l i) false) (some (eqI a b)) none) = some true from hb)
                    obtain ⟨l, b, hb', h2⟩ := b2_some.1 h1
                    obtain ⟨hk, h2⟩ := bC_some.1 h2
                    injection h2 with h2
                    have := (eqI_eq _ _).1 h2; subst this
                    have hj : eqK j i = true ∧ eqK l i = true := by cases hh : eqK j i <;> rw [hh] at hk <;> first | cases hk | exact ⟨rfl, hk⟩
                    show (b2 (vInt y) fun j a => b2 (vInt x) fun l b => bC (bC (eqK j i) (eqK l i) false) (some (eqI a b)) none) = some true
                    rw [ha, hb']
                    show bC (bC (eqK l i) (eqK j i) false) (some (eqI a a)) none = some true
                    rw [hj.1, hj.2, h2]
              exact sym _ _ _ hb
            exact (key_eq hk hu hag r1 hkk ha h1 hb' w).2.2 rfl
          · unfold Instr.findAsking
            rw [Sem.run_bind, g1, Result.andThen_ok, if_pos rfl]; rfl
          · intro x hx
            unfold Instr.findNow at hx
            cases hs : Instr.sameNow u k' e'.key with
            | none => rw [hs] at hx; cases hx
            | some b' =>
              have := g2 _ hs; subst this
              rw [hs] at hx; injection hx with hx; exact hx.symm
        | false =>
          rcases ih l (i + 1) r hl' (hbf rfl) with ⟨rfl, q1, q2⟩ | ⟨j, f, f', rfl, q0, q1, q2, q3, q3', q4, q5⟩
          · refine .inl ⟨rfl, ?_, ?_⟩
            · unfold Instr.findAsking
              rw [Sem.run_bind, g1, Result.andThen_ok, if_neg (by simp)]; exact q1
            · intro x hx
              unfold Instr.findNow at hx
              cases hs : Instr.sameNow u k' e'.key with
              | none => rw [hs] at hx; cases hx
              | some b' =>
                have := g2 _ hs; subst this
                rw [hs] at hx; exact q2 x hx
          · refine .inr ⟨j + 1, f, f', by rw [show i + (j + 1) = i + 1 + j from by omega], by simpa using q0, by simpa using q1, q2, q3, q3', ?_, ?_⟩
            · unfold Instr.findAsking
              rw [Sem.run_bind, g1, Result.andThen_ok, if_neg (by simp), show i + (j + 1) = i + 1 + j from by omega]; exact q4
            · intro x hx
              unfold Instr.findNow at hx
              rw [show i + (j + 1) = i + 1 + j from by omega]
              cases hs : Instr.sameNow u k' e'.key with
              | none => rw [hs] at hx; cases hx
              | some b' =>
                have := g2 _ hs; subst this
                rw [hs] at hx; exact q5 x hx
  have fin : ∀ (x : Option (Nat × Value)), (Instr.findAsking kt k' es'.toList 0).run P w = .ok x w → (∀ y, Instr.findNow u k' es'.toList 0 = some y → y = x) → (Instr.findKey kt k' es'.toList).run P w = .ok x w := by
    intro x hx hy
    unfold Instr.findKey
    rw [Sem.run_bind, run_under hu, Result.andThen_ok]
    cases hn : Instr.findNow u k' es'.toList 0 with
    | none => exact hx
    | some y => rw [hy y hn]; rfl
  rcases key es es'.toList 0 r hes hf with ⟨rfl, q1, q2⟩ | ⟨j, e, e', rfl, q0, q1, q2, q3, q3', q4, q5⟩
  · exact .inl ⟨rfl, fin none q1 q2⟩
  · rw [Nat.zero_add] at q4 q5
    exact .inr ⟨j, e, e', by rw [Nat.zero_add], q0, by simpa using q1, q2, q3, q3', fin _ q4 q5⟩

theorem keyOk_some {ag : Bool} {ks : List Kd} {k : Value} (h : keyOk ag ks k = true) : isAggV k = ag ∧ ∃ b, eqKd ks (cellsL k) (cellsL k) = some b := by
  unfold keyOk at h
  cases h1 : eqB ag (isAggV k) with
  | false => rw [h1] at h; cases h
  | true =>
    rw [h1] at h
    refine ⟨((eqB_eq _ _).1 h1).symm, ?_⟩
    cases h2 : eqKd ks (cellsL k) (cellsL k) with
    | none => rw [h2] at h; cases h
    | some b => exact ⟨b, rfl⟩

theorem run_checkKey {kt : TypeId} {ks : List Kd} {ag : Bool} (hk : kindsT P kt = some ks) (hag : isAggT P kt = some ag) {k k' : Value} (hkk : VRel σ k k') (h : keyOk ag ks k = true) (em : Bool) (w : World) : (Instr.checkKey em 10000 kt k').run P w = .ok () w := by
  obtain ⟨h1, b, hb⟩ := keyOk_some h
  have hl := (eqKd_len _ _ _ _ hb).1
  obtain ⟨u, hu, hd⟩ := isAggT_some hag
  cases ag with
  | true =>
    obtain ⟨xs, rfl⟩ := isAggV_true h1
    obtain ⟨xs', rfl, hx'⟩ := hkk.agg_inv
    have hlen : xs'.length = ks.length := by rw [← hx'.1]; exact hl
    obtain ⟨a, g1, g2⟩ := run_checkKey_plain em 40 kt ks hk 10000 (by omega) w xs' 0 (by omega)
    obtain ⟨u', hu', hh⟩ := kindsIn_some (d := 39) hk
    rw [hu] at hu'; injection hu' with hu'; subst hu'
    have hsz : sizeT P kt = some ks.length := by
      rcases hh with ⟨k, hbk, rfl⟩ | ⟨n, e, es, m, rfl, hes, hse, rfl, hm, hlm⟩ | ⟨fs, m, rfl, hst, hfs, hm, hlm⟩
      · rcases basicKd_some hbk with ⟨rfl, _⟩ | ⟨rfl, _⟩ | ⟨i, rfl, _⟩ <;> cases hd
      · rw [hm, hlm]
      · rw [hm, hlm]
    rw [run_part_agg (isAggT_some hag) hsz] at g1
    simp only [List.drop_zero] at g1
    rw [List.take_of_length_le (by omega)] at g1
    injection g1 with g1; subst g1
    exact g2
  | false =>
    rw [isAggV_false h1] at hl
    obtain ⟨u', hu', hh⟩ := kindsIn_some (d := 39) hk
    rw [hu] at hu'; injection hu' with hu'; subst hu'
    rcases hh with ⟨k, hbk, rfl⟩ | ⟨n, e, es, m, rfl, hes, hse, rfl, hm, hlm⟩ | ⟨fs, m, rfl, hst, hfs, hm, hlm⟩
    · unfold Instr.checkKey
      rw [Sem.run_bind, run_under hu, Result.andThen_ok]
      rcases basicKd_some hbk with ⟨rfl, _⟩ | ⟨rfl, _⟩ | ⟨i, rfl, _⟩ <;> rfl
    · cases hd
    · cases hd

theorem okPair_some {ok : Bool} {z : Value} {has : Bool} {v : Value} (h : okPair ok z has = some v) : v = if ok then .tuple #[z, .bool has] else z := by
  unfold okPair at h
  cases ok <;> (injection h with h; exact h.symm)

theorem okPair_rel {ok : Bool} {z z' : Value} (h : VRel σ z z') (has : Bool) : VRel σ (if ok then .tuple #[z, .bool has] else z) (if ok then .tuple #[z', .bool has] else z') := by
  cases ok
  · exact h
  · exact LRel.tuple (.cons h (.cons (.bool has) .nil))

theorem sim_lookup (h : Rel P base σ m w) {t : TypeId} {x i : Operand} {ok : Bool} (ho : o.op = .lookup t x i ok) {c d : Oc} (hx : Ev σ tm ρ x c) (hi : Ev σ tm ρ i d) (hf : oLookup P t c d ok tm m = some act) : OpSim P base σ m w ρ o act := by
  obtain ⟨v, hv, hf⟩ := b_some.1 hf
  obtain ⟨k, hk, hf⟩ := b_some.1 hf
  obtain ⟨r, hr, rfl⟩ := okV_some hf
  unfold lookupA at hr
  obtain ⟨kt, et, ht, hr⟩ := b2_some.1 hr
  obtain ⟨ag, hag, hr⟩ := b_some.1 hr
  obtain ⟨ks, hks, hr⟩ := b_some.1 hr
  obtain ⟨z, hz, hr⟩ := b_some.1 hr
  obtain ⟨q, hq, hr⟩ := b_some.1 hr
  obtain ⟨es, hes, hr⟩ := b_some.1 hr
  obtain ⟨hok, hr⟩ := bC_some.1 hr
  obtain ⟨f, hfd, hr⟩ := b_some.1 hr
  have hvm := vMap_some hq; subst hvm
  obtain ⟨_, _, _, hzf⟩ := zeroV_some hz
  obtain ⟨u, hu, hd⟩ := isAggT_some hag
  have hkr := hi _ hk
  have he : execOp ρ o = (do pure (.value (← Instr.lookup t (ρ x) (ρ i) ok))) := by rw [execOp, ho]
  have fin : ∀ (es' : Array MapEntry), ERel σ es es'.toList → (∀ (r' : Value), (∃ v b, r' = (if ok then .tuple #[v, .bool b] else v) ∧
      ((∃ j, (Instr.findKey kt (ρ i) es'.toList).run P w = .ok (some (j, v)) w ∧ b = true) ∨ ((Instr.findKey kt (ρ i) es'.toList).run P w = .ok none w ∧ (zeroValue et).run P w = .ok v w ∧ b = false))) →
      (Instr.lookup t (ρ x) (ρ i) ok).run P w = .ok r' w) → OpSim P base σ m w ρ o (.val r m) := by
    intro es' hE start
    rcases run_findKey (P := P) hks hu hd hkr (keyOk_some hok).1 hE hfd w with ⟨rfl, q⟩ | ⟨j, e, e', rfl, q0, q1, q2, _, _, q3⟩
    · have := okPair_some hr; subst this
      exact OpSim.pureV h he (start _ ⟨z, false, rfl, .inr ⟨q, run_zero hz w, rfl⟩⟩) (okPair_rel hzf.rel false)
    · have := okPair_some (show okPair ok e.val true = some r from hr); subst this
      exact OpSim.pureV h he (start _ ⟨e'.val, true, rfl, .inl ⟨j, q3, rfl⟩⟩) (okPair_rel q2 true)
  rcases (hx _ hv).map_inv with ⟨rfl, hρ⟩ | ⟨b, p, rfl, hp, hρ⟩
  · injection (show some ([] : List MapEntry) = some es from hes) with hes; subst hes
    refine fin #[] ⟨rfl, fun i e e' a => by simp at a⟩ fun r' hr' => ?_
    obtain ⟨v, b, rfl, hcase⟩ := hr'
    have hck := run_checkKey (P := P) hks hag hkr hok (#[] : Array MapEntry).isEmpty w
    unfold Instr.lookup
    rw [Sem.run_bind, run_under (tMap_some ht), Result.andThen_ok, hρ]
    simp only []
    rcases hcase with ⟨j, q3, rfl⟩ | ⟨q, hzr, rfl⟩
    · simp only [Sem.run_bind, hck, q3, Result.andThen_ok, Sem.run_pure]
    · simp only [Sem.run_bind, hck, q, Result.andThen_ok, hzr, Sem.run_pure]
  · obtain ⟨es1, c1, hm, hes⟩ := b2_some.1 (show (b2 (m.ofMap b) fun es _ => some es) = some es from hes)
    injection hes with hes; subst hes
    obtain ⟨_, es', hw, hE⟩ := h.map b _ c1 (ofMap_some hm) p hp
    refine fin es' hE fun r' hr' => ?_
    obtain ⟨v, b, rfl, hcase⟩ := hr'
    have hck := run_checkKey (P := P) hks hag hkr hok es'.isEmpty w
    unfold Instr.lookup
    rw [Sem.run_bind, run_under (tMap_some ht), Result.andThen_ok, hρ]
    simp only []
    rw [Sem.run_bind, run_getMap hw, Result.andThen_ok]
    simp only []
    rcases hcase with ⟨j, q3, rfl⟩ | ⟨q, hzr, rfl⟩
    · simp only [Sem.run_bind, hck, q3, Result.andThen_ok, Sem.run_pure]
    · simp only [Sem.run_bind, hck, q, Result.andThen_ok, hzr, Sem.run_pure]

theorem run_setMap {b c : Nat} {es : Array MapEntry} (h : w.heap[b]? = some (.map es c)) (o : Obj) : (setObj b o).run P w = .ok () (setArr w b o) := by
  simp [setObj, Sem.run, h, setArr]

theorem ERel.set {l l' : List MapEntry} (h : ERel σ l l') {i : Nat} {e e' : MapEntry} (h1 : VRel σ e.key e'.key) (h2 : VRel σ e.val e'.val) (h3 : e.born = e'.born) : ERel σ (l.set i e) (l'.set i e') := by
  refine ⟨by simp [h.1], fun j a b ha hb => ?_⟩
  rw [List.getElem?_set] at ha hb
  by_cases hij : i = j
  · subst hij
    rw [if_pos rfl] at ha hb
    split at ha
    · split at hb
      · injection ha with ha; injection hb with hb; subst ha; subst hb; exact ⟨h1, h2, h3⟩
      · cases hb
    · cases ha
  · rw [if_neg hij] at ha hb
    exact h.2 j a b ha hb
theorem ERel.snoc {l l' : List MapEntry} (h : ERel σ l l') {e e' : MapEntry} (h1 : VRel σ e.key e'.key) (h2 : VRel σ e.val e'.val) (h3 : e.born = e'.born) : ERel σ (l ++ [e]) (l' ++ [e']) := by
  refine ⟨by simp [h.1], fun j a b ha hb => ?_⟩
  rcases Nat.lt_or_ge j l.length with hj | hj
  · rw [List.getElem?_append_left hj] at ha
    rw [List.getElem?_append_left (h.1 ▸ hj)] at hb
    exact h.2 j a b ha hb
  · rw [List.getElem?_append_right hj] at ha
    rw [List.getElem?_append_right (h.1 ▸ hj), ← h.1] at hb
    have : j - l.length = 0 := by
      rcases Nat.eq_zero_or_pos (j - l.length) with h0 | h0
      · exact h0
      · rw [List.getElem?_eq_none (by simp; omega)] at ha; cases ha
    rw [this] at ha hb
    injection ha with ha; injection hb with hb; subst ha; subst hb; exact ⟨h1, h2, h3⟩
theorem ERel.erase {l l' : List MapEntry} (h : ERel σ l l') (i : Nat) : ERel σ (l.eraseIdx i) (l'.eraseIdx i) := by
  refine ⟨by simp [List.length_eraseIdx, h.1], fun j a b ha hb => ?_⟩
  rw [List.getElem?_eraseIdx] at ha hb
  split at ha <;> rename_i hc
  · rw [if_pos hc] at hb; exact h.2 _ a b ha hb
  · rw [if_neg hc] at hb; exact h.2 _ a b ha hb

theorem sim_update (h : Rel P base σ m w) {t : TypeId} {x i y : Operand} (ho : o.op = .mapUpdate t x i y) {c d e : Oc} (hx : Ev σ tm ρ x c) (hi : Ev σ tm ρ i d) (hy : Ev σ tm ρ y e) (hf : oUpdate P t c d e tm m = some act) : OpSim P base σ m w ρ o act := by
  obtain ⟨v, hv, hf⟩ := b_some.1 hf
  obtain ⟨k, hk, hf⟩ := b_some.1 hf
  obtain ⟨n, hn, hf⟩ := b_some.1 hf
  obtain ⟨m', hr, rfl⟩ := okM_some hf
  unfold updateA at hr
  obtain ⟨kt, et, ht, hr⟩ := b2_some.1 hr
  obtain ⟨ag, hag, hr⟩ := b_some.1 hr
  obtain ⟨ks, hks, hr⟩ := b_some.1 hr
  obtain ⟨q, hq, hr⟩ := b_some.1 hr
  obtain ⟨b, hqb, hr⟩ := b_some.1 hr
  obtain ⟨es, clock, hm, hr⟩ := b2_some.1 hr
  obtain ⟨hok, hr⟩ := bC_some.1 hr
  obtain ⟨f, hfd, hr⟩ := b_some.1 hr
  have hvm := vMap_some hq; subst hvm
  subst hqb
  obtain ⟨u, hu, hd⟩ := isAggT_some hag
  have hkr := hi _ hk
  have hnr := hy _ hn
  have he : execOp ρ o = (do Instr.mapUpdate t (ρ x) (ρ i) (ρ y); pure .skip) := by rw [execOp, ho]
  have hmb := ofMap_some hm
  rcases (hx _ hv).map_inv with ⟨hn', _⟩ | ⟨b', p, hbb, hp, hρ⟩
  · cases hn'
  injection hbb with hbb; subst hbb
  obtain ⟨hbase, es', hw, hE⟩ := h.map b _ _ hmb p hp
  have hck := run_checkKey (P := P) hks hag hkr hok false w
  have done : ∀ (es1 : List MapEntry) (es1' : Array MapEntry) (c1 : Nat), ERel σ es1 es1'.toList → m.put b (some (.map es1 c1)) = some m' → (Instr.mapUpdate t (ρ x) (ρ i) (ρ y)).run P w = .ok () (setArr w p.blk (.map es1' c1)) → OpSim P base σ m w ρ o (.val (.tuple ⟨[]⟩) m') := by
    intro es1 es1' c1 hE1 hput hrun
    obtain ⟨r1, r2, r3⟩ := h.update hmb hp hput hbase (o := .map es1' c1) ⟨es1', rfl, hE1⟩
    exact ⟨.skip, undef, _, σ, by rw [he, Sem.run_bind, hrun]; rfl, rfl, LRel.tuple .nil, r1, r3, r2⟩
  rcases run_findKey (P := P) hks hu hd hkr (keyOk_some hok).1 hE hfd w with ⟨rfl, q⟩ | ⟨j, e1, e1', rfl, q0, q1, q2, _, q4, q3⟩
  · obtain ⟨l, hl, hput⟩ := b_some.1 (show ((snoc es { key := k, val := n, born := clock }).b fun l => m.put b (some (.map l (Nat.succ clock)))) = some m' from hr)
    have := (snoc_eq _ _ _).1 hl; subst this
    refine done _ (es'.push { key := ρ i, val := ρ y, born := clock }) (clock + 1) (by rw [Array.toList_push]; exact hE.snoc hkr hnr rfl) hput ?_
    unfold Instr.mapUpdate
    rw [Sem.run_bind, run_under (tMap_some ht), Result.andThen_ok, hρ]
    simp only []
    rw [Sem.run_bind, run_getMap hw, Result.andThen_ok]
    simp only []
    rw [Sem.run_bind, hck, Result.andThen_ok]
    rw [Sem.run_bind, q, Result.andThen_ok]
    exact run_setMap hw _
  · obtain ⟨l, hl, hput⟩ := b_some.1 (show ((setNth { key := k, val := n, born := e1.born } j es).b fun l => m.put b (some (.map l clock))) = some m' from hr)
    obtain ⟨hj, hl⟩ := (setNth_eq _ _ _ _).1 hl; subst hl
    have hjl : j < es'.size := (Array.getElem?_eq_some_iff.1 q1).1
    have hmod : (es'.modify j fun e => { e with key := ρ i, val := ρ y }).toList = es'.toList.set j { key := ρ i, val := ρ y, born := e1'.born } := by
      rw [Array.toList_modify]
      have : es'.toList[j]? = some e1' := by simpa using q1
      apply List.ext_getElem?
      intro n
      rw [List.getElem?_modify, List.getElem?_set]
      by_cases hn : j = n
      · subst hn
        rw [if_pos rfl, if_pos (by simpa using hjl), this]; simp
      · rw [if_neg hn]; simp [hn]
    refine done _ (es'.modify j fun e => { e with key := ρ i, val := ρ y }) clock ?_ hput ?_
    · rw [hmod]
      exact hE.set hkr hnr ((hE.2 j e1 e1' q0 (by simpa using q1)).2.2)
    · unfold Instr.mapUpdate
      rw [Sem.run_bind, run_under (tMap_some ht), Result.andThen_ok, hρ]
      simp only []
      rw [Sem.run_bind, run_getMap hw, Result.andThen_ok]
      simp only []
      rw [Sem.run_bind, hck, Result.andThen_ok]
      rw [Sem.run_bind, q3, Result.andThen_ok]
      simp only []
      rw [Sem.run_bind]
      have hst : (Instr.keyThatStays (((es'[j]?).map (·.key)).getD (ρ i)) (ρ i)).run P w = .ok (ρ i) w := by
        unfold Instr.keyThatStays
        rw [q1]
        simp only [Option.map_some, Option.getD_some]
        rw [if_pos q4]; rfl
      rw [hst, Result.andThen_ok]
      exact run_setMap hw _

theorem sim_delete (h : Rel P base σ m w) {cl : Call} (ho : o.op = .call cl) (hc : cl.callee = .builtin .delete) {x i : Operand} (hargs : cl.args = #[x, i]) {t : TypeId} (htt : cl.argTypes.toList[0]? = some t) {c d : Oc} (hx : Ev σ tm ρ x c) (hi : Ev σ tm ρ i d)
    (hf : oDelete P t c d tm m = some act) : OpSim P base σ m w ρ o act := by
  obtain ⟨v, hv, hf⟩ := b_some.1 hf
  obtain ⟨k, hk, hf⟩ := b_some.1 hf
  obtain ⟨m', hr, rfl⟩ := okM_some hf
  unfold deleteA at hr
  obtain ⟨kt, et, ht, hr⟩ := b2_some.1 hr
  obtain ⟨ag, hag, hr⟩ := b_some.1 hr
  obtain ⟨ks, hks, hr⟩ := b_some.1 hr
  obtain ⟨q, hq, hr⟩ := b_some.1 hr
  obtain ⟨hok, hr9⟩ := bC_some.1 hr
  have hvm := vMap_some hq; subst hvm
  obtain ⟨u, hu, hd⟩ := isAggT_some hag
  have hkr := hi _ hk
  have htt' : cl.argTypes[0]? = some t := by simpa using htt
  have he : execOp ρ o = (do pure (.value (← Builtin.delete_ cl.argTypes o.type #[ρ x, ρ i]))) := by
    have e := exec_builtin (ρ := ρ) ho hc
    have e2 : cl.args.map ρ = #[ρ x, ρ i] := by rw [hargs]; simp
    rw [e, e2]; rfl
  rcases (hx _ hv).map_inv with ⟨rfl, hρ⟩ | ⟨b, p, rfl, hp, hρ⟩
  · injection (show some m = some m' from hr9) with hr; subst hr
    refine OpSim.pureV h he (v' := .tuple #[]) ?_ (LRel.tuple .nil)
    unfold Builtin.delete_
    rw [htt']
    simp only [hρ, List.getElem?_toArray, List.getElem?_cons_zero, List.getElem?_cons_succ]
    rw [Sem.run_bind, run_under (tMap_some ht), Result.andThen_ok]
    simp only []
    rw [Sem.run_bind, run_checkKey (P := P) hks hag hkr hok true w, Result.andThen_ok]
    rfl
  · obtain ⟨es, clock, hm, hr⟩ := b2_some.1 (show (b2 (m.ofMap b) fun es c => (findA ag ks (cellsL k) es 0).b fun f => oC f (some m) fun ie => Prod.rec (motive := fun _ => Option Mem) (fun i _ => (delNth i es).b fun l => m.put b (some (.map l c))) ie) = some m' from hr9)
    obtain ⟨f, hfd, hr⟩ := b_some.1 hr
    have hmb := ofMap_some hm
    obtain ⟨hbase, es', hw, hE⟩ := h.map b _ _ hmb p hp
    rcases run_findKey (P := P) hks hu hd hkr (keyOk_some hok).1 hE hfd w with ⟨rfl, q⟩ | ⟨j, e1, e1', rfl, q0, q1, q2, _, _, q3⟩
    · injection (show some m = some m' from hr) with hr; subst hr
      have hput : ∃ m1, m.put b (some (.map es clock)) = some m1 ∨ True := ⟨m, .inr trivial⟩
      have hl := h.live hmb hp
      refine OpSim.valV he (w' := setArr w p.blk (.map es' clock)) (v' := .tuple #[]) ?_ (LRel.tuple .nil) (σ' := σ) ?_ (Ext.refl σ m) (below_setArr hbase hl)
      · unfold Builtin.delete_
        rw [htt']
        simp only [hρ, List.getElem?_toArray, List.getElem?_cons_zero, List.getElem?_cons_succ]
        rw [Sem.run_bind, run_under (tMap_some ht), Result.andThen_ok]
        simp only []
        rw [Sem.run_bind, run_getMap hw, Result.andThen_ok]
        simp only []
        rw [Sem.run_bind, run_checkKey (P := P) hks hag hkr hok es'.isEmpty w, Result.andThen_ok]
        rw [Sem.run_bind, q, Result.andThen_ok]
        simp only []
        rw [Sem.run_bind, run_setMap hw _]; rfl
      · have hsame : setArr w p.blk (.map es' clock) = w := by
          unfold setArr
          have : w.heap.setIfInBounds p.blk (.map es' clock) = w.heap := by
            apply Array.ext_getElem?
            intro i
            rw [Array.getElem?_setIfInBounds]
            by_cases hi : p.blk = i
            · subst hi; rw [if_pos rfl, if_pos hl, hw]
            · rw [if_neg hi]
          rw [this]
        rw [hsame]; exact h
    · obtain ⟨l, hl, hput⟩ := b_some.1 (show ((delNth j es).b fun l => m.put b (some (.map l clock))) = some m' from hr)
      obtain ⟨hj, hl⟩ := (delNth_eq _ _ _).1 hl; subst hl
      have hjl : j < es'.size := (Array.getElem?_eq_some_iff.1 q1).1
      obtain ⟨r1, r2, r3⟩ := h.update hmb hp hput hbase (o := .map (es'.eraseIdxIfInBounds j) clock) ⟨_, rfl, by
        have : (es'.eraseIdxIfInBounds j).toList = es'.toList.eraseIdx j := by
          rw [Array.eraseIdxIfInBounds, dif_pos hjl, Array.toList_eraseIdx]
        rw [this]; exact hE.erase j⟩
      refine OpSim.valV he (v' := .tuple #[]) (w' := setArr w p.blk (.map (es'.eraseIdxIfInBounds j) clock)) ?_ (LRel.tuple .nil) r1 r3 r2
      unfold Builtin.delete_
      rw [htt']
      simp only [hρ, List.getElem?_toArray, List.getElem?_cons_zero, List.getElem?_cons_succ]
      rw [Sem.run_bind, run_under (tMap_some ht), Result.andThen_ok]
      simp only []
      rw [Sem.run_bind, run_getMap hw, Result.andThen_ok]
      simp only []
      rw [Sem.run_bind, run_checkKey (P := P) hks hag hkr hok es'.isEmpty w, Result.andThen_ok]
      rw [Sem.run_bind, q3, Result.andThen_ok]
      simp only []
      rw [Sem.run_bind, run_setMap hw _]; rfl
end
end Go.Am
namespace Go.Am
set_option linter.unusedSectionVars false
variable [Env]
open Go.RowKit (Below)
set_option linter.unusedSimpArgs false
set_option linter.unusedVariables false

section
variable {P : Program} {base : Nat} {σ : Sg} {m : Mem} {w : World} {ρ : Operand → Value} {o : Oper} {tm : Tr Value} {act : Act}

theorem sim_range (h : Rel P base σ m w) {t : TypeId} {x : Operand} (ho : o.op = .range t x) {c : Oc} (hx : Ev σ tm ρ x c) (hf : oRange P t c tm m = some act) : OpSim P base σ m w ρ o act := by
  obtain ⟨v, hv, hf⟩ := b_some.1 hf
  obtain ⟨u, m', hr, rfl⟩ := okVM_some hf
  unfold rangeA at hr
  obtain ⟨kt, et, ht, hr⟩ := b2_some.1 hr
  obtain ⟨q, hq, hr⟩ := b_some.1 hr
  have hvm := vMap_some hq; subst hvm
  have he : execOp ρ o = (do pure (.value (← Instr.range t (ρ x)))) := by rw [execOp, ho]
  have fin : ∀ (it : Obj) (b : Nat) (x : Blk), m.new x = some (b, m') → ObjRel P base σ x ⟨w.heap.size, 0, 0, 0, 0⟩ it → u = .pointer (some ⟨b, 0, none⟩) →
      (Instr.range t (ρ ‹Operand›)).run P w = .ok (.pointer (some ⟨w.heap.size, 0, none⟩)) { w with heap := w.heap.push it } → OpSim P base σ m w ρ o (.val u m') := by
    intro it b x hn hO hu hrun
    subst hu
    have := h.new hn (p := ⟨w.heap.size, 0, 0, 0, 0⟩) (o := it) (w' := { w with heap := w.heap.push it }) rfl rfl hO (fun hn => absurd hn.2 (by simp))
    exact OpSim.valV he hrun (VRel.ptr 0 (place_same b _)) this.1 this.2.1 (below_push h.base rfl rfl rfl rfl)
  rcases (hx _ hv).map_inv with ⟨rfl, hρ⟩ | ⟨b, p, rfl, hp, hρ⟩
  · obtain ⟨b, m1, hn, hr⟩ := b2_some.1 (show (b2 (m.new (.iter none 0 [] 0)) fun b m => some (Value.pointer (some ⟨b, 0, none⟩), m)) = some (u, m') from hr)
    injection hr with hr; injection hr with h1 h2; subst h2
    refine fin (.mapIter none 0 #[] 0) b _ hn ⟨rfl, none, .nilMap, rfl⟩ h1.symm ?_
    unfold Instr.range
    rw [hρ, Sem.run_bind, run_under (tMap_some ht), Result.andThen_ok]
    simp [newObj, Sem.run]
  · obtain ⟨es, clock, hm, hr⟩ := b2_some.1 (show (b2 (m.ofMap b) fun _ c => b2 (m.new (.iter (some b) c [] c)) fun b m => some (Value.pointer (some ⟨b, 0, none⟩), m)) = some (u, m') from hr)
    obtain ⟨b1, m1, hn, hr⟩ := b2_some.1 hr
    injection hr with hr; injection hr with h1 h2; subst h2
    obtain ⟨_, es', hw, hE⟩ := h.map b es clock (ofMap_some hm) p hp
    refine fin (.mapIter (some p.blk) clock #[] clock) b1 _ hn ⟨rfl, some p.blk, .map hp, rfl⟩ h1.symm ?_
    unfold Instr.range
    rw [hρ, Sem.run_bind, run_under (tMap_some ht), Result.andThen_ok]
    simp only []
    rw [Sem.run_bind, run_getMap hw, Result.andThen_ok]
    simp [newObj, Sem.run]

theorem ofIter_some {b : Nat} {r : Option Nat} {since : Nat} {seen : List Nat} {last : Nat} (h : m.ofIter b = some (.mk r since seen last)) : m.get b = some (.iter r since seen last) := by
  obtain ⟨x, hx, h⟩ := b_some.1 h
  cases x with
  | iter a b c d => injection h with h; injection h with h1 h2 h3 h4; rw [hx, h1, h2, h3, h4]
  | cells _ _ _ => cases h
  | map _ _ => cases h

theorem memN_eq (n : Nat) : ∀ l : List Nat, memN n l = l.contains n := by
  intro l
  induction l with
  | nil => rfl
  | cons k l ih =>
    show bC (Nat.beq n k) true (memN n l) = _
    rw [List.contains_cons, ih]
    cases hh : Nat.beq n k with
    | true => have := (nbeq _ _).1 hh; subst this; simp [bC]
    | false => have := (nbeqf _ _).1 hh; simp [bC, this]

theorem unseen_eq (seen : List Nat) : ∀ es : List MapEntry, unseen seen es = es.filter fun e => !seen.contains e.born := by
  intro es
  induction es with
  | nil => rfl
  | cons e es ih =>
    show bC (memN e.born seen) (unseen seen es) (e :: unseen seen es) = _
    rw [memN_eq, ih, List.filter_cons]
    cases hh : seen.contains e.born <;> simp [bC]

theorem allLate_eq (last : Nat) : ∀ es : List MapEntry, allLate last es = es.all fun e => decide (e.born ≥ last) := by
  intro es
  induction es with
  | nil => rfl
  | cons e es ih =>
    show bC (Nat.ble last e.born) (allLate last es) false = _
    rw [List.all_cons, ih]
    cases hh : Nat.ble last e.born with
    | true => have := (nble _ _).1 hh; simp [bC, this]
    | false => have := (nblef _ _).1 hh; simp [bC]; intro h; omega

theorem ERel.filter {l l' : List MapEntry} (f : Nat → Bool) (h : ERel σ l l') : ERel σ (l.filter fun e => f e.born) (l'.filter fun e => f e.born) := by
  induction l generalizing l' with
  | nil => have : l' = [] := by have := h.1; simp at this; exact List.length_eq_zero_iff.1 this.symm
           subst this; exact h
  | cons e l ih =>
    cases l' with
    | nil => have := h.1; simp at this
    | cons e' l' =>
      obtain ⟨h1, h2, h3⟩ := h.2 0 e e' rfl rfl
      have ht : ERel σ l l' := ⟨by have := h.1; simpa using this, fun i a b ha hb => h.2 (i + 1) a b (by simpa using ha) (by simpa using hb)⟩
      have := ih ht
      rw [List.filter_cons, List.filter_cons, ← h3]
      cases f e.born with
      | false => simpa using this
      | true =>
        simp only [if_true]
        exact ⟨by simp [this.1], fun i a b ha hb => by
          cases i with
          | zero => simp at ha hb; subst ha; subst hb; exact ⟨h1, h2, h3⟩
          | succ i => exact this.2 i a b (by simpa using ha) (by simpa using hb)⟩

theorem ERel.all {l l' : List MapEntry} (f : Nat → Bool) (h : ERel σ l l') : (l.all fun e => f e.born) = (l'.all fun e => f e.born) := by
  induction l generalizing l' with
  | nil => have : l' = [] := by have := h.1; simp at this; exact List.length_eq_zero_iff.1 this.symm
           subst this; rfl
  | cons e l ih =>
    cases l' with
    | nil => have := h.1; simp at this
    | cons e' l' =>
      obtain ⟨h1, h2, h3⟩ := h.2 0 e e' rfl rfl
      have ht : ERel σ l l' := ⟨by have := h.1; simpa using this, fun i a b ha hb => h.2 (i + 1) a b (by simpa using ha) (by simpa using hb)⟩
      rw [List.all_cons, List.all_cons, ← h3, ih ht]

theorem ERel.nil_iff {l l' : List MapEntry} (h : ERel σ l l') : l = [] ↔ l' = [] := by
  have := h.1
  constructor
  · rintro rfl; simp at this; exact List.length_eq_zero_iff.1 this.symm
  · rintro rfl; simp at this; exact this

theorem run_setIter {b : Nat} {r : Option Nat} {since : Nat} {seen : Array Nat} {last : Nat} (h : w.heap[b]? = some (.mapIter r since seen last)) (o : Obj) : (setObj b o).run P w = .ok () (setArr w b o) := by
  simp [setObj, Sem.run, h, setArr]
theorem run_getIter {b : Nat} {r : Option Nat} {since : Nat} {seen : Array Nat} {last : Nat} (h : w.heap[b]? = some (.mapIter r since seen last)) : (getObj b).run P w = .ok (.mapIter r since seen last) w := by
  simp [getObj, Sem.run, h]

theorem sim_next (h : Rel P base σ m w) {x : Operand} (ho : o.op = .next x false) {c : Oc} (hx : Ev σ tm ρ x c) (hf : oNext c tm m = some act) : OpSim P base σ m w ρ o act := by
  obtain ⟨v, hv, hf⟩ := b_some.1 hf
  obtain ⟨u, m', hr, rfl⟩ := okVM_some hf
  unfold nextA at hr
  obtain ⟨b, k, hb, hr⟩ := b2_some.1 hr
  obtain ⟨hk, hr⟩ := bC_some.1 hr
  obtain ⟨⟨r, since, seen, last⟩, hit, hr⟩ := b_some.1 hr
  obtain ⟨s, hvv⟩ := vAt_some hb; subst hvv
  have := (nbeq _ _).1 hk; subst this
  obtain ⟨p, hp, hρ⟩ := (hx _ hv).ptr_inv
  have hgi := ofIter_some hit
  obtain ⟨hsh, hbase, r', hrr, hwi⟩ := h.iter b r since seen last hgi p hp
  have he : execOp ρ o = (do pure (.value (← Instr.next (ρ x) false o.type))) := by rw [execOp, ho]
  rw [hsh, Nat.add_zero] at hρ
  rcases hrr.map_inv with ⟨hr0, hr1⟩ | ⟨b2', q, hr0, hq, hr1⟩
  · subst hr0
    injection hr1 with hr1; subst hr1
    injection (show some (Value.tuple ⟨[.bool false]⟩, m) = some (u, m') from hr) with hr; injection hr with e1 e2; subst e1; subst e2
    refine OpSim.pureV h he (v' := .tuple #[.bool false]) ?_ (LRel.tuple (.cons (.bool false) .nil))
    unfold Instr.next
    rw [hρ]
    simp only []
    rw [Sem.run_bind, run_getIter hwi, Result.andThen_ok]
    rfl
  · subst hr0
    injection hr1 with hr1; subst hr1
    obtain ⟨es, clock, hm, hr⟩ := b2_some.1 (show (b2 (m.ofMap b2') fun es clock => bC (bC (isNil seen) false (bC (isNil es) false (allLate last es))) none
            (List.rec (motive := fun _ => Option (Value × Mem)) (some (Value.tuple ⟨[.bool false]⟩, m))
              (fun e l _ => bC (isNil l)
                (MapEntry.rec (motive := fun _ => Option (Value × Mem)) (fun k v born => bC (Nat.blt born since)
                  ((snoc seen born).b fun seen => (m.put b (some (.iter (some b2') since seen clock))).b fun m => some (.tuple ⟨[.bool true, k, v]⟩, m)) none) e) none)
              (unseen seen es))) = some (u, m') from hr)
    obtain ⟨hlate, hr⟩ := bC_none.1 hr
    obtain ⟨_, es', hw, hE⟩ := h.map b2' es clock (ofMap_some hm) q hq
    have hnl : ¬ (¬ seen = [] ∧ ¬ es'.toList = [] ∧ (es'.toList.all fun e => decide (e.born ≥ last)) = true) := by
      rintro ⟨n1, n2, n3⟩
      have n2' : es ≠ [] := fun e => n2 (hE.nil_iff.1 e)
      have : isNil seen = false := by cases hh : isNil seen with
        | true => exact absurd ((isNil_eq _).1 hh) n1
        | false => rfl
      have h2 : isNil es = false := by cases hh : isNil es with
        | true => exact absurd ((isNil_eq _).1 hh) n2'
        | false => rfl
      rw [this, h2, allLate_eq, hE.all (fun n => decide (n ≥ last)), n3] at hlate
      cases hlate
    have hfl := hE.filter fun n => !seen.contains n
    rw [← unseen_eq] at hfl
    cases hun : unseen seen es with
    | nil =>
      rw [hun] at hr hfl
      injection (show some (Value.tuple ⟨[.bool false]⟩, m) = some (u, m') from hr) with hr; injection hr with e1 e2; subst e1; subst e2
      have hl0 : es'.toList.filter (fun e => !seen.contains e.born) = [] := hfl.nil_iff.1 rfl
      refine OpSim.pureV h he (v' := .tuple #[.bool false]) ?_ (LRel.tuple (.cons (.bool false) .nil))
      unfold Instr.next
      rw [hρ]
      simp only []
      rw [Sem.run_bind, run_getIter hwi, Result.andThen_ok]
      simp only []
      rw [Sem.run_bind, run_getMap hw, Result.andThen_ok]
      simp only []
      rw [if_neg]
      rotate_left
      · intro hc
        refine hnl ?_
        simp only [Bool.and_eq_true, Bool.not_eq_true', Array.isEmpty_eq_false_iff, Array.all_eq_true'] at hc
        obtain ⟨⟨c1, c2⟩, c3⟩ := hc
        refine ⟨fun e => ?_, fun e => ?_, ?_⟩
        · subst e; simp at c1
        · exact c2 (by apply Array.ext'; simpa using e)
        · rw [List.all_eq_true]
          intro e he
          exact c3 e (by simpa using he)
      have : es'.filter (fun e => !(⟨seen⟩ : Array Nat).contains e.born) = #[] := by
        apply Array.ext'; rw [Array.toList_filter]; simpa using hl0
      simp only [this]
      simp [choose, Sem.run, Question.forced]
    | cons e l =>
      rw [hun] at hr hfl
      obtain ⟨hl, hr8⟩ := bC_some.1 (show bC (isNil l)
                (bC (Nat.blt e.born since)
                  ((snoc seen e.born).b fun seen => (m.put b (some (.iter (some b2') since seen clock))).b fun m => some (Value.tuple ⟨[.bool true, e.key, e.val]⟩, m)) none) none = some (u, m') from by cases e; exact hr)
      have := (isNil_eq _).1 hl; subst this
      obtain ⟨hlt, hr⟩ := bC_some.1 hr8
      obtain ⟨seen', hsn, hr⟩ := b_some.1 hr
      obtain ⟨m1, hput, hr⟩ := b_some.1 hr
      injection hr with hr; injection hr with e1 e2; subst e1; subst e2
      have := (snoc_eq _ _ _).1 hsn; subst this
      obtain ⟨e', he'⟩ : ∃ e', es'.toList.filter (fun e => !seen.contains e.born) = [e'] := by
        have := hfl.1
        exact List.length_eq_one_iff.1 (by simpa using this.symm)
      rw [he'] at hfl
      obtain ⟨g1, g2, g3⟩ := hfl.2 0 e e' rfl rfl
      have hlt' : e'.born < since := by rw [← g3]; simp [Nat.blt, nble] at hlt; omega
      obtain ⟨r1, r2, r3⟩ := h.update hgi hp hput hbase (o := .mapIter (some q.blk) since ((⟨seen⟩ : Array Nat).push e'.born) clock) ⟨hsh, some q.blk, .map hq, by rw [← g3]; congr 1; apply Array.ext'; simp⟩
      refine OpSim.valV he (v' := .tuple #[.bool true, e'.key, e'.val]) (w' := setArr w p.blk (.mapIter (some q.blk) since ((⟨seen⟩ : Array Nat).push e'.born) clock)) ?_ (LRel.tuple (.cons (.bool true) (.cons g1 (.cons g2 .nil)))) r1 r3 r2
      unfold Instr.next
      rw [hρ]
      simp only []
      rw [Sem.run_bind, run_getIter hwi, Result.andThen_ok]
      simp only []
      rw [Sem.run_bind, run_getMap hw, Result.andThen_ok]
      simp only []
      rw [if_neg]
      rotate_left
      · intro hc
        refine hnl ?_
        simp only [Bool.and_eq_true, Bool.not_eq_true', Array.isEmpty_eq_false_iff, Array.all_eq_true'] at hc
        obtain ⟨⟨c1, c2⟩, c3⟩ := hc
        refine ⟨fun e => ?_, fun e => ?_, ?_⟩
        · subst e; simp at c1
        · exact c2 (by apply Array.ext'; simpa using e)
        · rw [List.all_eq_true]
          intro e he
          exact c3 e (by simpa using he)
      have : es'.filter (fun e => !(⟨seen⟩ : Array Nat).contains e.born) = #[e'] := by
        apply Array.ext'; rw [Array.toList_filter]; simpa using he'
      simp only [this]
      have h1 : (#[e'] : Array MapEntry).filter (fun e => decide (e.born < since)) = #[e'] := by apply Array.ext'; simp [hlt']
      have h2 : (#[e'] : Array MapEntry).filter (fun e => decide (e.born ≥ since)) = #[] := by apply Array.ext'; simp [hlt']
      simp only [h1, h2]
      rw [Sem.run_bind]
      have h3 : (choose (.mapNext (((if (#[e'] : Array MapEntry).isEmpty then #[none] else #[]) ++ ((#[e'] : Array MapEntry) ++ #[]).map some : Array (Option MapEntry))).size)).run P w = .ok 0 w := by
        simp [choose, Sem.run, Question.forced]
      rw [h3, Result.andThen_ok]
      simp only [List.isEmpty_toArray, List.isEmpty_cons, Bool.false_eq_true, if_false, Array.append_empty, List.map_toArray, List.map_cons, List.map_nil, Array.empty_append, List.getElem?_toArray, List.getElem?_cons_zero]
      rw [Sem.run_bind, run_setIter hwi]
      first | done | rfl

theorem lastN_eq : ∀ (l : List Nat), lastN l = l.getLast? := by
  intro l
  induction l with
  | nil => rfl
  | cons n l ih =>
    show oC (lastN l) (some n) some = _
    rw [ih, List.getLast?_cons]
    cases l.getLast? <;> rfl
theorem bornIs_eq (n : Nat) : ∀ (es : List MapEntry), bornIs n es = es.find? fun e => e.born == n := by
  intro es
  induction es with
  | nil => rfl
  | cons e es ih =>
    show bC (Nat.beq e.born n) (some e) (bornIs n es) = _
    rw [List.find?_cons, ih]
    cases hh : Nat.beq e.born n with
    | true => have := (nbeq _ _).1 hh; simp [bC, this]
    | false => have := (nbeqf _ _).1 hh; have h2 : (e.born == n) = false := by simpa using this
               rw [h2]
theorem ERel.find {l l' : List MapEntry} (h : ERel σ l l') {n : Nat} {e : MapEntry} (he : l.find? (fun e => e.born == n) = some e) : ∃ e', l'.find? (fun e => e.born == n) = some e' ∧ VRel σ e.key e'.key ∧ VRel σ e.val e'.val := by
  induction l generalizing l' with
  | nil => cases he
  | cons a l ih =>
    cases l' with
    | nil => have := h.1; simp at this
    | cons a' l' =>
      obtain ⟨h1, h2, h3⟩ := h.2 0 a a' rfl rfl
      have ht : ERel σ l l' := ⟨by have := h.1; simpa using this, fun i a b ha hb => h.2 (i + 1) a b (by simpa using ha) (by simpa using hb)⟩
      rw [List.find?_cons] at he ⊢
      rw [← h3]
      cases hh : a.born == n with
      | true => rw [hh] at he; injection he with he; subst he; exact ⟨a', rfl, h1, h2⟩
      | false => rw [hh] at he; exact ih ht he

theorem sim_entry (h : Rel P base σ m w) {x : Operand} (ho : o.op = .entry x) {c : Oc} (hx : Ev σ tm ρ x c) (hf : oEntry c tm m = some act) : OpSim P base σ m w ρ o act := by
  obtain ⟨v, hv, hf⟩ := b_some.1 hf
  obtain ⟨u, hr, rfl⟩ := okV_some hf
  unfold entryA at hr
  obtain ⟨b, k, hb, hr⟩ := b2_some.1 hr
  obtain ⟨hk, hr⟩ := bC_some.1 hr
  obtain ⟨⟨r, since, seen, last⟩, hit, hr9⟩ := b_some.1 hr
  obtain ⟨s, hvv⟩ := vAt_some hb; subst hvv
  have := (nbeq _ _).1 hk; subst this
  obtain ⟨p, hp, hρ⟩ := (hx _ hv).ptr_inv
  have hgi := ofIter_some hit
  obtain ⟨hsh, hbase, r', hrr, hwi⟩ := h.iter b r since seen last hgi p hp
  have he : execOp ρ o = (do pure (.value (← Instr.entry (ρ x)))) := by rw [execOp, ho]
  rw [hsh, Nat.add_zero] at hρ
  obtain ⟨r0, hr0, hr8⟩ := b_some.1 (show (r.b fun r => b2 (m.ofMap r) fun es clock => (lastN seen).b fun stamp => bC (Nat.beq clock last) ((bornIs stamp es).b fun e => MapEntry.rec (motive := fun _ => Option Value) (fun k v _ => some (.tuple ⟨[k, v]⟩)) e) none) = some u from hr9)
  clear hr9
  subst hr0
  obtain ⟨es, clock, hm, hr⟩ := b2_some.1 hr8
  obtain ⟨stamp, hst, hr⟩ := b_some.1 hr
  obtain ⟨hcl, hr⟩ := bC_some.1 hr
  obtain ⟨e, hbn, hr⟩ := b_some.1 hr
  injection (show some (Value.tuple ⟨[e.key, e.val]⟩) = some u from hr) with hr; subst hr
  have := (nbeq _ _).1 hcl; subst this
  rcases hrr.map_inv with ⟨hr0, _⟩ | ⟨b2', q, hr0, hq, hr1⟩
  · cases hr0
  injection hr0 with hr0; subst hr0
  injection hr1 with hr1; subst hr1
  obtain ⟨_, es', hw, hE⟩ := h.map r0 es clock (ofMap_some hm) q hq
  rw [bornIs_eq] at hbn
  obtain ⟨e', hf', g1, g2⟩ := hE.find hbn
  refine OpSim.pureV h he (v' := .tuple #[e'.key, e'.val]) ?_ (LRel.tuple (.cons g1 (.cons g2 .nil)))
  unfold Instr.entry
  rw [hρ]
  simp only []
  rw [Sem.run_bind, run_getIter hwi, Result.andThen_ok]
  simp only []
  have : (⟨seen⟩ : Array Nat).back? = some stamp := by rw [← hst, lastN_eq]; simp
  rw [this]
  simp only []
  rw [Sem.run_bind, run_getMap hw, Result.andThen_ok]
  simp only [bne_self_eq_false, Bool.false_eq_true, if_false]
  have hfa : es'.find? (fun x => x.born == stamp) = some e' := by rw [← hf', Array.find?_toList]
  rw [hfa]
  rfl
end
end Go.Am
namespace Go.Am
set_option linter.unusedSectionVars false
variable [Env]
open Go.RowKit (Below)
set_option linter.unusedSimpArgs false
set_option linter.unusedVariables false

section
variable {P : Program} {base : Nat} {σ : Sg} {m : Mem} {w : World} {ρ : Operand → Value} {o : Oper} {tm : Tr Value} {act : Act}

theorem sim_op (F : Fit P) (h : Rel P base σ m w) (hyp : OpHyp σ tm ρ o) {g : OpF} (hc : opC P o.op = some g) (hf : g tm m = some act) : OpSim P base σ m w ρ o act := by
  have hv : ∀ {x : Operand} {c : Oc}, x ∈ o.op.operands → cO x = some c → Ev σ tm ρ x c := fun a b => hyp.ev a b
  unfold opC at hc
  cases hop : o.op with
  | move x =>
    rw [hop] at hc hv
    obtain ⟨c, hx, hc⟩ := b_some.1 hc; injection hc with hc; subst hc
    exact sim_move h (by rw [execOp, hop]) (hv (by simp [Op.operands]) hx) hf
  | assign x =>
    rw [hop] at hc hv
    obtain ⟨c, hx, hc⟩ := b_some.1 hc; injection hc with hc; subst hc
    exact sim_move h (by rw [execOp, hop]) (hv (by simp [Op.operands]) hx) hf
  | pick x y z =>
    rw [hop] at hc hv
    obtain ⟨c, hx, hc⟩ := b_some.1 hc
    obtain ⟨d, hy, hc⟩ := b_some.1 hc
    obtain ⟨e, hz, hc⟩ := b_some.1 hc; injection hc with hc; subst hc
    exact sim_pick h hop (hv (by simp [Op.operands]) hx) (hv (by simp [Op.operands]) hy) (hv (by simp [Op.operands]) hz) hf
  | alloc e =>
    rw [hop] at hc
    obtain ⟨z, hz, hc⟩ := b_some.1 hc; injection hc with hc; subst hc
    exact sim_alloc h hop hz hf
  | box e x =>
    rw [hop] at hc hv
    obtain ⟨c, hx, hc⟩ := b_some.1 hc
    obtain ⟨n, hn, hc⟩ := b_some.1 hc; injection hc with hc; subst hc
    exact sim_box h hop (hv (by simp [Op.operands]) hx) hn hf
  | build t ps =>
    rw [hop] at hc hv
    obtain ⟨cs, hcs, hc⟩ := b_some.1 hc
    obtain ⟨z, hz, hc⟩ := b_some.1 hc
    obtain ⟨u, hu, hc⟩ := b_some.1 hc
    replace hu := undA_some hu
    obtain ⟨pl, hpl, hc⟩ := b_some.1 hc; injection hc with hc; subst hc
    exact sim_build h hop hcs (fun x hx c hcx => hv (by simp only [Op.operands, List.mem_toArray, List.mem_map]; exact ⟨x, hx, rfl⟩) hcx) hz hu hpl hf
  | buildSlice t len ps =>
    rw [hop] at hc hv
    obtain ⟨cs, hcs, hc⟩ := b_some.1 hc
    obtain ⟨e, he, hc⟩ := b_some.1 hc
    obtain ⟨size, hs, hc⟩ := b_some.1 hc
    obtain ⟨z, hz, hc⟩ := b_some.1 hc
    obtain ⟨h1, hc⟩ := bC_some.1 hc
    obtain ⟨h2, hc⟩ := bC_none.1 hc
    obtain ⟨z2, hz2, hc⟩ := b_some.1 hc; injection hc with hc; subst hc
    exact sim_buildSlice h hop hcs (fun x hx c hcx => hv (by simp only [Op.operands, List.mem_toArray, List.mem_map]; exact ⟨x, hx, rfl⟩) hcx) he hs hz ((nble _ _).1 h1) ((nbeqf _ _).1 h2) hz2 hf
  | load t a =>
    rw [hop] at hc hv
    obtain ⟨c, hx, hc⟩ := b_some.1 hc
    obtain ⟨g', hg, hc⟩ := b_some.1 hc
    obtain ⟨n, hn, hc⟩ := b_some.1 hc
    have := sim_load h hop (hv (by simp [Op.operands]) hx) hn (act := act)
    cases g' with
    | true => injection hc with hc; subst hc; exact this.1 hg hf
    | false => injection hc with hc; subst hc; exact this.2 hg hf
  | store t a x =>
    rw [hop] at hc hv
    obtain ⟨c, hx, hc⟩ := b_some.1 hc
    obtain ⟨d, hy, hc⟩ := b_some.1 hc
    obtain ⟨n, hn, hc⟩ := b_some.1 hc; injection hc with hc; subst hc
    exact sim_store h hop (hv (by simp [Op.operands]) hx) (hv (by simp [Op.operands]) hy) hn hf
  | nilCheck x =>
    rw [hop] at hc hv
    obtain ⟨c, hx, hc⟩ := b_some.1 hc; injection hc with hc; subst hc
    exact sim_nilCheck h hop (hv (by simp [Op.operands]) hx) hf
  | binOp op t x y ty =>
    rw [hop] at hc hv
    obtain ⟨c, hx, hc⟩ := b_some.1 hc
    obtain ⟨d, hy, hc⟩ := b_some.1 hc; injection hc with hc; subst hc
    exact sim_bin F h hop (hv (by simp [Op.operands]) hx) (hv (by simp [Op.operands]) hy) hf
  | unOp op t x =>
    rw [hop] at hc hv
    obtain ⟨c, hx, hc⟩ := b_some.1 hc; injection hc with hc; subst hc
    exact sim_un h hop (hv (by simp [Op.operands]) hx) hf (fun v v' => run_un P)
  | convert s d x =>
    rw [hop] at hc hv
    obtain ⟨c, hx, hc⟩ := b_some.1 hc; injection hc with hc; subst hc
    exact sim_convert h hop (hv (by simp [Op.operands]) hx) hf
  | sliceToArrayPointer t x =>
    rw [hop] at hc hv
    obtain ⟨c, hx, hc⟩ := b_some.1 hc
    obtain ⟨n, e, ht, hc⟩ := b2_some.1 hc
    obtain ⟨h1, hc⟩ := bC_none.1 hc; injection hc with hc; subst hc
    exact sim_toArray h hop (hv (by simp [Op.operands]) hx) ht ((nbeqf _ _).1 h1) hf
  | makeInterface t x =>
    rw [hop] at hc hv
    obtain ⟨c, hx, hc⟩ := b_some.1 hc
    obtain ⟨u, hu, hc⟩ := b_some.1 hc
    replace hu := undA_some hu
    obtain ⟨h1, hc⟩ := bC_none.1 hc; injection hc with hc; subst hc
    exact sim_iface h hop (hv (by simp [Op.operands]) hx) hu h1 hf
  | makeFunc fn a b =>
    rw [hop] at hc hv
    cases fn with
    | func f =>
      obtain ⟨c, hx, hc⟩ := b_some.1 hc
      obtain ⟨d, hy, hc⟩ := b_some.1 hc; injection hc with hc; subst hc
      exact sim_func h hop hx hy (fun x hx c hcx => hv (by simp only [Op.operands, Array.mem_append]; exact .inl (by simpa using hx)) hcx)
        (fun x hx c hcx => hv (by simp only [Op.operands, Array.mem_append]; exact .inr (by simpa using hx)) hcx) hf
    | method n => cases hc
    | methodOf t n => cases hc
    | via a b c d => cases hc
    | yield n => cases hc
  | makeMap t r =>
    rw [hop] at hc
    cases r with
    | none => injection hc with hc; subst hc; exact sim_makeMap h hop hf
    | some r => cases hc
  | makeSlice t l c =>
    rw [hop] at hc hv
    obtain ⟨cl, hx, hc⟩ := b_some.1 hc
    obtain ⟨cc, hy, hc⟩ := b_some.1 hc
    obtain ⟨e, he, hc⟩ := b_some.1 hc
    obtain ⟨size, hs, hc⟩ := b_some.1 hc
    obtain ⟨bytes, hb, hc⟩ := b_some.1 hc
    obtain ⟨z, hz, hc⟩ := b_some.1 hc
    obtain ⟨h1, hc⟩ := bC_none.1 hc; injection hc with hc; subst hc
    exact sim_makeSlice h hop (hv (by simp [Op.operands]) hx) (hv (by simp [Op.operands]) hy) he hs hb hz ((nbeqf _ _).1 h1) hf
  | slice t x lo hi mx =>
    rw [hop] at hc hv
    obtain ⟨c, hx, hc⟩ := b_some.1 hc
    obtain ⟨clo, h1, hc⟩ := b_some.1 hc
    obtain ⟨chi, h2, hc⟩ := b_some.1 hc
    obtain ⟨cmx, h3, hc⟩ := b_some.1 hc
    obtain ⟨hok, hc⟩ := bC_some.1 hc; injection hc with hc; subst hc
    exact sim_slice h hop (hv (by simp [Op.operands]) hx) h1 h2 h3 (fun x hx d hd => hv (by simp [Op.operands, hx]) hd) (fun x hx d hd => hv (by simp [Op.operands, hx]) hd) (fun x hx d hd => hv (by simp [Op.operands, hx]) hd) hok hf
  | fieldAddr s x f =>
    rw [hop] at hc hv
    obtain ⟨c, hx, hc⟩ := b_some.1 hc
    obtain ⟨⟨off, ty, size⟩, hy, hc⟩ := b_some.1 hc
    obtain ⟨h1, hc⟩ := bC_none.1 (show bC (Nat.beq size 0) none (some (oFieldAddr off c)) = some g from hc); injection hc with hc; subst hc
    exact sim_fieldAddr h hop (hv (by simp [Op.operands]) hx) hy ((nbeqf _ _).1 h1) hf
  | field s x f =>
    rw [hop] at hc hv
    obtain ⟨c, hx, hc⟩ := b_some.1 hc
    obtain ⟨⟨off, ty, size⟩, hy, hc⟩ := b_some.1 hc
    injection (show some (oField P off ty c) = some g from hc) with hc; subst hc
    exact sim_field h hop (hv (by simp [Op.operands]) hx) hy hf
  | indexAddr t x i =>
    rw [hop] at hc hv
    obtain ⟨c, hx, hc⟩ := b_some.1 hc
    obtain ⟨d, hi, hc⟩ := b_some.1 hc
    cases hs : tSlice P t with
    | none =>
      rw [hs] at hc
      obtain ⟨n, e, ht, hc⟩ := b2_some.1 (show (b2 (tArray P t) fun n e => (sizeT P e).b fun size => some (oIndexArr n size c d)) = some g from hc)
      obtain ⟨size, hs, hc⟩ := b_some.1 hc; injection hc with hc; subst hc
      exact sim_indexArr h hop (hv (by simp [Op.operands]) hx) (hv (by simp [Op.operands]) hi) ht hs hf
    | some e =>
      rw [hs] at hc
      obtain ⟨size, hsz, hc⟩ := b_some.1 hc; injection hc with hc; subst hc
      exact sim_indexSl h hop (hv (by simp [Op.operands]) hx) (hv (by simp [Op.operands]) hi) hs hsz hf
  | index t x i =>
    rw [hop] at hc hv
    obtain ⟨c, hx, hc⟩ := b_some.1 hc
    obtain ⟨d, hi, hc⟩ := b_some.1 hc
    cases hs : isStr P t with
    | true =>
      rw [hs] at hc
      injection hc with hc; subst hc
      exact sim_indexStr h hop (hv (by simp [Op.operands]) hx) (hv (by simp [Op.operands]) hi) hs hf
    | false =>
      rw [hs] at hc
      obtain ⟨n, e, ht, hc⟩ := b2_some.1 (show (b2 (tArray P t) fun n e => (sizeT P e).b fun size => some (oIndex P n e size c d)) = some g from hc)
      obtain ⟨size, hsz, hc⟩ := b_some.1 hc; injection hc with hc; subst hc
      exact sim_index h hop (hv (by simp [Op.operands]) hx) (hv (by simp [Op.operands]) hi) ht hsz hf
  | lookup t x i ok =>
    rw [hop] at hc hv
    obtain ⟨c, hx, hc⟩ := b_some.1 hc
    obtain ⟨d, hi, hc⟩ := b_some.1 hc; injection hc with hc; subst hc
    exact sim_lookup h hop (hv (by simp [Op.operands]) hx) (hv (by simp [Op.operands]) hi) hf
  | mapUpdate t x k v =>
    rw [hop] at hc hv
    obtain ⟨c, hx, hc⟩ := b_some.1 hc
    obtain ⟨d, hi, hc⟩ := b_some.1 hc
    obtain ⟨e, hy, hc⟩ := b_some.1 hc; injection hc with hc; subst hc
    exact sim_update h hop (hv (by simp [Op.operands]) hx) (hv (by simp [Op.operands]) hi) (hv (by simp [Op.operands]) hy) hf
  | range t x =>
    rw [hop] at hc hv
    obtain ⟨c, hx, hc⟩ := b_some.1 hc; injection hc with hc; subst hc
    exact sim_range h hop (hv (by simp [Op.operands]) hx) hf
  | next it s =>
    rw [hop] at hc hv
    cases s with
    | true => cases hc
    | false =>
      obtain ⟨c, hx, hc⟩ := b_some.1 hc; injection hc with hc; subst hc
      exact sim_next h hop (hv (by simp [Op.operands]) hx) hf
  | entry it =>
    rw [hop] at hc hv
    obtain ⟨c, hx, hc⟩ := b_some.1 hc; injection hc with hc; subst hc
    exact sim_entry h hop (hv (by simp [Op.operands]) hx) hf
  | extract t i =>
    rw [hop] at hc hv
    obtain ⟨c, hx, hc⟩ := b_some.1 hc; injection hc with hc; subst hc
    exact sim_extract h hop (hv (by simp [Op.operands]) hx) hf
  | panic x =>
    rw [hop] at hc hv
    obtain ⟨c, hx, hc⟩ := b_some.1 hc; injection hc with hc; subst hc
    exact sim_panic h hop (hv (by simp [Op.operands]) hx) hf
  | call cl =>
    rw [hop] at hc hv
    unfold opCall at hc
    obtain ⟨cs, hcs, hc⟩ := b_some.1 hc
    have hva : ∀ x ∈ cl.args.toList, ∀ c, cO x = some c → Ev σ tm ρ x c := fun x hx c hcx => hv (by simp only [Op.operands, Call.operands, Array.mem_append]; exact .inr (by simpa using hx)) hcx
    cases hce : cl.callee with
    | value f =>
      rw [hce] at hc
      obtain ⟨cf, hcf, hc⟩ := b_some.1 hc; injection hc with hc; subst hc
      exact sim_callV hop hce (hv (by simp [Op.operands, Call.operands, hce]) hcf) hcs hva hf
    | invoke r n => rw [hce] at hc; cases hc
    | builtin b =>
      rw [hce] at hc
      replace hc : opB P b cl.argTypes.toList cs = some g := hc
      unfold opB at hc
      have two : ∀ {a b : Oc}, two' cs = some (a, b) → ∃ x y, cl.args = #[x, y] ∧ Ev σ tm ρ x a ∧ Ev σ tm ρ y b := by
        intro a b h2
        have := two'_some h2; subst this
        obtain ⟨x, y, hl, hx, hy⟩ := cL_two hcs
        refine ⟨x, y, by apply Array.ext'; rw [hl], hva x (by rw [hl]; simp) a hx, hva y (by rw [hl]; simp) b hy⟩
      have one : ∀ {a : Oc}, one' cs = some a → ∃ x, cl.args = #[x] ∧ Ev σ tm ρ x a := by
        intro a h2
        have := one'_some h2; subst this
        obtain ⟨x, hl, hx⟩ := cL_one hcs
        refine ⟨x, by apply Array.ext'; rw [hl], hva x (by rw [hl]; simp) a hx⟩
      cases b with
      | append =>
        obtain ⟨a, b, h2, hc⟩ := b2_some.1 hc; injection hc with hc; subst hc
        obtain ⟨x, y, ha, hx, hy⟩ := two h2
        exact sim_append h hop hce ha hx hy hf
      | copy =>
        obtain ⟨a, b, h2, hc⟩ := b2_some.1 hc; injection hc with hc; subst hc
        obtain ⟨x, y, ha, hx, hy⟩ := two h2
        exact sim_copy h hop hce ha hx hy hf
      | len =>
        obtain ⟨a, h2, hc⟩ := b_some.1 hc; injection hc with hc; subst hc
        obtain ⟨x, ha, hx⟩ := one h2
        exact sim_len h hop hce ha hx hf
      | min => injection hc with hc; subst hc; exact sim_min h hop hce hcs hva hf
      | max => injection hc with hc; subst hc; exact sim_max h hop hce hcs hva hf
      | clear =>
        obtain ⟨a, h2, hc⟩ := b_some.1 hc; injection hc with hc; subst hc
        obtain ⟨x, ha, hx⟩ := one h2
        exact sim_clear h hop hce ha hx hf
      | delete =>
        obtain ⟨a, b, h2, hc⟩ := b2_some.1 hc
        obtain ⟨t, ht, hc⟩ := b_some.1 hc; injection hc with hc; subst hc
        obtain ⟨x, y, ha, hx, hy⟩ := two h2
        exact sim_delete h hop hce ha ht hx hy hf
      | _ => cases hc
  | _ => rw [hop] at hc; cases hc
end
end Go.Am
namespace Go.Am
set_option linter.unusedSectionVars false
variable [Env]
open Go.RowKit (Below)
set_option linter.unusedSimpArgs false
set_option linter.unusedVariables false

section
variable {P : Program} {base : Nat} {σ : Sg} {m : Mem} {w : World} {ρ : Operand → Value} {o : Oper} {tm : Tr Value} {act : Act}

/-- What a new block comes to, wherever it is made. -/
def MakeAt (P : Program) (base : Nat) (σ : Sg) (ρ : Operand → Value) (o : Oper) (x : Blk) (mk : Nat → Value) (w : World) : Prop :=
  ∃ (p : Pl) (obj : Obj) (v' : Value) (k : Nat), p.blk = w.heap.size ∧ (execOp ρ o).run P w = .ok (.value v') { w with heap := w.heap.push obj, drawn := w.drawn + k } ∧ ObjRel P base σ x p obj ∧
    (∀ b (τ : Sg), τ b = some p → VRel τ (mk b) v') ∧ ¬ p.named

def Makes (P : Program) (o : Oper) (tm : Tr Value) (m0 m1 : Mem) (v : Value) : Prop :=
  ∃ b x mk, m0.new x = some (b, m1) ∧ v = mk b ∧ ∀ base σ ρ w, OpHyp σ tm ρ o → MakeAt P base σ ρ o x mk w

theorem objRow {e : TypeId} {l l' : List Value} (hl : LRel σ l l') (cap sz : Nat) (hsz : sz = P.cellsOf e) {arr : Array Value} (harr : arr.toList.take l.length = l') (hcap : cap * sz ≤ arr.size) (hlc : l.length ≤ cap * sz)
    (fz : Nat × Nat) (hfz : fz.1 = fz.2 ∨ arr.size ≤ fz.1 ∧ isU8 P e = true) (n : Nat) : ObjRel P base σ (.cells true e l) ⟨n, 0, cap, sz, l.length⟩ (.cells arr e fz) := by
  refine ⟨hsz, rfl, hlc, arr, fz, rfl, by simpa using hcap, hfz, ?_⟩
  intro i v hv
  obtain ⟨v', hv', hr⟩ := hl.get hv
  refine ⟨v', ?_, hr⟩
  have hi := (List.getElem?_eq_some_iff.1 hv).1
  rw [← harr, List.getElem?_take, if_pos hi] at hv'
  simpa using hv'

theorem makeAt_of {s : Sem Value} (ho : execOp ρ o = (do pure (.value (← s)))) {x : Blk} {mk : Nat → Value} {p : Pl} {obj : Obj} {v' : Value} {k : Nat} (hp : p.blk = w.heap.size)
    (hr : s.run P w = .ok v' { w with heap := w.heap.push obj, drawn := w.drawn + k }) (hO : ObjRel P base σ x p obj) (hv : ∀ b (τ : Sg), τ b = some p → VRel τ (mk b) v')
    (hk : (∃ rw' e vs, x = .cells rw' e vs) ∨ p.n = 0 := by first | exact .inl ⟨_, _, _, rfl⟩ | exact .inr rfl) : MakeAt P base σ ρ o x mk w :=
  ⟨p, obj, v', k, hp, by rw [ho, Sem.run_bind, hr]; rfl, hO, hv, by
    rcases hk with ⟨rw', e, vs, rfl⟩ | hk
    · exact ObjRel.plain hO
    · exact fun hn => by have := hn.2; omega⟩

theorem run_newRow (e : TypeId) (arr : Array Value) (w : World) : (Go.newRow e arr).run P w = .ok ⟨w.heap.size, 0, none⟩ { w with heap := w.heap.push (.cells arr e (0, 0)), drawn := w.drawn + 0 } := by
  simp [Go.newRow, newObj, Sem.run]

theorem make_alloc {e : TypeId} (ho : o.op = .alloc e) {z : List Value} (hz : zeroT P e = some z) {v : Value} {m1 : Mem} (hf : oAlloc e z tm m = some (.val v m1)) : Makes P o tm m m1 v := by
  obtain ⟨v0, m', hn, h1⟩ := okVM_some hf
  injection h1 with h1 h2; subst h1; subst h2
  unfold newCells at hn
  obtain ⟨b, m2, hm, he⟩ := b2_some.1 hn
  injection he with he; injection he with h1 h2; subst h1; subst h2
  obtain ⟨z', n, hz', hn', rfl, hl⟩ := zeroT_some hz
  obtain ⟨_, _, _, hflat⟩ := zeroV_some hz'
  refine ⟨b, _, fun b => .pointer (some ⟨b, 0, none⟩), hm, rfl, fun base σ ρ w _ => ?_⟩
  have hc := (hflat.rel (σ := σ)).cells
  have hO := objRow (P := P) (base := base) (e := e) hc 1 (cellsL z').length (by rw [cellsOf_eq hn', hl]) (arr := z'.cells)
    (by rw [hc.1, List.take_length]) (by rw [cellsL_eq]; simp) (by omega) (0, 0) (.inl rfl) w.heap.size
  refine makeAt_of (s := Instr.alloc e true (.tuple #[])) (by rw [execOp, ho]) (k := 0) rfl ?_ hO fun b τ h => by have := VRel.ptr 0 h; simpa using this
  unfold Instr.alloc
  rw [Sem.run_bind, run_zero hz', Result.andThen_ok]
  show Sem.run P (do pure (Value.pointer (some (← newVar e z')))) w = _
  rw [Sem.run_bind]
  unfold newVar
  rw [run_newRow]
  rfl

theorem make_box {e : TypeId} {x : Operand} (ho : o.op = .box e x) {c : Oc} (hx : cO x = some c) {n : Nat} (hs : sizeT P e = some n) {v : Value} {m1 : Mem} (hf : oBox e n c tm m = some (.val v m1)) : Makes P o tm m m1 v := by
  obtain ⟨u, hu, hf⟩ := b_some.1 hf
  obtain ⟨hlen, hf⟩ := bC_some.1 hf
  obtain ⟨v0, m', hn, h1⟩ := okVM_some hf
  injection h1 with h1 h2; subst h1; subst h2
  unfold newCells at hn
  obtain ⟨b, m2, hm, he⟩ := b2_some.1 hn
  injection he with he; injection he with h1 h2; subst h1; subst h2
  refine ⟨b, _, fun b => .pointer (some ⟨b, 0, none⟩), hm, rfl, fun base σ ρ w hyp => ?_⟩
  have hc := (hyp.ev (x := x) (by simp [ho, Op.operands]) hx u hu).cells
  have hO := objRow (P := P) (base := base) (e := e) hc 1 (cellsL u).length (by rw [cellsOf_eq hs, (nbeq _ _).1 hlen]) (arr := (ρ x).cells)
    (by rw [hc.1, List.take_length]) (by have := hc.1; simp at this; omega) (by omega) (0, 0) (.inl rfl) w.heap.size
  refine makeAt_of (s := Instr.box e (ρ x)) (by rw [execOp, ho]) (k := 0) rfl ?_ hO fun b τ h => by have := VRel.ptr 0 h; simpa using this
  unfold Instr.box newVar
  rw [Sem.run_bind, run_newRow]
  rfl

theorem make_makeMap {t : TypeId} (ho : o.op = .makeMap t none) {v : Value} {m1 : Mem} (hf : oMakeMap tm m = some (.val v m1)) : Makes P o tm m m1 v := by
  unfold oMakeMap at hf
  obtain ⟨b, m', hn, hf⟩ := b2_some.1 hf
  injection hf with hf; injection hf with h1 h2; subst h1; subst h2
  refine ⟨b, _, fun b => .map (some b), hn, rfl, fun base σ ρ w hyp => ?_⟩
  refine makeAt_of (s := Instr.makeMap t none) (by rw [execOp, ho]; rfl) (p := ⟨w.heap.size, 0, 0, 0, 0⟩) (obj := .map #[] 0) (v' := .map (some w.heap.size)) (k := 0) rfl ?_ ⟨#[], rfl, rfl, fun i e e' a => by simp at a⟩ fun b τ h => VRel.map h
  simp [Instr.makeMap, newObj, Sem.run]

theorem fillL_len (size : Nat) : ∀ (ps : List (Nat × Value)) (z r : List Value), fillL (placeN size) ps z = some r → r.length = z.length := by
  intro ps
  induction ps with
  | nil => intro z r h; injection (show some z = some r from h) with h; rw [h]
  | cons x ps ih =>
    intro z r h
    obtain ⟨i, v⟩ := x
    obtain ⟨off, sz, hpl, h⟩ := b2_some.1 (show (b2 (placeN size i) fun off size => bC (Nat.beq (cellsL v).length size) ((spl off (cellsL v) z).b (fillL (placeN _) ps)) none) = some r from h)
    obtain ⟨hsz, h⟩ := bC_some.1 h
    obtain ⟨z2, hspl, h⟩ := b_some.1 h
    obtain ⟨hl, rfl⟩ := (spl_eq _ _ _ _).1 hspl
    rw [ih _ _ h]
    simp; omega

theorem reps_len {z : List Value} {size : Nat} (h : z.length = size) : ∀ n, (reps z n).length = n * size := by
  intro n
  induction n with
  | zero => simp [reps]
  | succ n ih => rw [reps, List.length_append, ih, h, Nat.add_mul]; omega

theorem make_buildSlice {t : TypeId} {len : Nat} {ps : Array (Nat × Operand)} (ho : o.op = .buildSlice t len ps) {cs : List (Nat × Oc)} (hcs : cP ps.toList = some cs)
    {e : TypeId} (ht : tSlice P t = some e) {size : Nat} (hs : sizeT P e = some size) {z z2 : List Value} (hz : zeroT P e = some z) (hle : len * size ≤ 10000000) (h0 : size ≠ 0) (hz2 : repL z len = some z2)
    {v : Value} {m1 : Mem} (hf : oBuildSlice e size len z2 cs tm m = some (.val v m1)) : Makes P o tm m m1 v := by
  obtain ⟨l, hl, hf⟩ := b_some.1 hf
  obtain ⟨r, hr, hf⟩ := b_some.1 hf
  obtain ⟨b, m', hn, hf⟩ := b2_some.1 hf
  injection hf with hf; injection hf with h1 h2; subst h1; subst h2
  obtain ⟨z0, n, hz0, hn0, rfl, hlen⟩ := zeroT_some hz
  obtain ⟨_, _, _, hflat⟩ := zeroV_some hz0
  rw [hs] at hn0; injection hn0 with hn0; subst hn0
  have := (repL_eq _ _ _).1 hz2; subst this
  refine ⟨b, _, fun b => .slice (some ⟨b, 0, none⟩) len len, hn, rfl, fun base σ ρ w hyp => ?_⟩
  have hx : ∀ x ∈ ps.toList, ∀ c, cO x.2 = some c → Ev σ tm ρ x.2 c := fun x hx c hcx => hyp.ev (by simp only [ho, Op.operands, List.mem_toArray, List.mem_map]; exact ⟨x, hx, rfl⟩) hcx
  have hp := evP_rel _ _ hcs hx l hl
  have hpl : (fun i => placeN size i) = fun i => some (i * size, size) := by funext i; unfold placeN; rw [fN_eq]; rfl
  have hcl : (cellsL z0) = z0.cells.toList := cellsL_eq z0
  rw [hcl] at hr hlen
  have hfl : LRel σ z0.cells.toList z0.cells.toList := by have := (hflat.rel (σ := σ)).cells; rw [hcl] at this; exact this
  obtain ⟨l', h1, h2⟩ := fill_rel (pl := placeN size) l _ _ (reps z0.cells.toList len) r hp (hfl.reps len) hr
  have hrl : r.length = len * size := by rw [fillL_len size _ _ _ hr, reps_len hlen]
  have hO := objRow (P := P) (base := base) h2 len size (cellsOf_eq hs).symm (arr := ⟨l'⟩) (by simp [h2.1]) (by simp; rw [← h2.1, hrl]; exact Nat.le_refl _) (by omega) (0, 0) (.inl rfl) w.heap.size
  refine makeAt_of (s := Instr.buildSlice t len (ps.map fun (i, x) => (i, ρ x))) (by rw [execOp, ho]) (v' := .slice (some ⟨w.heap.size, 0, none⟩) len len) (k := 0) rfl ?_ hO ?_
  · have hps : (ps.map fun (x : Nat × Operand) => (x.1, ρ x.2)).toList = ps.toList.map fun x => (x.1, ρ x.2) := by simp
    unfold Instr.buildSlice
    rw [Sem.run_bind, run_under (tSlice_some ht), Result.andThen_ok]
    simp only []
    rw [Sem.run_bind, run_size hs, Result.andThen_ok, Sem.run_ite, if_neg (by omega)]
    have h1' : Instr.fill (fun i => some (i * size, size)) ⟨reps z0.cells.toList len⟩ (ps.map fun (x : Nat × Operand) => (x.1, ρ x.2)).toList = some ⟨l'⟩ := by rw [hps, ← hpl]; exact h1
    by_cases hl0 : len = 0
    · subst hl0
      simp only [Nat.zero_mul, if_true, Sem.run_bind, Sem.run_pure, Result.andThen_ok]
      have hza : (Array.range 0).map (fun i => (#[] : Array Value)[i % (#[] : Array Value).size]!) = ⟨reps z0.cells.toList 0⟩ := by apply Array.ext'; simp [reps]
      rw [hza]
      simp only [h1']
      simp [Go.newRow, newObj, Sem.run]
    · have hne : len * size ≠ 0 := Nat.mul_ne_zero hl0 h0
      have hzs : z0.cells.size = size := by simpa using hlen
      have hza := range_zero z0.cells (by omega) len
      rw [hzs] at hza
      rw [if_neg hne]
      simp only [Sem.run_bind, run_zero hz0, Result.andThen_ok, Sem.run_pure, hzs, hza, h1']
      simp [Go.newRow, newObj, Sem.run]
  · intro b τ h
    have := VRel.sl 0 len len h (by unfold unk; have : len ≤ len * size := Nat.le_mul_of_pos_right _ (by omega); omega)
    simpa using this

theorem make_makeSlice {t : TypeId} {x y : Operand} (ho : o.op = .makeSlice t x y) {c d : Oc} (hcx : cO x = some c) (hcy : cO y = some d) {e : TypeId} {size bytes : Nat} {z : List Value} (ht : tSlice P t = some e)
    (hs : sizeT P e = some size) (hb : bytesT P e = some bytes) (hz : zeroT P e = some z) (h0 : size ≠ 0) {v : Value} {m1 : Mem} (hf : oMakeSlice e bytes z c d tm m = some (.val v m1)) : Makes P o tm m m1 v := by
  obtain ⟨lv, hlv, hf⟩ := b_some.1 hf
  obtain ⟨k, l, hl, hf⟩ := b2_some.1 hf
  obtain ⟨cv, hcv, hf⟩ := b_some.1 hf
  obtain ⟨k', q, hq, hf⟩ := b2_some.1 hf
  have := vInt_some hl; subst this
  have := vInt_some hq; subst this
  obtain ⟨hle, hf⟩ := bC_some.1 hf
  have hle : 0 ≤ l ∧ l ≤ q := by
    cases h1 : leI (.ofNat 0) l with
    | false => rw [h1] at hle; cases hle
    | true =>
      rw [h1] at hle
      exact ⟨(leI_eq _ _).1 h1, (leI_eq _ _).1 hle⟩
  rw [fN_eq, fN_eq] at hf
  obtain ⟨hmost, hf⟩ := bC_some.1 hf
  have hmost := (nble _ _).1 hmost
  obtain ⟨row, hrow, hf⟩ := b_some.1 hf
  obtain ⟨b, m', hn, hf⟩ := b2_some.1 hf
  injection hf with hf; injection hf with h1 h2; subst h1; subst h2
  rw [toN_eq] at hmost hrow
  obtain ⟨ln, rfl⟩ : ∃ n : Nat, l = n := ⟨l.toNat, by omega⟩
  obtain ⟨cn, rfl⟩ : ∃ n : Nat, q = n := ⟨q.toNat, by omega⟩
  have hrow := (repL_eq _ _ _).1 hrow
  obtain ⟨zv, zn, hzv, hzn, hzc, hzl⟩ := zeroT_some hz
  rw [hs] at hzn; injection hzn with hzn; subst hzn
  obtain ⟨ib, hib, hbb⟩ := bytesT_some hb
  simp only [Int.toNat_natCast] at hmost hrow hn
  rw [toN_eq, toN_eq, Int.toNat_natCast, Int.toNat_natCast]
  have hcn : cn ≤ mostLen := Nat.le_trans (Nat.le_mul_of_pos_right _ (by omega)) hmost
  have hln : ln ≤ cn := by omega
  have hml : mostLen = 1000000000 := rfl
  have hbc : bytes * cn ≤ 1000000000 := by
    have : bytes * cn ≤ cn * (bytes + 1) := by rw [Nat.mul_comm]; exact Nat.mul_le_mul_left _ (by omega)
    omega
  have hunk : cn ≠ unk := by unfold unk; omega
  obtain ⟨_, _, _, hflat⟩ := zeroV_some hzv
  have hcl : (cellsL zv) = zv.cells.toList := cellsL_eq zv
  rw [hzc, hcl] at hrow
  rw [hzc, hcl] at hzl
  subst hrow
  refine ⟨b, _, fun b => .slice (some ⟨b, 0, none⟩) ln cn, hn, rfl, fun base σ ρ w hyp => ?_⟩
  have hx := hyp.ev (x := x) (by simp [ho, Op.operands]) hcx _ hlv
  have hy := hyp.ev (x := y) (by simp [ho, Op.operands]) hcy _ hcv
  have hfl : LRel σ zv.cells.toList zv.cells.toList := by have := (hflat.rel (σ := σ)).cells; rw [hcl] at this; exact this
  have hrl := reps_len hzl
  have hO := objRow (P := P) (base := base) (hfl.reps cn) cn size (cellsOf_eq hs).symm (arr := ⟨reps zv.cells.toList cn⟩) (List.take_length ..) (by show cn * size ≤ (reps zv.cells.toList cn).length; rw [hrl]; exact Nat.le_refl _) (by rw [hrl]; exact Nat.le_refl _) (0, 0) (.inl rfl) w.heap.size
  refine makeAt_of (s := Instr.makeSlice t (ρ x) (ρ y)) (by rw [execOp, ho]) (v' := .slice (some ⟨w.heap.size, 0, none⟩) ln cn) (k := 0) rfl ?_ hO fun b τ h => by have := VRel.sl 0 ln cn h hunk; simpa using this
  rw [hx.int_inv, hy.int_inv]
  unfold Instr.makeSlice
  rw [Sem.run_bind, run_under (tSlice_some ht), Result.andThen_ok]
  simp only [asInt, asIntOf, Sem.run_bind, Sem.run_pure, Result.andThen_ok, run_info hib, hbb, wrap_i64 hcn, wrap_i64 (Nat.le_trans hln hcn)]
  have hlarge : (decide ((cn : Int) < 0) || decide ((bytes : Int) * (cn : Int) > 2 ^ 48) || decide ((ln : Int) < 0) || decide ((ln : Int) > (cn : Int))) = false := by
    have h1 : ((bytes * cn : Nat) : Int) ≤ 1000000000 := by omega
    rw [Int.natCast_mul] at h1
    simp; omega
  rw [hlarge, if_neg (by decide)]
  simp only [Sem.run_bind, run_askRoom, Result.andThen_ok, run_size hs, Int.toNat_natCast]
  by_cases hc0 : cn = 0
  · subst hc0
    rw [if_pos (Nat.zero_mul _), Nat.zero_mul]
    have hza : (Array.range 0).map (fun i => (#[] : Array Value)[i % (#[] : Array Value).size]!) = ⟨reps zv.cells.toList 0⟩ := by apply Array.ext'; simp [reps]
    rw [Sem.run_bind, Sem.run_pure, Result.andThen_ok, hza]
    rfl
  · have hzs : zv.cells.size = size := by simpa using hzl
    have hza := range_zero zv.cells (by omega) cn
    rw [hzs] at hza
    rw [if_neg (Nat.mul_ne_zero hc0 h0)]
    simp only [Sem.run_bind, run_zero hzv, Result.andThen_ok, Sem.run_pure, hzs, hza]
    rfl

theorem make_conv {src dst e : TypeId} {x : Operand} (ho : o.op = .convert src dst x) {c : Oc} (hcx : cO x = some c) (hd : tSlice P dst = some e) (hu8 : isU8 P e = true) {x0 v : Value} (hx0 : c.ev tm = some x0) {s : List UInt8} (hs : vStr x0 = some s) {m1 : Mem}
    (hc : convB P src dst e x0 m = some (v, m1)) : Makes P o tm m m1 v := by
  have hd := tSlice_some hd
  unfold convB at hc
  rw [hs] at hc
  have hc : (fN s.length fun n => bC (Nat.ble n mostLen) ((undA P src).b fun _ => (sizeT P e).b fun k => bC (Nat.beq k 1) ((cellsOfBytes s).b fun l => b2 (m.new (.cells true e l)) fun b m => some (Value.slice (some ⟨b, 0, none⟩) n unk, m)) none) none) = some (v, m1) := hc
  rw [fN_eq] at hc
  obtain ⟨hle, hc⟩ := bC_some.1 hc
  obtain ⟨u, hu, hc⟩ := b_some.1 hc
  replace hu := undA_some hu
  obtain ⟨k, hk, hc⟩ := b_some.1 hc
  obtain ⟨hk1, hc⟩ := bC_some.1 hc
  have hk1 := (nbeq _ _).1 hk1; subst hk1
  obtain ⟨l, hl, hc⟩ := b_some.1 hc
  obtain ⟨b, m2, hn, hc⟩ := b2_some.1 hc
  injection hc with hc
  injection hc with h1 h2
  subst h1; subst h2
  have hl := (cellsOfBytes_eq _ _).1 hl
  have hex : ∀ ρ : Operand → Value, execOp ρ o = (do pure (.value (← convert src dst (ρ x)))) := by intro ρ; unfold execOp; rw [ho]
  refine ⟨b, _, fun b => .slice (some ⟨b, 0, none⟩) s.length unk, hn, rfl, fun base σ ρ w hyp => ?_⟩
  have hx := hyp.ev (x := x) (by simp [ho, Op.operands]) hcx _ hx0
  rw [vStr_some hs] at hx
  obtain ⟨cap, hcap, hr⟩ := run_stringToBytes (P := P) e s w
  have hlen : l.length = s.length := by rw [hl]; simp
  have hsz : ((s.map fun b : UInt8 => Value.int .u8 (.ofNat b.toNat)) ++ List.replicate (cap - s.length) (Value.int .u8 0)).toArray.size = cap := by simp; omega
  have hO := objRow (P := P) (base := base) (LRel.flat (σ := σ) (l := l) (by rw [hl]; intro v hv; obtain ⟨b, _, rfl⟩ := List.mem_map.1 hv; exact .int _ _)) cap 1 (by rw [cellsOf_eq hk])
    (arr := ((s.map fun b : UInt8 => Value.int .u8 (.ofNat b.toNat)) ++ List.replicate (cap - s.length) (Value.int .u8 0)).toArray)
    (by rw [hlen, hl]; simp) (by omega) (by omega) (cap, cap + 1) (.inr ⟨by omega, hu8⟩) w.heap.size
  refine makeAt_of (hex ρ) (v' := .slice (some ⟨w.heap.size, 0, none⟩) s.length cap) (k := 1) rfl ?_ hO fun b τ h => ?_
  · rw [hx.string_inv]; unfold convert; rw [Sem.run_bind, run_under hu, Result.andThen_ok, Sem.run_bind, run_under hd, Result.andThen_ok]
    refine Eq.trans ?_ hr
    cases u <;> simp only [Sem.run_bind, u8_under hu8, Result.andThen_ok]
  · have := VRel.slU (σ := τ) 0 s.length 0 cap h (by simp) (by simp) (by simp) hcap
    simpa using this
end
end Go.Am
namespace Go.Am
set_option linter.unusedSectionVars false
variable [Env]
open Go.RowKit (Below)
set_option linter.unusedSimpArgs false
set_option linter.unusedVariables false

/-- It hangs on its operands alone. -/
def PureF (g : OpF) : Prop := ∀ tm m act, g tm m = some act → ∃ v, act = .val v m ∧ ∀ m2, g tm m2 = some (.val v m2)
/-- It leaves all as it is. -/
def ReadF (g : OpF) : Prop := ∀ tm m act, g tm m = some act → ∃ v, act = .val v m

theorem PureF.read {g : OpF} (h : PureF g) : ReadF g := fun tm m act e => let ⟨v, h1, _⟩ := h tm m act e; ⟨v, h1⟩

theorem pure_b {α : Type} {E : Tr Value → Option α} {F : α → OpF} (h : ∀ x, PureF (F x)) : PureF fun tm m => (E tm).b fun x => F x tm m := by
  intro tm m act e
  obtain ⟨x, hx, e⟩ := b_some.1 e
  obtain ⟨v, h1, h2⟩ := h x tm m act e
  exact ⟨v, h1, fun m2 => b_some.2 ⟨x, hx, h2 m2⟩⟩
theorem pure_b2 {α β : Type} {E : Tr Value → Option (α × β)} {F : α → β → OpF} (h : ∀ x y, PureF (F x y)) : PureF fun tm m => b2 (E tm) fun x y => F x y tm m := by
  intro tm m act e
  obtain ⟨x, y, hx, e⟩ := b2_some.1 e
  obtain ⟨v, h1, h2⟩ := h x y tm m act e
  exact ⟨v, h1, fun m2 => b2_some.2 ⟨x, y, hx, h2 m2⟩⟩
theorem pure_okV {E : Tr Value → Option Value} : PureF fun tm m => okV m (E tm) := by
  intro tm m act e
  obtain ⟨x, hx, e⟩ := okV_some e
  refine ⟨x, e, fun m2 => ?_⟩
  show okV m2 (E tm) = _
  rw [hx]; rfl
theorem pure_val {E : Tr Value → Value} : PureF fun tm m => some (.val (E tm) m) := by
  intro tm m act e
  injection e with e
  exact ⟨E tm, e.symm, fun m2 => rfl⟩
theorem pure_none : PureF fun _ _ => none := fun tm m act e => by cases e
theorem pure_bC {c : Tr Value → Bool} {A B : OpF} (hA : PureF A) (hB : PureF B) : PureF fun tm m => bC (c tm) (A tm m) (B tm m) := by
  intro tm m act e
  replace e : bC (c tm) (A tm m) (B tm m) = some act := e
  cases hc : c tm with
  | true =>
    rw [hc] at e
    obtain ⟨v, h1, h2⟩ := hA tm m act e
    exact ⟨v, h1, fun m2 => by show bC (c tm) _ _ = _; rw [hc]; exact h2 m2⟩
  | false =>
    rw [hc] at e
    obtain ⟨v, h1, h2⟩ := hB tm m act e
    exact ⟨v, h1, fun m2 => by show bC (c tm) _ _ = _; rw [hc]; exact h2 m2⟩

theorem pure_oC {α : Type} {E : Tr Value → Option α} {A : OpF} {F : α → OpF} (hA : PureF A) (h : ∀ x, PureF (F x)) : PureF fun tm m => oC (E tm) (A tm m) fun x => F x tm m := by
  intro tm m act e
  replace e : oC (E tm) (A tm m) (fun x => F x tm m) = some act := e
  cases hc : E tm with
  | none =>
    rw [hc] at e
    obtain ⟨v, h1, h2⟩ := hA tm m act e
    exact ⟨v, h1, fun m2 => by show oC (E tm) _ _ = _; rw [hc]; exact h2 m2⟩
  | some x =>
    rw [hc] at e
    obtain ⟨v, h1, h2⟩ := h x tm m act e
    exact ⟨v, h1, fun m2 => by show oC (E tm) _ _ = _; rw [hc]; exact h2 m2⟩
theorem read_oC {α : Type} {E : Tr Value → Option α} {A : OpF} {F : α → OpF} (hA : ReadF A) (h : ∀ x, ReadF (F x)) : ReadF fun tm m => oC (E tm) (A tm m) fun x => F x tm m := by
  intro tm m act e
  replace e : oC (E tm) (A tm m) (fun x => F x tm m) = some act := e
  cases hc : E tm with
  | none => rw [hc] at e; exact hA tm m act e
  | some x => rw [hc] at e; exact h x tm m act e
theorem pure_nm2 (v : Value) (i : Int) : PureF fun _ m => (nmV v).b (nm2 m i) := by
  intro tm m act e
  obtain ⟨⟨b, k⟩, hx, e⟩ := b_some.1 e
  obtain ⟨h1, e⟩ := bC_some.1 (show bC (eqI i (.ofNat 0)) ((rowNo k).b fun j => (firstK j).b fun c => some (Act.val (.complex .f64 b c) m)) none = some act from e)
  obtain ⟨j, h2, e⟩ := b_some.1 e
  obtain ⟨c, h3, e⟩ := b_some.1 e
  injection e with e
  refine ⟨_, e.symm, fun m2 => ?_⟩
  rw [hx]
  show bC (eqI i (.ofNat 0)) ((rowNo k).b fun j => (firstK j).b fun c => some (Act.val (.complex .f64 b c) m2)) none = _
  rw [h1, h2]
  show ((firstK j).b fun c => some (Act.val (.complex .f64 b c) m2)) = _
  rw [h3]
theorem read_nm5 (v : Value) : ReadF fun _ m => (nmV v).b (nm5 m) := by
  intro tm m act e
  obtain ⟨⟨b, k⟩, hx, e⟩ := b_some.1 e
  replace e : bC (Nat.beq k 5) (some (Act.val (.int .u8 (.ofNat 69)) m)) (bC (Nat.beq k 6) (some (Act.val (.int .u8 (.ofNat 96)) m)) none) = some act := e
  cases h5 : Nat.beq k 5 with
  | true => rw [h5] at e; injection e with e; exact ⟨_, e.symm⟩
  | false =>
    rw [h5] at e
    obtain ⟨_, e⟩ := bC_some.1 (show bC (Nat.beq k 6) (some (Act.val (.int .u8 (.ofNat 96)) m)) none = some act from e)
    injection e with e; exact ⟨_, e.symm⟩
theorem read_b {α : Type} {E : Tr Value → Mem → Option α} {F : α → OpF} (h : ∀ x, ReadF (F x)) : ReadF fun tm m => (E tm m).b fun x => F x tm m := by
  intro tm m act e
  obtain ⟨x, hx, e⟩ := b_some.1 e
  exact h x tm m act e
theorem read_b2 {α β : Type} {E : Tr Value → Mem → Option (α × β)} {F : α → β → OpF} (h : ∀ x y, ReadF (F x y)) : ReadF fun tm m => b2 (E tm m) fun x y => F x y tm m := by
  intro tm m act e
  obtain ⟨x, y, hx, e⟩ := b2_some.1 e
  exact h x y tm m act e
theorem read_okV {E : Tr Value → Mem → Option Value} : ReadF fun tm m => okV m (E tm m) := by
  intro tm m act e
  obtain ⟨x, hx, e⟩ := okV_some e
  exact ⟨x, e⟩
theorem read_val {E : Tr Value → Mem → Value} : ReadF fun tm m => some (.val (E tm m) m) := by
  intro tm m act e
  injection e with e; exact ⟨_, e.symm⟩

theorem pure_oMove (x : Oc) : PureF (oMove x) := pure_okV
theorem pure_oPick (a b c : Oc) : PureF (oPick a b c) := pure_b fun _ => pure_b fun _ => pure_okV
theorem pure_oBuild (pl : Nat → Option (Nat × Nat)) (z : List Value) (ps : List (Nat × Oc)) : PureF (oBuild pl z ps) := pure_b fun _ => pure_b fun l => pure_val (E := fun _ => .agg ⟨l⟩)
theorem pure_oNilCheck (x : Oc) : PureF (oNilCheck x) := pure_b fun v => pure_bC (c := fun _ => okNil v) (pure_val (E := fun _ => v)) pure_none
theorem pure_oUn (f : Value → Option Value) (x : Oc) : PureF (oUn f x) := pure_b fun v => pure_okV (E := fun _ => f v)
theorem pure_oIface (t : TypeId) (x : Oc) : PureF (oIface t x) := pure_b fun v => pure_val (E := fun _ => .iface t v)
theorem pure_oFunc (fn : Fn) (a b : List Oc) : PureF (oFunc fn a b) := pure_b fun f => pure_b fun c => pure_val (E := fun _ => .func fn ⟨f⟩ ⟨c⟩)
theorem pure_oFieldAddr (off : Nat) (x : Oc) : PureF (oFieldAddr off x) := pure_b fun _ => pure_b2 (E := fun _ => _) fun b o => pure_okV (E := fun _ => ptrTo b o off)
theorem pure_oField (P : Program) (off : Nat) (t : TypeId) (x : Oc) : PureF (oField P off t x) := pure_b fun v => pure_b (E := fun _ => vAgg v) fun l => pure_okV (E := fun _ => partV P t l off)
theorem pure_oExtract (t : Oc) (i : Nat) : PureF (oExtract t i) := pure_b fun v => pure_b (E := fun _ => vTup v) fun l => pure_okV (E := fun _ => nthV l i)
theorem pure_oToArray (n : Nat) (x : Oc) : PureF (oToArray n x) := pure_b fun v => pure_b (E := fun _ => vSlice v) fun s => by
  cases s with
  | mk a len c => exact pure_bC (c := fun _ => Nat.ble n len) (pure_val (E := fun _ => .pointer a)) pure_none
theorem pure_oIndexArr (n size : Nat) (x i : Oc) : PureF (oIndexArr n size x i) :=
  pure_b fun v => pure_b fun i => pure_b2 (E := fun _ => vInt i) fun _ i => pure_b2 (E := fun _ => vAt v) fun b o => pure_b (E := fun _ => inRange i n) fun j => pure_okV (E := fun _ => ptrTo b o (Nat.mul j size))
theorem pure_oIndexSl (size : Nat) (x i : Oc) : PureF (oIndexSl size x i) :=
  pure_b fun v => pure_b fun i => pure_b2 (E := fun _ => vInt i) fun _ i => pure_oC (E := fun _ => vSlice v) (pure_nm2 v i) fun s => by
    cases s with
    | mk a len c => exact pure_b (E := fun _ => inRange i len) fun j => pure_b (E := fun _ => a) fun a => by
                      cases a with
                      | mk b o s => exact pure_okV (E := fun _ => ptrTo b o (Nat.mul j size))
theorem pure_oIndexStr (x i : Oc) : PureF (oIndexStr x i) :=
  pure_b fun v => pure_b fun i => pure_b2 (E := fun _ => vInt i) fun _ i => pure_b (E := fun _ => vStr v) fun s => pure_b (E := fun _ => inRange i s.length) fun j => pure_b (E := fun _ => nthU s j) fun c => pure_okV (E := fun _ => vI .u8 (.ofNat c.toNat))
theorem pure_oIndex (P : Program) (n : Nat) (e : TypeId) (size : Nat) (x i : Oc) : PureF (oIndex P n e size x i) :=
  pure_b fun v => pure_b fun i => pure_b2 (E := fun _ => vInt i) fun _ i => pure_b (E := fun _ => vAgg v) fun l => pure_b (E := fun _ => inRange i n) fun j => pure_okV (E := fun _ => partV P e l (Nat.mul j size))
theorem pure_oMin (as : List Oc) : PureF (oMin as) := pure_b fun as => pure_b2 (E := fun _ => uncons as) fun x r => pure_b2 (E := fun _ => vInt x) fun k a => pure_okV (E := fun _ => minL k r a)
theorem pure_oMax (as : List Oc) : PureF (oMax as) := pure_b fun as => pure_b2 (E := fun _ => uncons as) fun x r => pure_b2 (E := fun _ => vInt x) fun k a => pure_okV (E := fun _ => maxL k r a)

theorem read_oLoadAgg (n : Nat) (a : Oc) : ReadF (oLoadAgg n a) := read_b fun v => read_b2 (E := fun _ _ => vAt v) fun b o => read_b (E := fun _ m => m.loadCells b o n) fun l => read_val (E := fun _ _ => .agg ⟨l⟩)
theorem read_oLoad1 (a : Oc) : ReadF (oLoad1 a) := read_b fun v => read_oC (E := fun _ => vAt v) (read_nm5 v) fun a => by
    obtain ⟨b, o⟩ := a
    exact read_okV (E := fun _ m => (m.loadCells b o 1).b oneL)
theorem read_oBin (P : Program) (op : BinOp) (t : TypeId) (x y : Oc) : ReadF (oBin P op t x y) := read_b fun a => read_b fun b => read_okV (E := fun _ m => binA P op t a b m)
theorem read_oSlice (P : Program) (t : TypeId) (x : Oc) (lo hi mx : Option Oc) : ReadF (oSlice P t x lo hi mx) :=
  read_b fun v => read_b fun lo => read_b fun hi => read_b fun mx => read_okV (E := fun _ m => sliceOp P t v lo hi mx m)
theorem read_oLookup (P : Program) (t : TypeId) (x i : Oc) (ok : Bool) : ReadF (oLookup P t x i ok) := read_b fun v => read_b fun k => read_okV (E := fun _ m => lookupA P t v k ok m)
theorem read_oEntry (it : Oc) : ReadF (oEntry it) := read_b fun v => read_okV (E := fun _ m => entryA v m)
theorem read_oLen (P : Program) (ts : List TypeId) (x : Oc) : ReadF (oLen P ts x) := read_b fun x => read_okV (E := fun _ m => lenB P ts x m)

section
variable {P : Program} {m : Mem} {o : Oper} {tm : Tr Value}

theorem convS_same {src : TypeId} {x v : Value} {m' : Mem} (h : convS P src x m = some (v, m')) : m' = m := by
  unfold convS at h
  cases hs : vStr x with
  | some s =>
    rw [hs] at h
    obtain ⟨u, hu, h⟩ := b_some.1 (show ((undA P src).b fun _ => some (Value.string ⟨⟨s⟩⟩, m)) = some (v, m') from h)
    injection h with h; injection h with h1 h2; exact h2.symm
  | none =>
    rw [hs] at h
    obtain ⟨e, he, h⟩ := b_some.1 (show ((tSlice P src).b fun e => (vSlice x).b fun s => slC s fun a len _ => bC (isU8 P e)
      (oC a (some (Value.string ⟨⟨[]⟩⟩, m)) fun a => Prod.rec (motive := fun _ => Option (Value × Mem)) (fun b o => (m.loadCells b o len).b fun l => (bytesOfCells l).b fun bs => some (.string ⟨⟨bs⟩⟩, m)) (aT a)) none) = some (v, m') from h)
    obtain ⟨⟨a, len, c⟩, hsl, h⟩ := b_some.1 h
    obtain ⟨_, h⟩ := bC_some.1 h
    cases a with
    | none => injection (show some (Value.string ⟨⟨[]⟩⟩, m) = some (v, m') from h) with h; injection h with h1 h2; exact h2.symm
    | some a =>
      obtain ⟨b, o, s⟩ := a
      obtain ⟨l, hl, h⟩ := b_some.1 (show ((m.loadCells b o len).b fun l => (bytesOfCells l).b fun bs => some (Value.string ⟨⟨bs⟩⟩, m)) = some (v, m') from h)
      obtain ⟨bs, hbs, h⟩ := b_some.1 h
      injection h with h; injection h with h1 h2; exact h2.symm

/-- A conversion to whole numbers. -/
theorem pure_conv {s d : TypeId} {x : Oc} {k : IntKind} (hi : tInt P d = some k) : PureF (oConv P s d x) := by
  have : oConv P s d x = fun tm m => (x.ev tm).b fun v => (undA P s).b fun _ => b2 (vInt v) fun _ a => (vI k (wrapA k a)).b fun v => some (Act.val v m) := by
    funext tm m
    unfold oConv
    cases x.ev tm with
    | none => rfl
    | some v =>
      show okVM (convA P s d v m) = _
      unfold convA
      rw [hi]
      show okVM ((undA P s).b fun _ => b2 (vInt v) fun _ a => (vI k (wrapA k a)).b fun v => some (v, m)) = _
      show _ = ((undA P s).b fun _ => b2 (vInt v) fun _ a => (vI k (wrapA k a)).b fun v => some (Act.val v m))
      cases undA P s with
      | none => rfl
      | some u =>
        show okVM (b2 (vInt v) fun _ a => (vI k (wrapA k a)).b fun v => some (v, m)) = (b2 (vInt v) fun _ a => (vI k (wrapA k a)).b fun v => some (Act.val v m))
        cases vInt v with
        | none => rfl
        | some p =>
          obtain ⟨j, a⟩ := p
          show okVM ((vI k (wrapA k a)).b fun v => some (v, m)) = ((vI k (wrapA k a)).b fun v => some (Act.val v m))
          cases vI k (wrapA k a) <;> rfl
  rw [this]
  exact pure_b fun v => pure_b (E := fun _ => undA P s) fun _ => pure_b2 (E := fun _ => vInt v) fun _ a => pure_b (E := fun _ => vI k (wrapA k a)) fun v => pure_val (E := fun _ => v)

theorem read_conv {s d : TypeId} {x : Oc} (hs : isStr P d = true) : ReadF (oConv P s d x) := by
  intro tm m act h
  obtain ⟨x0, hx0, h⟩ := b_some.1 h
  obtain ⟨v1, m1, hc, h1⟩ := okVM_some h
  subst h1
  unfold convA at hc
  cases hi : tInt P d with
  | some k =>
    have := isStr_true hs
    have h2 := tInt_some hi
    rw [this] at h2; cases h2
  | none =>
    rw [hi] at hc
    have hc : (bC (isStr P d) (convS P s x0 m) ((tSlice P d).b fun e => bC (isU8 P e) (convB P s d e x0 m) none)) = some (v1, m1) := hc
    rw [hs] at hc
    exact ⟨v1, by rw [convS_same hc]⟩

theorem make_convert {s d : TypeId} {x : Operand} (ho : o.op = .convert s d x) {c : Oc} (hc : cO x = some c) (hi : tInt P d = none) (h1 : isStr P d = false) (h2 : isStr P s = true) {v : Value} {m' : Mem}
    (h : oConv P s d c tm m = some (.val v m')) : Makes P o tm m m' v := by
  obtain ⟨x0, hx0, h⟩ := b_some.1 h
  obtain ⟨v1, m1, hcv, h3⟩ := okVM_some h
  injection h3 with h3 h4; subst h3; subst h4
  unfold convA at hcv
  rw [hi] at hcv
  have hcv : (bC (isStr P d) (convS P s x0 m) ((tSlice P d).b fun e => bC (isU8 P e) (convB P s d e x0 m) none)) = some (v, m') := hcv
  rw [h1] at hcv
  obtain ⟨e, he, hcv⟩ := b_some.1 (show ((tSlice P d).b fun e => bC (isU8 P e) (convB P s d e x0 m) none) = some (v, m') from hcv)
  obtain ⟨hu8, hcv⟩ := bC_some.1 hcv
  cases hs : vStr x0 with
  | some l => exact make_conv ho hc he hu8 hx0 hs hcv
  | none =>
    unfold convB at hcv
    rw [hs] at hcv
    obtain ⟨e1, he1, hcv⟩ := b_some.1 (show ((tSlice P s).b fun _ => (vSlice x0).b fun s0 => slC s0 fun a _ c => bC (Nat.beq c unk) none (a.b fun a => p2 (aT a) fun b _ => (m.row b).b fun r => rowC r fun rw e2 vs =>
      bC rw (bC (Nat.beq s d) (bC (isU8 P e2) ((m.put b (some (.cells true e2 vs))).b fun m => some (x0, m)) none) none) none)) = some (v, m') from hcv)
    have := isStr_true h2
    have h3 := tSlice_some he1
    rw [this] at h3; cases h3

/-- What an operation's class says. -/
theorem cls_op {g : OpF} (hg : opC P o.op = some g) :
    (cls P o.op = 0 → PureF g) ∧ (cls P o.op = 1 → ReadF g) ∧ (cls P o.op = 2 → ∀ tm m v m', g tm m = some (.val v m') → Makes P o tm m m' v) := by
  unfold opC at hg
  cases hop : o.op with
  | move x =>
    rw [hop] at hg
    obtain ⟨c, hx, hg⟩ := b_some.1 hg; injection hg with hg; subst hg
    exact ⟨fun _ => pure_oMove c, (by intro h; simp [cls] at h), (by intro h; simp [cls] at h)⟩
  | assign x =>
    rw [hop] at hg
    obtain ⟨c, hx, hg⟩ := b_some.1 hg; injection hg with hg; subst hg
    exact ⟨fun _ => pure_oMove c, (by intro h; simp [cls] at h), (by intro h; simp [cls] at h)⟩
  | pick x y z =>
    rw [hop] at hg
    obtain ⟨c, hx, hg⟩ := b_some.1 hg
    obtain ⟨d, hy, hg⟩ := b_some.1 hg
    obtain ⟨e, hz, hg⟩ := b_some.1 hg; injection hg with hg; subst hg
    exact ⟨fun _ => pure_oPick c d e, (by intro h; simp [cls] at h), (by intro h; simp [cls] at h)⟩
  | alloc e =>
    rw [hop] at hg
    obtain ⟨z, hz, hg⟩ := b_some.1 hg; injection hg with hg; subst hg
    exact ⟨(by intro h; simp [cls] at h), (by intro h; simp [cls] at h), fun _ tm m v m' h => make_alloc hop hz h⟩
  | box e x =>
    rw [hop] at hg
    obtain ⟨c, hx, hg⟩ := b_some.1 hg
    obtain ⟨n, hn, hg⟩ := b_some.1 hg; injection hg with hg; subst hg
    exact ⟨(by intro h; simp [cls] at h), (by intro h; simp [cls] at h), fun _ tm m v m' h => make_box hop hx hn h⟩
  | build t ps =>
    rw [hop] at hg
    obtain ⟨cs, hcs, hg⟩ := b_some.1 hg
    obtain ⟨z, hz, hg⟩ := b_some.1 hg
    obtain ⟨u, hu, hg⟩ := b_some.1 hg
    replace hu := undA_some hu
    obtain ⟨pl, hpl, hg⟩ := b_some.1 hg; injection hg with hg; subst hg
    exact ⟨fun _ => pure_oBuild pl z cs, (by intro h; simp [cls] at h), (by intro h; simp [cls] at h)⟩
  | buildSlice t len ps =>
    rw [hop] at hg
    obtain ⟨cs, hcs, hg⟩ := b_some.1 hg
    obtain ⟨e, he, hg⟩ := b_some.1 hg
    obtain ⟨size, hs, hg⟩ := b_some.1 hg
    obtain ⟨z, hz, hg⟩ := b_some.1 hg
    obtain ⟨h1, hg⟩ := bC_some.1 hg
    obtain ⟨h2, hg⟩ := bC_none.1 hg
    obtain ⟨z2, hz2, hg⟩ := b_some.1 hg; injection hg with hg; subst hg
    exact ⟨(by intro h; simp [cls] at h), (by intro h; simp [cls] at h), fun _ tm m v m' h => make_buildSlice hop hcs he hs hz ((nble _ _).1 h1) ((nbeqf _ _).1 h2) hz2 h⟩
  | load t a =>
    rw [hop] at hg
    obtain ⟨c, hx, hg⟩ := b_some.1 hg
    obtain ⟨g', hg', hg⟩ := b_some.1 hg
    obtain ⟨n, hn, hg⟩ := b_some.1 hg
    refine ⟨(by intro h; simp [cls] at h), fun _ => ?_, (by intro h; simp [cls] at h)⟩
    cases g' with
    | true => injection hg with hg; subst hg; exact read_oLoadAgg n c
    | false => injection hg with hg; subst hg; exact read_oLoad1 c
  | nilCheck x =>
    rw [hop] at hg
    obtain ⟨c, hx, hg⟩ := b_some.1 hg; injection hg with hg; subst hg
    exact ⟨fun _ => pure_oNilCheck c, (by intro h; simp [cls] at h), (by intro h; simp [cls] at h)⟩
  | binOp op t x y ty =>
    rw [hop] at hg
    obtain ⟨c, hx, hg⟩ := b_some.1 hg
    obtain ⟨d, hy, hg⟩ := b_some.1 hg; injection hg with hg; subst hg
    exact ⟨(by intro h; simp [cls] at h), fun _ => read_oBin P op t c d, (by intro h; simp [cls] at h)⟩
  | unOp op t x =>
    rw [hop] at hg
    obtain ⟨c, hx, hg⟩ := b_some.1 hg; injection hg with hg; subst hg
    exact ⟨fun _ => pure_oUn _ c, (by intro h; simp [cls] at h), (by intro h; simp [cls] at h)⟩
  | convert s d x =>
    rw [hop] at hg
    obtain ⟨c, hx, hg⟩ := b_some.1 hg; injection hg with hg; subst hg
    cases hi : tInt P d with
    | some k => exact ⟨fun _ => pure_conv hi, (by intro h; simp [cls, clsConv, hi, oC] at h), (by intro h; simp [cls, clsConv, hi, oC] at h)⟩
    | none =>
      cases h1 : isStr P d with
      | true => exact ⟨(by intro h; simp [cls, clsConv, hi, oC, h1, bC] at h), fun _ => read_conv h1, (by intro h; simp [cls, clsConv, hi, oC, h1, bC] at h)⟩
      | false =>
        cases h2 : isStr P s with
        | true => exact ⟨(by intro h; simp [cls, clsConv, hi, oC, h1, h2, bC] at h), (by intro h; simp [cls, clsConv, hi, oC, h1, h2, bC] at h), fun _ tm m v m' h => make_convert hop hx hi h1 h2 h⟩
        | false => exact ⟨(by intro h; simp [cls, clsConv, hi, oC, h1, h2, bC] at h), (by intro h; simp [cls, clsConv, hi, oC, h1, h2, bC] at h), (by intro h; simp [cls, clsConv, hi, oC, h1, h2, bC] at h)⟩
  | sliceToArrayPointer t x =>
    rw [hop] at hg
    obtain ⟨c, hx, hg⟩ := b_some.1 hg
    obtain ⟨n, e, ht, hg⟩ := b2_some.1 hg
    obtain ⟨h1, hg⟩ := bC_none.1 hg; injection hg with hg; subst hg
    exact ⟨fun _ => pure_oToArray n c, (by intro h; simp [cls] at h), (by intro h; simp [cls] at h)⟩
  | makeInterface t x =>
    rw [hop] at hg
    obtain ⟨c, hx, hg⟩ := b_some.1 hg
    obtain ⟨u, hu, hg⟩ := b_some.1 hg
    replace hu := undA_some hu
    obtain ⟨h1, hg⟩ := bC_none.1 hg; injection hg with hg; subst hg
    exact ⟨fun _ => pure_oIface t c, (by intro h; simp [cls] at h), (by intro h; simp [cls] at h)⟩
  | makeFunc fn a b =>
    rw [hop] at hg
    cases fn with
    | func f =>
      obtain ⟨c, hx, hg⟩ := b_some.1 hg
      obtain ⟨d, hy, hg⟩ := b_some.1 hg; injection hg with hg; subst hg
      exact ⟨fun _ => pure_oFunc _ c d, (by intro h; simp [cls] at h), (by intro h; simp [cls] at h)⟩
    | _ => cases hg
  | makeMap t r =>
    rw [hop] at hg
    cases r with
    | none => injection hg with hg; subst hg; exact ⟨(by intro h; simp [cls] at h), (by intro h; simp [cls] at h), fun _ tm m v m' h => make_makeMap hop h⟩
    | some r => cases hg
  | makeSlice t l c =>
    rw [hop] at hg
    obtain ⟨cl, hx, hg⟩ := b_some.1 hg
    obtain ⟨cc, hy, hg⟩ := b_some.1 hg
    obtain ⟨e, he, hg⟩ := b_some.1 hg
    obtain ⟨size, hs, hg⟩ := b_some.1 hg
    obtain ⟨bytes, hb, hg⟩ := b_some.1 hg
    obtain ⟨z, hz, hg⟩ := b_some.1 hg
    obtain ⟨h1, hg⟩ := bC_none.1 hg; injection hg with hg; subst hg
    exact ⟨(by intro h; simp [cls] at h), (by intro h; simp [cls] at h), fun _ tm m v m' h => make_makeSlice hop hx hy he hs hb hz ((nbeqf _ _).1 h1) h⟩
  | slice t x lo hi mx =>
    rw [hop] at hg
    obtain ⟨c, hx, hg⟩ := b_some.1 hg
    obtain ⟨clo, h1, hg⟩ := b_some.1 hg
    obtain ⟨chi, h2, hg⟩ := b_some.1 hg
    obtain ⟨cmx, h3, hg⟩ := b_some.1 hg
    obtain ⟨hok, hg⟩ := bC_some.1 hg; injection hg with hg; subst hg
    exact ⟨(by intro h; simp [cls] at h), fun _ => read_oSlice P t c clo chi cmx, (by intro h; simp [cls] at h)⟩
  | fieldAddr s x f =>
    rw [hop] at hg
    obtain ⟨c, hx, hg⟩ := b_some.1 hg
    obtain ⟨⟨off, ty, size⟩, hy, hg⟩ := b_some.1 hg
    obtain ⟨h1, hg⟩ := bC_none.1 (show bC (Nat.beq size 0) none (some (oFieldAddr off c)) = some g from hg); injection hg with hg; subst hg
    exact ⟨fun _ => pure_oFieldAddr off c, (by intro h; simp [cls] at h), (by intro h; simp [cls] at h)⟩
  | field s x f =>
    rw [hop] at hg
    obtain ⟨c, hx, hg⟩ := b_some.1 hg
    obtain ⟨⟨off, ty, size⟩, hy, hg⟩ := b_some.1 hg
    injection (show some (oField P off ty c) = some g from hg) with hg; subst hg
    exact ⟨fun _ => pure_oField P off ty c, (by intro h; simp [cls] at h), (by intro h; simp [cls] at h)⟩
  | indexAddr t x i =>
    rw [hop] at hg
    obtain ⟨c, hx, hg⟩ := b_some.1 hg
    obtain ⟨d, hi, hg⟩ := b_some.1 hg
    refine ⟨fun _ => ?_, (by intro h; simp [cls] at h), (by intro h; simp [cls] at h)⟩
    cases hs : tSlice P t with
    | none =>
      rw [hs] at hg
      obtain ⟨n, e, ht, hg⟩ := b2_some.1 (show (b2 (tArray P t) fun n e => (sizeT P e).b fun size => some (oIndexArr n size c d)) = some g from hg)
      obtain ⟨size, hs, hg⟩ := b_some.1 hg; injection hg with hg; subst hg
      exact pure_oIndexArr n size c d
    | some e =>
      rw [hs] at hg
      obtain ⟨size, hsz, hg⟩ := b_some.1 hg; injection hg with hg; subst hg
      exact pure_oIndexSl size c d
  | index t x i =>
    rw [hop] at hg
    obtain ⟨c, hx, hg⟩ := b_some.1 hg
    obtain ⟨d, hi, hg⟩ := b_some.1 hg
    refine ⟨fun _ => ?_, (by intro h; simp [cls] at h), (by intro h; simp [cls] at h)⟩
    cases hs : isStr P t with
    | true => rw [hs] at hg; injection hg with hg; subst hg; exact pure_oIndexStr c d
    | false =>
      rw [hs] at hg
      obtain ⟨n, e, ht, hg⟩ := b2_some.1 (show (b2 (tArray P t) fun n e => (sizeT P e).b fun size => some (oIndex P n e size c d)) = some g from hg)
      obtain ⟨size, hsz, hg⟩ := b_some.1 hg; injection hg with hg; subst hg
      exact pure_oIndex P n e size c d
  | lookup t x i ok =>
    rw [hop] at hg
    obtain ⟨c, hx, hg⟩ := b_some.1 hg
    obtain ⟨d, hi, hg⟩ := b_some.1 hg; injection hg with hg; subst hg
    exact ⟨(by intro h; simp [cls] at h), fun _ => read_oLookup P t c d ok, (by intro h; simp [cls] at h)⟩
  | entry it =>
    rw [hop] at hg
    obtain ⟨c, hx, hg⟩ := b_some.1 hg; injection hg with hg; subst hg
    exact ⟨(by intro h; simp [cls] at h), fun _ => read_oEntry c, (by intro h; simp [cls] at h)⟩
  | extract t i =>
    rw [hop] at hg
    obtain ⟨c, hx, hg⟩ := b_some.1 hg; injection hg with hg; subst hg
    exact ⟨fun _ => pure_oExtract c i, (by intro h; simp [cls] at h), (by intro h; simp [cls] at h)⟩
  | call cl =>
    rw [hop] at hg
    unfold opCall at hg
    obtain ⟨cs, hcs, hg⟩ := b_some.1 hg
    cases hce : cl.callee with
    | value f => exact ⟨(by intro h; simp [cls, clsCall, hce] at h), (by intro h; simp [cls, clsCall, hce] at h), (by intro h; simp [cls, clsCall, hce] at h)⟩
    | invoke r n => exact ⟨(by intro h; simp [cls, clsCall, hce] at h), (by intro h; simp [cls, clsCall, hce] at h), (by intro h; simp [cls, clsCall, hce] at h)⟩
    | builtin b =>
      rw [hce] at hg
      replace hg : opB P b cl.argTypes.toList cs = some g := hg
      unfold opB at hg
      cases b with
      | len =>
        obtain ⟨a, h2, hg⟩ := b_some.1 hg; injection hg with hg; subst hg
        exact ⟨(by intro h; simp [cls, clsCall, hce, clsB] at h), fun _ => read_oLen P _ a, (by intro h; simp [cls, clsCall, hce, clsB] at h)⟩
      | min => injection hg with hg; subst hg; exact ⟨fun _ => pure_oMin cs, (by intro h; simp [cls, clsCall, hce, clsB] at h), (by intro h; simp [cls, clsCall, hce, clsB] at h)⟩
      | max => injection hg with hg; subst hg; exact ⟨fun _ => pure_oMax cs, (by intro h; simp [cls, clsCall, hce, clsB] at h), (by intro h; simp [cls, clsCall, hce, clsB] at h)⟩
      | _ => exact ⟨(by intro h; simp [cls, clsCall, hce, clsB] at h), (by intro h; simp [cls, clsCall, hce, clsB] at h), (by intro h; simp [cls, clsCall, hce, clsB] at h)⟩
  | _ => exact ⟨(by intro h; simp [cls] at h), (by intro h; simp [cls] at h), (by intro h; simp [cls] at h)⟩
end
end Go.Am
