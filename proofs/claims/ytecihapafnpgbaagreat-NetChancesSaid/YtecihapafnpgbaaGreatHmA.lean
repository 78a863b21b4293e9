/- HostMay: whole structs out of and into memory, one step of a walk each. · HostMay: tests of one address. · HostMay: rows of bytes, compared. · HostMay: addr.IsGroup. -/
import Derived.Test.YtecihapafnpgbaaGreatProg
import Derived.ProofKit
import Derived.Tactics2
import Derived.WalkKit
import Derived.LoopTactic
import Derived.Deep.WholeRow
import Derived.Laws.Cells
import Derived.ArgAppend
import Derived.Test.YtecihapafnpgbaaGreatAmB
set_option linter.unusedSimpArgs false
set_option linter.unusedVariables false
set_option linter.constructorNameAsVariable false
set_option linter.unusedSectionVars false
namespace Go.Hm
open Go Go.Proofs Go.RowKit
variable {P : Program} {ops : Array Oper} {rest : List Oper} {o : Oper} {a : Act} {Q : Exit → Act → World → Prop} {w : World}
theorem wpList_load_agg (hg : o.guard = none) (t : TypeId) (x : Operand) (hop : o.op = Op.load t x) (p : Addr) (hx : a.eval x = .pointer (some p)) (c : Array Value)
    (hrun : (loadVar t p).run P w = .ok (.agg c) w) (h : wpList P ops Q rest (a.put o.dst (.agg c)) w) : wpList P ops Q (o :: rest) a w := by
  refine wpList_plain hg fun K hK => ?_
  unfold Oper.wp
  have h1 : (execOp a.eval o).run P w = .ok (.value (.agg c)) w := by
    simp [execOp, hop, hx, Instr.loadAt, Instr.sureAddr, Result.andThen, hrun]
  rw [h1]
  exact hK _ _ h
theorem wpList_store_agg (hg : o.guard = none) (t : TypeId) (x y : Operand) (hop : o.op = Op.store t x y) (p : Addr) (hx : a.eval x = .pointer (some p)) (v : Value) (hy : a.eval y = v) (w' : World)
    (hrun : (storeVar t p v).run P w = .ok () w') (h : wpList P ops Q rest (a.put o.dst undef) w') : wpList P ops Q (o :: rest) a w := by
  refine wpList_plain hg fun K hK => ?_
  unfold Oper.wp
  have h1 : (execOp a.eval o).run P w = .ok .skip w' := by
    simp [execOp, hop, hx, hy, Instr.storeAt, Instr.sureAddr, Result.andThen, hrun]
  rw [h1]
  exact hK _ _ h
theorem wpList_on (hw : Region.wanted o (yielded ops a.tmps) = true) (h : ∀ K : Act → World → Prop, (∀ a w, wpList P ops Q rest a w → K a w) → o.wp P a w K Q) : wpList P ops Q (o :: rest) a w :=
  wpList_step fun K hK => by simp only [hw, if_true]; exact h K hK
theorem wpList_load_aggG (hw : Region.wanted o (yielded ops a.tmps) = true) (t : TypeId) (x : Operand) (hop : o.op = Op.load t x) (p : Addr) (hx : a.eval x = .pointer (some p)) (c : Array Value)
    (hrun : (loadVar t p).run P w = .ok (.agg c) w) (h : wpList P ops Q rest (a.put o.dst (.agg c)) w) : wpList P ops Q (o :: rest) a w := by
  refine wpList_on hw fun K hK => ?_
  unfold Oper.wp
  have h1 : (execOp a.eval o).run P w = .ok (.value (.agg c)) w := by
    simp [execOp, hop, hx, Instr.loadAt, Instr.sureAddr, Result.andThen, hrun]
  rw [h1]
  exact hK _ _ h
/-- The cells of a struct or an array, wherever it lies. -/
theorem run_loadVar_agg {t : TypeId} {n : Nat} (ha : ∀ w, (isAgg t).run P w = .ok true w) (hs : ∀ w, (Go.sizeOf t).run P w = .ok n w) (p : Addr) (c : Array Value) (hc : c.size = n)
    (h : ∀ j v, c[j]? = some v → w.cell? (p.add j) = some v) : (loadVar t p).run P w = .ok (.agg c) w := by
  have h1 := run_loadCells_list (P := P) w p c.toList (fun j v hj => h j v (by simpa using hj))
  have h2 : c.toList.length = n := by simpa using hc
  rw [h2] at h1
  unfold loadVar
  simp [Sem.run_bind, ha, hs, h1, Result.andThen]
end Go.Hm
namespace Go.Hm
open Go Go.Proofs Go.RowKit
/-- An address, as a value: of sixteen bytes?; its bytes. -/
def cellsA (six : Bool) (bs : List Nat) : Array Value := (.bool six :: bs.map (fun b : Nat => Value.int .u8 (Int.ofNat b))).toArray
theorem cellsA_zero (six : Bool) (bs : List Nat) : (cellsA six bs)[0]? = some (.bool six) := rfl
theorem cellsA_succ (six : Bool) (bs : List Nat) (i : Nat) (h : i < bs.length) : (cellsA six bs)[1 + i]? = some (.int .u8 (bs.getD i 0 : Nat)) := by
  have : (cellsA six bs)[1 + i]? = (bs.map (fun b : Nat => Value.int .u8 (Int.ofNat b)))[i]? := by rw [Nat.add_comm]; simp [cellsA]
  rw [this, List.getElem?_map, List.getElem?_eq_getElem h]
  simp [List.getD, List.getElem?_eq_getElem h]
theorem cellsA_size (six : Bool) (bs : List Nat) (hl : bs.length = 16) : (cellsA six bs).size = 17 := by simp [cellsA, hl]
/-- What lies in the block made last. -/
theorem cell_last (w : World) (c : Array Value) (t : TypeId) (j : Nat) : (w.alloc (.cells c t)).cell? ⟨w.heap.size, j, none⟩ = c[j]? := by
  unfold World.cell?
  rw [heap_alloc_last]
  simp
theorem load29_last (w : World) (six : Bool) (bs : List Nat) (hl : bs.length = 16) :
    (loadVar 32 ⟨w.heap.size, 0, none⟩).run Tryz.prog (w.alloc (.cells (cellsA six bs) 32)) = .ok (.agg (cellsA six bs)) (w.alloc (.cells (cellsA six bs) 32)) :=
  run_loadVar_agg (fun w => Tryz.isAgg32 w) (fun w => Tryz.sizeOf32 w) _ _ (cellsA_size six bs hl) fun j v hj => by
    have hadd : (⟨w.heap.size, 0, none⟩ : Addr).add j = ⟨w.heap.size, j, none⟩ := by unfold Addr.add; split <;> simp_all
    rw [hadd, cell_last]; exact hj
/-- An address that lies in a block of its own. -/
theorem load29_at (w : World) (b : Nat) (six : Bool) (bs : List Nat) (hl : bs.length = 16) (h : ∀ j, w.cell? ⟨b, j, none⟩ = (cellsA six bs)[j]?) :
    (loadVar 32 ⟨b, 0, none⟩).run Tryz.prog w = .ok (.agg (cellsA six bs)) w :=
  run_loadVar_agg (fun w => Tryz.isAgg32 w) (fun w => Tryz.sizeOf32 w) _ _ (cellsA_size six bs hl) fun j v hj => by
    have hadd : (⟨b, 0, none⟩ : Addr).add j = ⟨b, j, none⟩ := by unfold Addr.add; split <;> simp_all
    rw [hadd, h]; exact hj
theorem load29_below (w w1 : World) (six : Bool) (bs : List Nat) (hl : bs.length = 16) (h : Below (w.alloc (.cells (cellsA six bs) 32)).heap.size (w.alloc (.cells (cellsA six bs) 32)) w1) :
    (loadVar 32 ⟨w.heap.size, 0, none⟩).run Tryz.prog w1 = .ok (.agg (cellsA six bs)) w1 :=
  load29_at w1 _ six bs hl fun j => by rw [h.cell (p := ⟨w.heap.size, j, none⟩) (by simp), cell_last]
/-- How many bytes an address has. -/
def sz6 (six : Bool) : Nat := if six then 16 else 4
set_option maxRecDepth 100000 in
theorem size95 (six : Bool) (bs : List Nat) (w : World) :
    Calls Tryz.prog 305 #[.agg (cellsA six bs)] w fun e w' => e = .returned (.int .i64 (sz6 six : Nat)) ∧ Below w.heap.size w w' := by
  have h0 := cellsA_zero six bs
  go_enter Tryz.func305, Tryz.ntmps305
  cases six
  all_goals
    go_wp2
    go_ret
    exact ⟨rfl, (Below.refl _ w).alloc (Nat.le_refl _) _⟩
/-- ref09.May: all behind the size are zero. -/
def mayL (six : Bool) (bs : List Nat) : Bool := (List.range 16).all fun j => decide (j < sz6 six) || bs.getD j 0 == 0
theorem mayL_true {six : Bool} {bs : List Nat} (h : ∀ j, j < 16 → sz6 six ≤ j → bs.getD j 0 = 0) : mayL six bs = true := by
  unfold mayL
  rw [List.all_eq_true]
  intro j hj
  have hj := List.mem_range.1 hj
  by_cases h1 : j < sz6 six
  · simp [h1]
  · have := h j hj (by omega); rw [this]; simp
theorem mayL_false {six : Bool} {bs : List Nat} {j : Nat} (h : j < 16) (h1 : sz6 six ≤ j) (h2 : bs.getD j 0 ≠ 0) : mayL six bs = false := by
  unfold mayL
  rw [List.all_eq_false]
  refine ⟨j, List.mem_range.2 h, ?_⟩
  have : ¬ j < sz6 six := by omega
  simp [this] at h2 ⊢; exact h2
theorem sz6_le (six : Bool) : sz6 six ≤ 16 := by cases six <;> decide
set_option maxRecDepth 100000 in
set_option maxHeartbeats 1000000 in
theorem may20 (six : Bool) (bs : List Nat) (hl : bs.length = 16) (w : World) :
    Calls Tryz.prog 231 #[.agg (cellsA six bs)] w fun e w' => e = .returned (.bool (mayL six bs)) ∧ Below w.heap.size w w' := by
  have hL := load29_last w six bs hl
  have hs16 := sz6_le six
  generalize hsz : sz6 six = sz at hs16
  go_enter Tryz.func231, Tryz.ntmps231
  go_wp2_with (first | (refine wpList_load_agg rfl 32 _ rfl _ rfl (cellsA six bs) hL ?_) | (go_at_call 305; refine (size95 six bs _).mono ?_; rw [hsz]; rintro e w1 ⟨rfl, hb1⟩))
  have hb : Below w.heap.size w w1 := ((Below.refl _ w).alloc (Nat.le_refl _) _).trans (hb1.mono (by simp))
  have hcs : ∀ k, k < 16 → w1.cell? ⟨w.heap.size, 1 + k, none⟩ = some (.int .u8 (bs.getD k 0 : Nat)) := fun k hk => by
    rw [hb1.cell (p := ⟨w.heap.size, 1 + k, none⟩) (by simp), cell_last]
    exact cellsA_succ six bs k (by omega)
  clear hb1 hL
  go_loop [3] (fun i => ∃ k : Nat, sz ≤ k ∧ k ≤ 16 ∧ i = .int .i64 k ∧ ∀ j, j < k → sz ≤ j → bs.getD j 0 = 0) (fun i => 16 - (intOf i).toNat)
  case atStart => exact ⟨sz, Nat.le_refl _, hs16, rfl, fun j h1 h2 => by omega⟩
  case round =>
    obtain ⟨k, hk1, hk2, rfl, hz⟩ := hrel
    have hcell : (k : Int) < 16 → w1.cell? ⟨w.heap.size, 1 + k, none⟩ = some (.int .u8 (bs.getD k 0 : Nat)) := fun hk => hcs k (by omega)
    clear hcs
    go_wp2
    · rename_i h1 _ _ h2 _
      go_ret
      refine ⟨?_, hb⟩
      have hm := mayL_false (six := six) (bs := bs) (j := k) (by omega) (by omega) (by simp at h2 ⊢; omega)
      rw [hm]; rfl
    · rename_i h1 h2
      refine ⟨⟨k + 1, by omega, by omega, by simp, fun j hj hs => ?_⟩, by simp [intOf]; omega⟩
      rcases Nat.lt_or_ge j k with h | h
      · exact hz j h hs
      · obtain rfl : j = k := by omega
        simp at h2 ⊢; omega
    · rename_i h1 _
      go_ret
      refine ⟨?_, hb⟩
      have hm := mayL_true (six := six) (bs := bs) fun j hj hs => hz j (by omega) (by omega)
      rw [hm]; rfl
end Go.Hm
namespace Go.Hm
open Go Go.Am Go.Proofs Go.RowKit
set_option maxRecDepth 100000
def u8s (l : List Nat) : List Value := l.map fun b : Nat => Value.int .u8 (Int.ofNat b)
theorem eqI_nat (a b : Nat) : eqI (Int.ofNat a) (Int.ofNat b) = (a == b) := by
  have : eqI (Int.ofNat a) (Int.ofNat b) = Nat.beq a b := rfl
  rw [this, Bool.eq_iff_iff, nbeq]; simp
theorem eqKd_bytes : ∀ (xs ys : List Nat), xs.length = ys.length → eqKd (List.replicate xs.length (.int .u8)) (u8s xs) (u8s ys) = some (xs == ys)
  | [], [], _ => rfl
  | x :: xs, y :: ys, h => by
    have ih := eqKd_bytes xs ys (by simpa using h)
    refine (eqKd_cons _ _ _ _ _).2 ⟨_, _, _, _, x == y, xs == ys, rfl, rfl, ?_, ih, ?_⟩
    · show some (eqI (Int.ofNat x) (Int.ofNat y)) = _
      rw [eqI_nat]
    · rfl
  | [], _ :: _, h => by cases h
  | _ :: _, [], h => by cases h
theorem kinds45 : kindsT Tryz.prog 210 = some (List.replicate 12 (.int .u8)) := by kernel_rfl
theorem equal45 (xs ys : List Nat) (hx : xs.length = 12) (hy : ys.length = 12) (w : World) : (Op.equalIn 10000 210 (.agg ⟨u8s xs⟩) (.agg ⟨u8s ys⟩)).run Tryz.prog w = .ok (xs == ys) w :=
  run_equal_plain kinds45 Tryz.underlying210 rfl (by have := eqKd_bytes xs ys (by omega); rwa [hx] at this) w
theorem kinds29 : kindsT Tryz.prog 32 = some (.bool :: List.replicate 16 (.int .u8)) := by kernel_rfl
theorem equal29 (s t : Bool) (xs ys : List Nat) (hx : xs.length = 16) (hy : ys.length = 16) (w : World) : (Op.equalIn 10000 32 (.agg (cellsA s xs)) (.agg (cellsA t ys))).run Tryz.prog w = .ok (s == t && xs == ys) w := by
  have h := eqKd_bytes xs ys (by omega)
  rw [hx] at h
  refine run_equal_plain kinds29 Tryz.underlying32 rfl ?_ w
  refine (eqKd_cons _ _ _ _ _).2 ⟨_, _, _, _, s == t, xs == ys, rfl, rfl, ?_, h, rfl⟩
  show some (eqB s t) = _
  cases s <;> cases t <;> rfl
end Go.Hm
namespace Go.Hm
open Go Go.Proofs Go.RowKit
/-- An address of a group. -/
def groupL (six : Bool) (bs : List Nat) : Bool := if six then bs.getD 0 0 == 255 else bs.getD 0 0 / 16 == 14
set_option maxRecDepth 100000 in
theorem group179 (six : Bool) (bs : List Nat) (hl : bs.length = 16) (hb : bs.getD 0 0 < 256) (w : World) :
    Calls Tryz.prog 106 #[.agg (cellsA six bs)] w fun e w' => e = .returned (.bool (groupL six bs)) ∧ Below w.heap.size w w' := by
  have h0 := cellsA_zero six bs
  have h1 := cellsA_succ six bs 0 (by omega)
  unfold groupL
  generalize bs.getD 0 0 = b at h1 hb ⊢
  go_enter Tryz.func106, Tryz.ntmps106
  cases six
  · go_wp2
    go_ret
    refine ⟨?_, (Below.refl _ w).alloc (Nat.le_refl _) _⟩
    have : ((b : Int) / 16 == 14) = (b / 16 == 14) := by
      rw [Bool.eq_iff_iff]; simp only [beq_iff_eq]; omega
    rw [this]; rfl
  · go_wp2
    go_ret
    refine ⟨?_, (Below.refl _ w).alloc (Nat.le_refl _) _⟩
    have : ((b : Int) == 255) = (b == 255) := by
      rw [Bool.eq_iff_iff]; simp only [beq_iff_eq]; omega
    rw [this]; rfl
theorem may_row (bs : List Nat) : mayL false bs = ([bs.getD 4 0, bs.getD 5 0, bs.getD 6 0, bs.getD 7 0, bs.getD 8 0, bs.getD 9 0, bs.getD 10 0, bs.getD 11 0, bs.getD 12 0, bs.getD 13 0, bs.getD 14 0, bs.getD 15 0] == [0, 0, 0, 0, 0, 0, 0, 0, 0, 0, 0, 0]) := by
  have hr : List.range 16 = [0, 1, 2, 3, 4, 5, 6, 7, 8, 9, 10, 11, 12, 13, 14, 15] := by decide
  unfold mayL
  rw [hr]
  rw [Bool.eq_iff_iff]
  simp [sz6, -List.getD_eq_getElem?_getD]
set_option maxRecDepth 100000 in
theorem may178 (six : Bool) (bs : List Nat) (hl : bs.length = 16) (w : World) :
    Calls Tryz.prog 105 #[.agg (cellsA six bs)] w fun e w' => e = .returned (.bool (mayL six bs)) ∧ Below w.heap.size w w' := by
  have h0 := cellsA_zero six bs
  go_enter Tryz.func105, Tryz.ntmps105
  cases six
  · have hA : ∀ W, (Instr.arrayAt 210 (.slice (some ⟨w.heap.size, 5, none⟩) 12 12)).run Tryz.prog W = .ok (.pointer (some ⟨w.heap.size, 5, none⟩)) W := fun W => by
      simp [Instr.arrayAt, run_underlying Tryz.underlying210, go_sem]
    have hmay : mayL false bs = ([bs.getD 4 0, bs.getD 5 0, bs.getD 6 0, bs.getD 7 0, bs.getD 8 0, bs.getD 9 0, bs.getD 10 0, bs.getD 11 0, bs.getD 12 0, bs.getD 13 0, bs.getD 14 0, bs.getD 15 0] == [0, 0, 0, 0, 0, 0, 0, 0, 0, 0, 0, 0]) := may_row bs
    have g4 := cellsA_succ false bs 4 (by omega); have g5 := cellsA_succ false bs 5 (by omega); have g6 := cellsA_succ false bs 6 (by omega); have g7 := cellsA_succ false bs 7 (by omega)
    have g8 := cellsA_succ false bs 8 (by omega); have g9 := cellsA_succ false bs 9 (by omega); have g10 := cellsA_succ false bs 10 (by omega); have g11 := cellsA_succ false bs 11 (by omega)
    have g12 := cellsA_succ false bs 12 (by omega); have g13 := cellsA_succ false bs 13 (by omega); have g14 := cellsA_succ false bs 14 (by omega); have g15 := cellsA_succ false bs 15 (by omega)
    generalize bs.getD 4 0 = b4 at g4 hmay
    generalize bs.getD 5 0 = b5 at g5 hmay
    generalize bs.getD 6 0 = b6 at g6 hmay
    generalize bs.getD 7 0 = b7 at g7 hmay
    generalize bs.getD 8 0 = b8 at g8 hmay
    generalize bs.getD 9 0 = b9 at g9 hmay
    generalize bs.getD 10 0 = b10 at g10 hmay
    generalize bs.getD 11 0 = b11 at g11 hmay
    generalize bs.getD 12 0 = b12 at g12 hmay
    generalize bs.getD 13 0 = b13 at g13 hmay
    generalize bs.getD 14 0 = b14 at g14 hmay
    generalize bs.getD 15 0 = b15 at g15 hmay
    rw [hmay]
    have hE := equal45 [b4, b5, b6, b7, b8, b9, b10, b11, b12, b13, b14, b15] [0, 0, 0, 0, 0, 0, 0, 0, 0, 0, 0, 0] rfl rfl
    generalize ([b4, b5, b6, b7, b8, b9, b10, b11, b12, b13, b14, b15] == [0, 0, 0, 0, 0, 0, 0, 0, 0, 0, 0, 0]) = r at hE ⊢
    simp only [u8s, List.map_cons, List.map_nil, Int.ofNat_eq_natCast, Int.cast_ofNat_Int] at hE
    clear hmay
    go_wp2
    go_ret
    exact ⟨rfl, (Below.refl _ w).alloc (Nat.le_refl _) _⟩
  · go_wp2
    go_ret
    have hm := mayL_true (six := true) (bs := bs) fun j h1 h2 => by simp [sz6] at h2; omega
    exact ⟨by rw [hm]; rfl, (Below.refl _ w).alloc (Nat.le_refl _) _⟩
/-- host.isAddr. -/
def addrL (six : Bool) (bs : List Nat) : Bool := mayL six bs && !groupL six bs
set_option maxRecDepth 100000 in
theorem isAddr97 (six : Bool) (bs : List Nat) (hl : bs.length = 16) (hb : bs.getD 0 0 < 256) (w : World) :
    Calls Tryz.prog 43 #[.agg (cellsA six bs)] w fun e w' => e = .returned (.bool (addrL six bs)) ∧ Below w.heap.size w w' := by
  have hL := load29_last w six bs hl
  unfold addrL
  generalize hm : mayL six bs = m
  generalize hg : groupL six bs = g
  go_enter Tryz.func43, Tryz.ntmps43
  cases m
  all_goals go_wp2_with (first
    | (refine wpList_load_agg rfl 32 _ rfl _ rfl (cellsA six bs) hL ?_)
    | (go_at_call 105; refine (may178 six bs hl _).mono ?_; rw [hm]; rintro e w1 ⟨rfl, hb1⟩)
    | (refine wpList_load_aggG rfl 32 _ rfl _ rfl (cellsA six bs) (load29_below w _ six bs hl (by assumption)) ?_)
    | (go_at_call 106; refine (group179 six bs hl hb _).mono ?_; rw [hg]; rintro e w2 ⟨rfl, hb2⟩))
  · go_ret
    exact ⟨by simp, ((Below.refl _ w).alloc (Nat.le_refl _) _).trans (hb1.mono (by simp))⟩
  · go_ret
    have h1 : Below w.heap.size w w1 := ((Below.refl _ w).alloc (Nat.le_refl _) _).trans (hb1.mono (by simp))
    exact ⟨by simp, h1.trans (hb2.mono h1.size)⟩
set_option maxRecDepth 100000 in
theorem bad96 (six : Bool) (bs : List Nat) (hl : bs.length = 16) (hb : bs.getD 0 0 < 256) (w : World) :
    Calls Tryz.prog 76 #[.agg (cellsA six bs)] w fun e w' => e = .returned (.bool (!addrL six bs)) ∧ Below w.heap.size w w' := by
  have hL := load29_last w six bs hl
  generalize hm : addrL six bs = m
  go_enter Tryz.func76, Tryz.ntmps76
  go_wp2_with (first
    | (refine wpList_load_agg rfl 32 _ rfl _ rfl (cellsA six bs) hL ?_)
    | (go_at_call 43; refine (isAddr97 six bs hl hb _).mono ?_; rw [hm]; rintro e w1 ⟨rfl, hb1⟩))
  go_ret
  exact ⟨rfl, ((Below.refl _ w).alloc (Nat.le_refl _) _).trans (hb1.mono (by simp))⟩
end Go.Hm
