/- NetMay: the calls at a net that nobody made: none, and an empty one. · NetMay: settings, in rows. -/
import Derived.Test.YtnhpljgeckdedaaGreatAmG
import Derived.Carry
import Derived.Laws.Cells
import Derived.Test.YtnhpljgeckdedaaGreatHmS
import Derived.Great.Walk
import Derived.Deep.CutBlock
set_option linter.unusedSimpArgs false
set_option linter.unusedVariables false
set_option linter.constructorNameAsVariable false
namespace Go.Am
open Go Go.Proofs Go.RowKit
set_option maxRecDepth 100000
/-- A heap of one block, which is only read. -/
noncomputable def oneM (t : TypeId) (vs : List Value) : Mem := oC ((Mem.mk .lf 0).new (.cells false t vs)) (.mk .lf 0) fun x => p2 x fun _ m => m
theorem rel_one {t : TypeId} {vs : List Value} {b : Nat} {w : World} (hn : ∃ m, (Mem.mk .lf 0).new (.cells false t vs) = some (0, m)) (hv : ∀ v ∈ vs, Flat v) (hs : Tryz.prog.cellsOf t = vs.length)
    (hb : w.heap[b]? = some (.cells ⟨vs⟩ t (0, 0))) : Rel Tryz.prog w.heap.size (place noSg 0 ⟨b, 0, 1, vs.length, vs.length⟩) (oneM t vs) w := by
  obtain ⟨m, hm⟩ := hn
  have hM : oneM t vs = m := by unfold oneM; rw [hm]
  rw [hM]
  obtain ⟨h1, h2, h3⟩ := Mem.new_some hm
  have hg0 : ∀ c, (Mem.mk (.lf : Tr Blk) 0).get c = none := fun c => Tr.get_lf c
  have hn0 : (Mem.mk (.lf : Tr Blk) 0).nxt = 0 := rfl
  have hget : ∀ c x, m.get c = some x → c = 0 ∧ x = .cells false t vs := fun c x hc => by
    rw [h3, hn0, hg0] at hc
    by_cases e : c = 0
    · rw [if_pos e] at hc; injection hc with hc; exact ⟨e, hc.symm⟩
    · rw [if_neg e] at hc; cases hc
  refine ⟨?_, ?_, ?_, ?_, ?_, Nat.le_refl _⟩
  · intro c rw' e ws hc p hp
    obtain ⟨rfl, hx⟩ := hget c _ hc
    injection hx with x1 x2 x3
    subst x1; subst x2; subst x3
    rw [place_same] at hp
    injection hp with hp; subst hp
    refine ⟨hs.symm, rfl, by simp, (by intro h; cases h), ⟨ws⟩, (0, 0), hb, by simp, .inl rfl, fun i v hi => ⟨v, by simpa using hi, (hv v (List.mem_of_getElem? hi)).rel⟩⟩
  · intro c es k hc
    obtain ⟨_, hx⟩ := hget c _ hc
    cases hx
  · intro c r a s k hc
    obtain ⟨_, hx⟩ := hget c _ hc
    cases hx
  · intro c d x y p q hc hd _ _ _
    rw [(hget c _ hc).1, (hget d _ hd).1]
  · intro c hc
    rw [h2, hn0] at hc
    unfold place
    rw [if_neg (by omega)]; rfl
/-- A result, and nothing of the one block is turned. -/
noncomputable def isRetR (v2 : Value) (r : Option Ro) : Bool := oC r false fun r => Ro.rec (motive := fun _ => Bool) (fun v _ => eqV v v2) (fun _ _ => false) r
theorem isRetR_some {v2 : Value} {r : Option Ro} (h : isRetR v2 r = true) : ∃ m, r = some (.ret v2 m) := by
  unfold isRetR at h
  cases r with
  | none => cases h
  | some r =>
    cases r with
    | ret v m => rw [eqV_eq (show eqV v v2 = true from h)]; exact ⟨m, rfl⟩
    | panic v m => cases h
abbrev emptyNet : List Value := [.slice none 0 0, .float .f64 0, .float .f64 0, .float .f64 0, .int .i64 0, .float .f64 0, .float .f64 0, .float .f64 0, .int .i64 0, .slice none 0 0, .slice none 0 0]
theorem new_zero (t : TypeId) (vs : List Value) : ∃ m, (Mem.mk (.lf : Tr Blk) 0).new (.cells false t vs) = some (0, m) := ⟨_, rfl⟩
/-- A net that nobody made. -/
def NoNet (W : World) (x : Value) : Prop := x = .pointer none ∨ ∃ b, x = .pointer (some ⟨b, 0, none⟩) ∧ W.heap[b]? = some (.cells ⟨emptyNet⟩ 62 (0, 0))
theorem NoNet.below {W W' : World} {x : Value} (h : NoNet W x) (hb : Below W.heap.size W W') : NoNet W' x := by
  rcases h with h | ⟨b, h, hk⟩
  · exact .inl h
  · exact .inr ⟨b, h, (hb.block b (Array.getElem?_eq_some_iff.1 hk).1).trans hk⟩
theorem flat_empty : ∀ v ∈ emptyNet, Flat v := by
  intro v hv
  simp at hv
  rcases hv with rfl | rfl | rfl | rfl | rfl | rfl
  all_goals first | exact .nilSl _ _ | exact .float _ _ | exact .int _ _
theorem netCall (f : Nat) (args : List Value) (v : Value) (hf : (List.all args (isFlat 10)) = true) (hv : isFlat 10 v = true)
    (h1 : isRetR v (callA Tryz.prog fns .lf 100000 100 f (.pointer none :: args) (.mk .lf 0)) = true)
    (h2 : isRetR v (callA Tryz.prog fns .lf 100000 100 f (.pointer (some ⟨0, 0, none⟩) :: args) (oneM 62 emptyNet)) = true)
    (x : Value) (w : World) (hx : NoNet w x) : Calls Tryz.prog f ⟨x :: args⟩ w fun e w' => e = .returned v ∧ Below w.heap.size w w' := by
  have hfa : ∀ u ∈ args, Flat u := fun u hu => isFlat_flat _ _ (List.all_eq_true.1 hf u hu)
  have hfv := isFlat_flat _ _ hv
  rcases hx with rfl | ⟨b, rfl, hb⟩
  · obtain ⟨m, hm⟩ := isRetR_some h1
    obtain ⟨_, hc⟩ := leaf_ok w.heap.size f _ (.mk .lf 0) _ hm noSg w _ (rel_empty Tryz.prog w 0) (LRel.cons VRel.nilPtr (LRel.flat hfa))
    refine hc.mono fun e w' he => ?_
    obtain ⟨σ', _, hb, _, v', rfl, hv'⟩ := he
    exact ⟨by rw [VRel.flat_eq hfv hv'], hb⟩
  · obtain ⟨m, hm⟩ := isRetR_some h2
    have hr := rel_one (t := 62) (vs := emptyNet) (b := b) (w := w) (new_zero _ _) flat_empty (by kernel_rfl) hb
    obtain ⟨_, hc⟩ := leaf_ok w.heap.size f _ _ _ hm _ w (.pointer (some ⟨b, 0 + 0, none⟩) :: args) hr (LRel.cons (VRel.ptr (p := ⟨b, 0, 1, 11, 11⟩) 0 (place_same _ _)) (LRel.flat hfa))
    refine hc.mono fun e w' he => ?_
    obtain ⟨σ', _, hb, _, v', rfl, hv'⟩ := he
    exact ⟨by rw [VRel.flat_eq hfv hv'], hb⟩
abbrev Quiet14 (f : Nat) (args : List Value) (v : Value) : Prop := ∀ (x : Value) (w : World), NoNet w x → Calls Tryz.prog f ⟨x :: args⟩ w fun e w' => e = .returned v ∧ Below w.heap.size w w'
theorem qDraws : Quiet14 10 [.float .f64 4607182418800017408, .float .f64 4607182418800017408, .float .f64 4607182418800017408] (.tuple #[]) := netCall _ _ _ (by kernel_rfl) (by kernel_rfl) (by kernel_rfl) (by kernel_rfl)
theorem qChances : Quiet14 20 [.agg #[.float .f64 0, .float .f64 0, .float .f64 0, .int .i64 1]] (.tuple #[]) := netCall _ _ _ (by kernel_rfl) (by kernel_rfl) (by kernel_rfl) (by kernel_rfl)
theorem qGather : Quiet14 21 [] (.tuple #[]) := netCall _ _ _ (by kernel_rfl) (by kernel_rfl) (by kernel_rfl) (by kernel_rfl)
theorem qHost : Quiet14 11 [.int .i64 0] (.pointer none) := netCall _ _ _ (by kernel_rfl) (by kernel_rfl) (by kernel_rfl) (by kernel_rfl)
theorem qRun : Quiet14 14 [.int .i64 5] (.int .i64 0) := netCall _ _ _ (by kernel_rfl) (by kernel_rfl) (by kernel_rfl) (by kernel_rfl)
theorem qEmissions : Quiet14 15 [] (.int .i64 0) := netCall _ _ _ (by kernel_rfl) (by kernel_rfl) (by kernel_rfl) (by kernel_rfl)
theorem qUnder : Quiet14 16 [] (.int .i64 0) := netCall _ _ _ (by kernel_rfl) (by kernel_rfl) (by kernel_rfl) (by kernel_rfl)
theorem qBytes : Quiet14 22 [.int .i64 0] (.slice none 0 0) := netCall _ _ _ (by kernel_rfl) (by kernel_rfl) (by kernel_rfl) (by kernel_rfl)
theorem qNow : Quiet14 23 [] (.int .i64 0) := netCall _ _ _ (by kernel_rfl) (by kernel_rfl) (by kernel_rfl) (by kernel_rfl)
theorem qWitness : Quiet14 24 [] (.bool false) := netCall _ _ _ (by kernel_rfl) (by kernel_rfl) (by kernel_rfl) (by kernel_rfl)
theorem qAgain : Quiet14 25 [.int .i64 0] (.int .i64 2) := netCall _ _ _ (by kernel_rfl) (by kernel_rfl) (by kernel_rfl) (by kernel_rfl)
theorem qMutate : Quiet14 26 [.int .i64 0, .int .i64 0] (.int .i64 2) := netCall _ _ _ (by kernel_rfl) (by kernel_rfl) (by kernel_rfl) (by kernel_rfl)
theorem qInject : Quiet14 27 [.slice none 0 0] (.int .i64 2) := netCall _ _ _ (by kernel_rfl) (by kernel_rfl) (by kernel_rfl) (by kernel_rfl)
theorem qReboot : Quiet14 28 [.int .i64 0] (.int .i64 2) := netCall _ _ _ (by kernel_rfl) (by kernel_rfl) (by kernel_rfl) (by kernel_rfl)
end Go.Am
namespace Go.Nm
open Go Go.Am Go.Hm Go.Proofs Go.RowKit
set_option maxRecDepth 100000
/-- A setting of one address, which lies at b. -/
def setC (b : Nat) : Array Value := setV (.slice (some ⟨b, 0, none⟩) 1 1) 1280
def rowS (bs : List Nat) : List Value := bs.flatMap fun b => (setC b).toList
theorem rowS_len : ∀ bs : List Nat, (rowS bs).length = bs.length * 11
  | [] => rfl
  | b :: bs => by
    have ih := rowS_len bs
    show ((setC b).toList ++ rowS bs).length = _
    rw [List.length_append, ih]
    show 11 + _ = _
    simp; omega
theorem rowS_snoc (bs : List Nat) (b : Nat) : rowS (bs ++ [b]) = rowS bs ++ (setC b).toList := by simp [rowS]
theorem rowS_get : ∀ (bs : List Nat) (i j b : Nat), bs[i]? = some b → j < 11 → (rowS bs)[i * 11 + j]? = (setC b)[j]?
  | [], i, j, b, h, _ => by simp at h
  | c :: bs, i, j, b, h, hj => by
    show ((setC c).toList ++ rowS bs)[i * 11 + j]? = _
    have hc : (setC c).toList.length = 11 := rfl
    cases i with
    | zero =>
      simp at h; subst h
      rw [List.getElem?_append_left (by rw [hc]; omega)]
      simp
    | succ i =>
      have ih := rowS_get bs i j b (by simpa using h) hj
      rw [List.getElem?_append_right (by rw [hc]; omega), hc, ← ih]
      congr 1; omega
/-- The addresses lie where the settings say. -/
def AddrsAt (W : World) (bs : List Nat) (l : List Ad) : Prop := ∀ (i b : Nat), bs[i]? = some b → ∃ x : Ad, l[i]? = some x ∧ W.heap[b]? = some (Obj.cells (cellsA x.1 x.2) 42 (0, 0))
theorem AddrsAt.below {W W' : World} {bs : List Nat} {l : List Ad} (h : AddrsAt W bs l) (hb : Below W.heap.size W W') : AddrsAt W' bs l := fun i b hi => by
  obtain ⟨x, hx, hk⟩ := h i b hi
  exact ⟨x, hx, (hb.block b (Array.getElem?_eq_some_iff.1 hk).1).trans hk⟩
theorem AddrsAt.snoc {W : World} {bs : List Nat} {l : List Ad} (h : AddrsAt W bs l) {b : Nat} {x : Ad} (hx : l[bs.length]? = some x) (hk : W.heap[b]? = some (Obj.cells (cellsA x.1 x.2) 42 (0, 0))) : AddrsAt W (bs ++ [b]) l := by
  intro i c hi
  rcases Nat.lt_or_ge i bs.length with hl | hl
  · rw [List.getElem?_append_left hl] at hi
    exact h i c hi
  · rw [List.getElem?_append_right hl] at hi
    obtain ⟨h1, h2⟩ := List.getElem?_eq_some_iff.1 hi
    have h3 : i = bs.length := by simp at h1; omega
    subst h3
    simp at h2; subst h2
    exact ⟨x, hx, hk⟩
/-- What an append leaves: a block of another type stays. -/
theorem grown_other {w w' : World} {base size n : Nat} {e t : TypeId} {v : Value} {xs : List Value} (hown : w.ownsRow base e size v n xs) (hg : w.grownBy w' v.ownBlock) (hne : t ≠ e) {b : Nat} {c : Array Value}
    (hb : w.heap[b]? = some (Obj.cells c t (0, 0))) : w'.heap[b]? = some (Obj.cells c t (0, 0)) := by
  have hl := (Array.getElem?_eq_some_iff.1 hb).1
  rw [hg.block b hl, hb]
  intro ho
  obtain ⟨_, h | ⟨g, cap, cur, rfl, _, hgk, _⟩⟩ := hown
  · rw [h.1] at ho; cases ho
  · simp [Value.ownBlock] at ho
    subst ho
    rw [hgk] at hb
    injection hb with hb; injection hb with _ hb
    exact hne hb.symm
theorem ownsRow_below {w w' : World} {base size n : Nat} {e : TypeId} {v : Value} {xs : List Value} (h : w.ownsRow base e size v n xs) (hb : Below w.heap.size w w') : w'.ownsRow base e size v n xs := by
  refine ⟨h.1, ?_⟩
  rcases h.2 with h | ⟨g, cap, cur, h1, h2, h3, h4⟩
  · exact .inl h
  · exact .inr ⟨g, cap, cur, h1, h2, (hb.block g (Array.getElem?_eq_some_iff.1 h3).1).trans h3, h4⟩
noncomputable def isSetR : Option Ro → Bool
  | some (.ret (.agg ⟨.slice _ _ _ :: rest⟩) _) => eqList eqV rest [.int .i64 1280, .int .i64 200, .int .i64 300, .bool true, .bool true, .bool false, .int .u8 0, .bool false, .bool false, .int .i64 0]
  | _ => false
theorem flat_set : ∀ v ∈ [Value.int .i64 1280, .int .i64 200, .int .i64 300, .bool true, .bool true, .bool false, .int .u8 0, .bool false, .bool false, .int .i64 0], Flat v := fun v hv =>
  isFlat_flat 10 _ (List.all_eq_true.1 (show List.all [Value.int .i64 1280, .int .i64 200, .int .i64 300, .bool true, .bool true, .bool false, .int .u8 0, .bool false, .bool false, .int .i64 0] (isFlat 10) = true by kernel_rfl) v hv)
theorem usual1 (w : World) : Calls Tryz.prog 17 #[.int .u8 1] w fun e w' => ∃ sv, e = .returned (.agg (setV sv 1280)) ∧ sv.oneCell' = true ∧ Below w.heap.size w w' := by
  have hr : isSetR (callA Tryz.prog fns .lf 100000 100 17 [.int .u8 1] (.mk .lf 0)) = true := by kernel_rfl
  unfold isSetR at hr
  split at hr
  · rename_i a ln cp rest m hm
    have := eqList_eq (fun _ _ => eqV_eq) _ _ hr
    subst this
    obtain ⟨_, hc⟩ := leaf_ok w.heap.size 17 [.int .u8 1] (.mk .lf 0) _ hm noSg w [.int .u8 1] (rel_empty Tryz.prog w 0) (LRel.cons (VRel.int _ _) LRel.nil)
    refine hc.mono fun e w' he => ?_
    obtain ⟨σ', _, hb, _, v', rfl, hv⟩ := he
    obtain ⟨l', rfl, h1, h2⟩ := hv.agg_inv
    obtain ⟨v1, t1, rfl, k1, k2⟩ := LRel.head (l' := l') ⟨h1, h2⟩
    have := k2.flat_eq flat_set
    subst this
    exact ⟨v1, rfl, by cases k1 <;> rfl, hb⟩
  · cases hr
theorem infoS (n : Nat) (hn : n = 11) : (Tryz.prog.info? 53).map (·.size) = some n := by subst hn; kernel_rfl
theorem setV_all (sv : Value) (h : sv.oneCell' = true) (mtu : Int) : (setV sv mtu).all (·.oneCell') = true := by cases sv <;> simp [setV, Value.oneCell'] at h ⊢
theorem storeS_new (w : World) (c : Array Value) (hc : c.size = 11) (sv : Value) (h : sv.oneCell' = true) :
    (storeVar 53 ⟨w.heap.size, 0, none⟩ (.agg (setV sv 1280))).run Tryz.prog (w.alloc (.cells c 53)) = .ok () (w.alloc (.cells (setV sv 1280) 53)) :=
  run_storeVar_new w 53 c (setV sv 1280) (infoS _ rfl) (by rw [hc]; rfl) (setV_all sv h 1280)
theorem builtA (six : Bool) (bs : List Nat) (h : bs.length = 16) : Tryz.prog.builtSlice 42 1 [(0, .agg (cellsA six bs))] = some (cellsA six bs) := by
  match bs, h with
  | [b0, b1, b2, b3, b4, b5, b6, b7, b8, b9, b10, b11, b12, b13, b14, b15], _ => exact (show Tryz.prog.builtSlice 42 1 [(0, .agg (cellsA six [b0, b1, b2, b3, b4, b5, b6, b7, b8, b9, b10, b11, b12, b13, b14, b15]))] = some (cellsA six [b0, b1, b2, b3, b4, b5, b6, b7, b8, b9, b10, b11, b12, b13, b14, b15]) from by kernel_rfl)
theorem builtS (b : Nat) : Tryz.prog.builtSlice 53 1 [(0, .agg (setC b))] = some (setC b) := by kernel_rfl
theorem setCell_last (w : World) (c : Array Value) (t : TypeId) (v : Value) : (w.alloc (.cells c t)).setCell ⟨w.heap.size, 0, none⟩ v = w.alloc (.cells (c.setIfInBounds 0 v) t) := by
  unfold World.setCell World.alloc
  simp only [World.mk.injEq, and_true]
  apply Array.ext_getElem?
  intro i
  rw [Array.getElem?_modify]
  by_cases h1 : w.heap.size = i
  · subst h1
    simp [Array.getElem?_push]
  · rw [if_neg h1]
    have h2 : ¬ i = w.heap.size := fun h => h1 h.symm
    simp [Array.getElem?_push, h2]
theorem setC_of (b : Nat) (sv : Value) : (setV sv 1280).setIfInBounds 0 (.slice (some ⟨b, 0, none⟩) 1 1) = setC b := rfl
theorem setC_one (b : Nat) : ∀ u ∈ (setC b).toList, u.oneCell' = true := by
  intro u hu
  simp [setC, setV] at hu
  rcases hu with rfl | rfl | rfl | rfl | rfl | rfl | rfl | rfl | rfl | rfl | rfl <;> rfl
theorem wpList_build1 {P : Program} {ops : Array Oper} {rest : List Oper} {o : Oper} {a : Act} {w : World} {Q : Exit → Act → World → Prop} (hg : o.guard = none) (t e : TypeId) (x : Operand) (ho : o.op = .buildSlice t 1 #[(0, x)])
    (v : Value) (hx : a.eval x = v) (N : Nat) (hN : w.heap.size = N) (dst : Option Tmp) (hdst : o.dst = dst) (hu : P.underlying t = some (.slice e)) (cells : Array Value)
    (hf : P.builtSlice e 1 [(0, v)] = some cells)
    (h : wpList P ops Q rest (a.put dst (.slice (some ⟨N, 0, none⟩) 1 1)) (w.alloc (.cells cells e))) : wpList P ops Q (o :: rest) a w :=
  Great.wpList_buildSliceTo hg t e 1 _ ho N hN dst hdst hu cells (by subst hx; simpa using hf) h
theorem add_off (b j : Nat) : (⟨b, 0, none⟩ : Addr).add j = ⟨b, j, none⟩ := by unfold Addr.add; split <;> simp_all
theorem grown_below {w w' : World} {base size n : Nat} {e : TypeId} {v : Value} {xs : List Value} (hown : w.ownsRow base e size v n xs) (hg : w.grownBy w' v.ownBlock) (hb : base ≤ w.heap.size) : Below base w w' :=
  ⟨hg.os, hg.tape, hg.output, hg.size, fun k hk => hg.block k (by omega) fun h => by have := hown.lt k h.symm; omega⟩
theorem cell_blk {W : World} {b : Nat} {c : Array Value} {t : TypeId} (h : W.heap[b]? = some (Obj.cells c t (0, 0))) (j : Nat) : W.cell? ⟨b, j, none⟩ = c[j]? := cell_of_row W b j c t (0, 0) h
end Go.Nm
