/- NetChances: icmp.Parse of an echo. -/
import Derived.Test.YtecihapafnpgbaaGreatChQ
set_option linter.unusedSimpArgs false
set_option linter.unusedVariables false
set_option linter.constructorNameAsVariable false
set_option linter.unusedSectionVars false
namespace Go.Ch
open Go Go.Am Go.Hm Go.Proofs Go.RowKit Go.Rg
set_option maxRecDepth 100000
/-- The sum of nothing and a row. -/
theorem parts2S (W : World) (v : Value) (l : List Nat) (t : TypeId) (h : BytesAt W v l) (hl : l.length ≤ 2000) :
    Calls Tryz.prog 161 #[.slice (some ⟨W.heap.size, 0, none⟩) 2 2] (W.alloc (.cells #[.slice none 0 0, v] t)) fun e w' => e = .returned (.int .u16 (foldN (wsum l) : Nat)) ∧ Below W.heap.size W w' := by
  have hb : Below W.heap.size W (W.alloc (.cells #[.slice none 0 0, v] t)) := (Below.refl _ _).alloc (Nat.le_refl _) _
  have hB := (BoxAt.new W #[.slice none 0 0, v] t).2
  have := sum (.slice (some ⟨W.heap.size, 0, none⟩) 2 2) [(.slice none 0 0, []), (v, l)] _ (by simp) (by simpa using hl) ⟨W.heap.size, 0, 2, rfl, fun i z hz => by
    rcases i with _ | _ | i
    · obtain rfl := Option.some.inj hz
      exact ⟨hB 0 _ rfl, (nilB W).below hb⟩
    · obtain rfl := Option.some.inj hz
      exact ⟨hB 1 _ rfl, h.below hb⟩
    · simp at hz⟩
  refine this.mono ?_
  rintro e w' ⟨rfl, hb'⟩
  exact ⟨by simp [sumTo, wsum], hb.trans (hb'.mono (by simp))⟩
theorem info6 : (Tryz.prog.info? 100).map (·.size) = some 6 := by kernel_rfl
theorem OwnB.keptT {n b : Nat} {V : World} {v : Value} {l : List Nat} {c : Array Value} {t : TypeId} {fz : Nat × Nat} (h : OwnB n V v l) (hb : V.heap[b]? = some (.cells c t fz)) (ht : t ≠ 5) (cs : Array Value) : OwnB n (V.setRow b cs) v l := by
  refine ⟨⟨h.row.1, ?_⟩, h.lt⟩
  rcases h.row.2 with hn | ⟨g', cap', cur, he, hg', hh, hrr⟩
  · exact .inl hn
  · refine .inr ⟨g', cap', cur, he, hg', ?_, hrr⟩
    rw [setRow_other _ _ _ _ (fun e => by rw [e, hb] at hh; injection hh with hh; injection hh with _ h2; exact ht h2)]; exact hh
abbrev zC : Array Value := #[.int .i64 0, .int .u8 0, .int .u16 0, .int .u16 0, .int .u32 0, .slice none 0 0]
theorem layL_eq (k id sq : Nat) (d : List Nat) : ∃ ch cl, layL k id sq d = [echoT k, 0, ch, cl, id / 256, id % 256, sq / 256, sq % 256] ++ d := ⟨_, _, rfl⟩
set_option maxHeartbeats 1000000 in
theorem icmpParse (k id sq p q r s p' q' r' s' : Nat) (hk : k = 1 ∨ k = 2) (hid : id < 65536) (hsq : sq < 65536) (v : Value) (d : List Nat) (w : World) (hl : d.length ≤ 1400) (h : BytesAt w v (layL k id sq d)) :
    Calls Tryz.prog 116 #[v, ad4 p q r s, ad4 p' q' r' s'] w fun e w' => ∃ dv', e = .returned (.tuple #[echoV k id sq dv', .int .i64 0]) ∧ OwnB w.heap.size w' dv' d ∧ Below w.heap.size w w' := by
  have hsum := lay_sum k id sq d
  obtain ⟨ch, cl, hL⟩ := layL_eq k id sq d
  rw [hL] at h hsum
  obtain ⟨L, hLL⟩ : ∃ L, L = [echoT k, 0, ch, cl, id / 256, id % 256, sq / 256, sq % 256] ++ d := ⟨_, rfl⟩
  rw [← hLL] at h hsum
  have hLl : L.length = 8 + d.length := by rw [hLL]; simp; omega
  have HLL := Lib.hid hLL
  have hps := fun n W => pseudo p q r s p' q' r' s' n W
  clear hLL hL
  unfold ad4 at hps ⊢
  unfold echoV
  go_enter Tryz.func116, Tryz.ntmps116
  go_upto_region 1 with fail
  have h3 := boxes3 w (adC p q r s) (adC p' q' r' s') zC 32 32 100
  have h3t := heap_alloc_new ((w.alloc (.cells (adC p q r s) 32)).alloc (.cells (adC p' q' r' s') 32)) (.cells zC 100)
  rw [show ((w.alloc (.cells (adC p q r s) 32)).alloc (.cells (adC p' q' r' s') 32)).heap.size = w.heap.size + 1 + 1 from by simp] at h3t
  generalize ((w.alloc (.cells (adC p q r s) 32)).alloc (.cells (adC p' q' r' s') 32)).alloc (.cells zC 100) = W at h3 h3t ⊢
  obtain ⟨X1, X2, _, Xb, Xs⟩ := h3
  have Xd := h.below Xb
  obtain ⟨bb, oo, cc, rfl, hc1, hc2, hcell⟩ := Xd.open (by omega)
  have HCell := Lib.hid hcell
  have hL8 : (8 : Int) ≤ (L.length : Int) := by omega
  have hL9 : 8 ≤ L.length := by omega
  have hLm : L.length ≤ 2000 := by omega
  have HLl := Lib.hid hLl
  have aL := X1.loadAd; have eL := X2.loadAd
  have KB := Lib.hid Xd
  have KX := Lib.hid X1
  clear hcell X1 X2 Xd hLl
  go_upto_region 5 with (first
    | (refine wpList_load_agg rfl 32 _ rfl _ rfl (adC p q r s) aL ?_)
    | (refine wpList_load_agg rfl 32 _ rfl _ rfl (adC p' q' r' s') eL ?_)
    | (go_at_call 91; refine (hps _ W).mono ?_; rintro e W6 ⟨rfl, hb8⟩)
    | (go_at_call 161; refine (parts2S W6 _ L _ (KB.out.below hb8) hLm).mono ?_; rw [hsum]; rintro e W7 ⟨rfl, hb9⟩))
  have hb7 : Below W.heap.size W W7 := hb8.trans (hb9.mono hb8.size)
  have Xb7 := Xb.trans (hb7.mono (by omega))
  have KB7 := Lib.hid (KB.out.below hb7)
  have hT7 : W7.heap[w.heap.size + 1 + 1]? = some (.cells zC 100) := by rw [hb7.block _ (by omega)]; exact h3t
  have X17 := KX.out.below hb7 (by omega)
  have hs7 : W.heap.size ≤ W7.heap.size := hb7.size
  have hSub : BytesAt W7 (.slice (some ⟨bb, oo + 8, none⟩) d.length (cc - 8)) d := by
    have := KB7.out.sub 8 d.length (cc - 8) (by rw [HLl.out]; omega) (by have := HLl.out; omega) (by omega)
    rw [HLL.out] at this
    have e5 : (List.drop 8 ([echoT k, 0, ch, cl, id / 256, id % 256, sq / 256, sq % 256] ++ d)).take d.length = d := List.take_of_length_le (by simp)
    rw [e5] at this; exact this
  replace hSub : BytesAt W7 (.slice (if cc = 8 then some ⟨bb, oo, none⟩ else some ⟨bb, oo + 8, none⟩) (L.length - 8) (cc - 8)) d := by
    have e6 : L.length - 8 = d.length := by rw [HLl.out]; omega
    rw [e6]
    by_cases hcc : cc = 8
    · rw [if_pos hcc]
      have e7 : d = [] := List.eq_nil_of_length_eq_zero (by have := HLl.out; omega)
      subst e7
      exact ⟨by simp, _, _, rfl, by simp, by omega, by simp⟩
    · rw [if_neg hcc]; exact hSub
  have q0 : ∀ V, Below W7.heap.size W7 V → V.cell? ⟨bb, oo, none⟩ = some (.int .u8 (echoT k : Nat)) := fun V hV => by
    have := HCell.out 0 (echoT k) (by rw [HLL.out]; rfl)
    have h2 := hb7.cell (World.block_lt_of_cell? W _ this)
    rw [this] at h2
    have h3 := hV.cell (World.block_lt_of_cell? W7 _ h2)
    rw [h2] at h3; exact h3
  have q1 : ∀ V, Below W7.heap.size W7 V → V.cell? ⟨bb, oo + 1, none⟩ = some (.int .u8 0) := fun V hV => by
    have := HCell.out 1 0 (by rw [HLL.out]; rfl)
    have h2 := hb7.cell (World.block_lt_of_cell? W _ this)
    rw [this] at h2
    have h3 := hV.cell (World.block_lt_of_cell? W7 _ h2)
    rw [h2] at h3; exact h3
  have q2 : ∀ V, Below W7.heap.size W7 V → V.cell? ⟨w.heap.size, 0, none⟩ = some (.bool false) := fun V hV => by
    have h2 := X17.2 0 _ rfl
    have h3 := hV.cell (World.block_lt_of_cell? W7 _ h2)
    rw [h2] at h3; exact h3
  clear hb8 hb9 aL eL hps h3t KX X17 hsum
  rename_i K hK
  refine Go.Rg.region_inv (nt := 72) (deps := fun i => match i with | 1 => [0] | 2 => [1] | 4 => [3] | 5 => [4] | 7 => [6] | 8 => [2, 5, 7] | 10 => [9] | 11 => [10] | 12 => [8, 11] | 14 => [13, 12] | _ => [])
    (F := fun i v => match i with
      | 0 => v = .slice (some ⟨bb, oo, none⟩) L.length cc
      | 1 => v = .pointer (some ⟨bb, oo, none⟩)
      | 2 => v = .int .u8 (echoT k : Nat)
      | 3 => v = .slice (some ⟨bb, oo, none⟩) L.length cc
      | 4 => v = .pointer (some ⟨bb, oo + 1, none⟩)
      | 5 => v = .int .u8 0
      | 6 => v = .pointer (some ⟨w.heap.size, 0, none⟩)
      | 7 => v = .bool false
      | 8 => v = .int .i64 k
      | 9 => v = .slice (some ⟨bb, oo, none⟩) L.length cc
      | 10 => BytesAt W7 v d
      | _ => True)
    (G := fun D val V => Below W7.heap.size W7 V ∧ (D 11 = true → OwnB W7.heap.size V (val 11) d ∧ ∃ a n c, val 11 = .slice a n c) ∧ (D 12 = true → val 12 = .agg #[.int .i64 k, .int .u8 0, .int .u16 0, .int .u16 0, .int .u32 0, val 11]) ∧
      (D 13 = true → ∃ b, val 13 = .pointer (some ⟨b, 0, none⟩) ∧ W7.heap.size ≤ b ∧ V.heap[b]? = some (.cells (if D 14 then #[.int .i64 k, .int .u8 0, .int .u16 0, .int .u16 0, .int .u32 0, val 11] else zC) 100)))
    tryz_fit.mixed (by kernel_rfl) rfl ⟨⟨rfl, rfl, rfl, Nat.le_refl _, fun _ _ => rfl⟩, (fun h => by cases h), (fun h => by cases h), (fun h => by cases h)⟩ ?op ?fin
  case op =>
    intro i o ho D val ρ V hc hf hDi hdep hclos hG hval hbase
    have t0 : ρ (.tmp 0) = .slice (some ⟨bb, oo, none⟩) L.length cc := hbase 0 (by kernel_rfl)
    have t4 : ρ (.tmp 4) = .pointer (some ⟨w.heap.size, 0, none⟩) := hbase 4 (by kernel_rfl)
    have hBV := hG.1
    have c0 := q0 V hBV
    have c1 := q1 V hBV
    have c2 := q2 V hBV
    rcases i with _ | _ | _ | _ | _ | _ | _ | _ | _ | _ | _ | _ | _ | _ | _ | i
    · obtain rfl := Option.some.inj ho
      refine .inl ⟨_, V, ?_, rfl, hG⟩
      simp [execOp, go_sem, t0]
    · obtain rfl := Option.some.inj ho
      have a0 : ρ (.tmp 25) = _ := (hval 0 (hdep 0 (by simp)) _ 25 rfl rfl).1.trans (hval 0 (hdep 0 (by simp)) _ 25 rfl rfl).2
      refine .inl ⟨_, V, ?_, rfl, hG⟩
      simp [execOp, go_sem, a0, hc]
      intro he
      rw [he] at hL9; simp at hL9
    · obtain rfl := Option.some.inj ho
      have a0 : ρ (.tmp 26) = _ := (hval 1 (hdep 1 (by simp)) _ 26 rfl rfl).1.trans (hval 1 (hdep 1 (by simp)) _ 26 rfl rfl).2
      refine .inl ⟨_, V, ?_, rfl, hG⟩
      simp [execOp, go_sem, a0, c0]
    · obtain rfl := Option.some.inj ho
      refine .inl ⟨_, V, ?_, rfl, hG⟩
      simp [execOp, go_sem, t0]
    · obtain rfl := Option.some.inj ho
      have a0 : ρ (.tmp 28) = _ := (hval 3 (hdep 3 (by simp)) _ 28 rfl rfl).1.trans (hval 3 (hdep 3 (by simp)) _ 28 rfl rfl).2
      refine .inl ⟨_, V, ?_, rfl, hG⟩
      simp [execOp, go_sem, a0, hc]
      omega
    · obtain rfl := Option.some.inj ho
      have a0 : ρ (.tmp 29) = _ := (hval 4 (hdep 4 (by simp)) _ 29 rfl rfl).1.trans (hval 4 (hdep 4 (by simp)) _ 29 rfl rfl).2
      refine .inl ⟨_, V, ?_, rfl, hG⟩
      simp [execOp, go_sem, a0, c1]
    · obtain rfl := Option.some.inj ho
      refine .inl ⟨_, V, ?_, rfl, hG⟩
      simp [execOp, go_sem, t4]
    · obtain rfl := Option.some.inj ho
      have a0 : ρ (.tmp 31) = _ := (hval 6 (hdep 6 (by simp)) _ 31 rfl rfl).1.trans (hval 6 (hdep 6 (by simp)) _ 31 rfl rfl).2
      refine .inl ⟨_, V, ?_, rfl, hG⟩
      simp [execOp, go_sem, a0, c2]
    · obtain rfl := Option.some.inj ho
      have a0 : ρ (.tmp 27) = _ := (hval 2 (hdep 2 (by simp)) _ 27 rfl rfl).1.trans (hval 2 (hdep 2 (by simp)) _ 27 rfl rfl).2
      have a1 : ρ (.tmp 30) = _ := (hval 5 (hdep 5 (by simp)) _ 30 rfl rfl).1.trans (hval 5 (hdep 5 (by simp)) _ 30 rfl rfl).2
      have a2 : ρ (.tmp 32) = _ := (hval 7 (hdep 7 (by simp)) _ 32 rfl rfl).1.trans (hval 7 (hdep 7 (by simp)) _ 32 rfl rfl).2
      refine .inr (.inr ⟨192, #[.int .u8 (echoT k : Nat), .int .u8 0, .bool false], ?_, (kind k hk V).mono ?_⟩)
      · simp [execOp, go_sem, a0, a1, a2, hf]
      · rintro e V' ⟨rfl, rfl⟩
        exact ⟨_, rfl, rfl, hG⟩
    · obtain rfl := Option.some.inj ho
      refine .inl ⟨_, V, ?_, rfl, hG⟩
      simp [execOp, go_sem, t0]
    · obtain rfl := Option.some.inj ho
      have a0 : ρ (.tmp 34) = _ := (hval 9 (hdep 9 (by simp)) _ 34 rfl rfl).1.trans (hval 9 (hdep 9 (by simp)) _ 34 rfl rfl).2
      refine .inl ⟨.slice (if cc = 8 then some ⟨bb, oo, none⟩ else some ⟨bb, oo + 8, none⟩) (L.length - 8) (cc - 8), V, ?_, hSub, hG⟩
      simp [execOp, go_sem, a0, hc]
      intro h; omega
    · obtain rfl := Option.some.inj ho
      have a0 : BytesAt W7 (val 10) d ∧ ρ (.tmp 35) = val 10 := ⟨(hval 10 (hdep 10 (by simp)) _ 35 rfl rfl).2, (hval 10 (hdep 10 (by simp)) _ 35 rfl rfl).1⟩
      obtain ⟨g1, g2, g3, g4⟩ := hG
      replace hDi : D 11 = false := hDi
      have d12 : D 12 = false := by
        cases h4 : D 12 with
        | false => rfl
        | true => rw [hclos 12 h4 11 (by simp)] at hDi; cases hDi
      have d14 : D 14 = false := by
        cases h4 : D 14 with
        | false => rfl
        | true => rw [hclos 14 h4 12 (by simp)] at d12; cases d12
      refine .inr (.inr ⟨113, #[val 10], ?_, (clone (val 10) d V (a0.1.below g1) (by omega)).mono ?_⟩)
      · simp [execOp, go_sem, a0.2, hf]
      · rintro e V' ⟨v', rfl, ho', hb'⟩
        refine ⟨_, rfl, trivial, g1.trans (hb'.mono g1.size), fun _ => ⟨ho'.mono g1.size, ?_⟩, fun h => ?_, fun h => ?_⟩
        · rcases ho'.row.2 with ⟨h, _⟩ | ⟨g, cap, cur, h, _⟩
          · exact ⟨_, _, _, h⟩
          · exact ⟨_, _, _, h⟩
        · exact absurd h (by show ¬ D 12 = true; rw [d12]; simp)
        · obtain ⟨b, h1, h2, h3⟩ := g4 h
          rw [d14] at h3
          refine ⟨b, h1, h2, ?_⟩
          rw [hb'.block _ (heap_lt h3), show dn D 11 14 = false from d14]; exact h3
    · obtain rfl := Option.some.inj ho
      have a0 : ρ (.tmp 33) = _ := (hval 8 (hdep 8 (by simp)) _ 33 rfl rfl).1.trans (hval 8 (hdep 8 (by simp)) _ 33 rfl rfl).2
      have a1 : ρ (.tmp 36) = val 11 := (hval 11 (hdep 11 (by simp)) _ 36 rfl rfl).1
      obtain ⟨g1, g2, g3, g4⟩ := hG
      obtain ⟨g5, a, n, c, ha⟩ := g2 (hdep 11 (by simp))
      refine .inl ⟨.agg #[.int .i64 k, .int .u8 0, .int .u16 0, .int .u16 0, .int .u32 0, val 11], V, ?_, trivial, g1, g2, fun _ => rfl, g4⟩
      rw [ha]
      simp [execOp, go_sem, a0, a1, ha]
      trace_state
    · obtain rfl := Option.some.inj ho
      obtain ⟨g1, g2, g3, g4⟩ := hG
      replace hDi : D 13 = false := hDi
      have d14 : D 14 = false := by
        cases h4 : D 14 with
        | false => rfl
        | true => rw [hclos 14 h4 13 (by simp)] at hDi; cases hDi
      have hbA : Below V.heap.size V (V.alloc (.cells zC 100)) := (Below.refl _ _).alloc (Nat.le_refl _) _
      refine .inl ⟨.pointer (some ⟨V.heap.size, 0, none⟩), V.alloc (.cells zC 100), ?_, trivial, g1.trans (hbA.mono g1.size), fun h => ⟨(g2 h).1.below hbA, (g2 h).2⟩, g3, fun _ => ⟨V.heap.size, rfl, g1.size, ?_⟩⟩
      · simp [execOp, go_sem]
      · rw [show dn D 13 14 = false from d14]; exact heap_alloc_new V _
    · obtain rfl := Option.some.inj ho
      obtain ⟨g1, g2, g3, g4⟩ := hG
      replace hDi : D 14 = false := hDi
      have a1 : ρ (.tmp 37) = val 12 := (hval 12 (hdep 12 (by simp)) _ 37 rfl rfl).1
      have a2 : ρ (.tmp 8) = val 13 := (hval 13 (hdep 13 (by simp)) _ 8 rfl rfl).1
      have d12 := hdep 12 (by simp)
      have d11 := hclos 12 d12 11 (by simp)
      obtain ⟨g5, a, n, c, ha⟩ := g2 d11
      obtain ⟨b, h1, h2, h3⟩ := g4 (hdep 13 (by simp))
      rw [hDi] at h3
      have hst : (storeVar 100 ⟨b, 0, none⟩ (.agg #[.int .i64 k, .int .u8 0, .int .u16 0, .int .u16 0, .int .u32 0, val 11])).run Tryz.prog V = .ok () (V.setRow b #[.int .i64 k, .int .u8 0, .int .u16 0, .int .u16 0, .int .u32 0, val 11]) :=
        run_storeVar_row V b _ 100 _ _ h3 info6 rfl (by rw [ha]; simp [Value.oneCell'])
      refine .inr (.inl ⟨V.setRow b #[.int .i64 k, .int .u8 0, .int .u16 0, .int .u16 0, .int .u32 0, val 11], ?_, trivial, g1.trans (setRow_below _ _ _ _ h2), fun _ => ⟨g5.keptT h3 (by decide) _, a, n, c, ha⟩, g3, fun _ => ⟨b, h1, h2, ?_⟩⟩)
      · simp [execOp, Instr.storeAt, Instr.sureAddr, Result.andThen, a1, a2, h1, g3 d12, hst]
      · rw [show dn D 14 14 = true from rfl, if_pos rfl]; exact setRow_heap _ _ _ _ _ _ h3
    · simp at ho
  case fin =>
    intro a V D val hG hall hsz hdf hF hbase
    obtain ⟨g1, g2, g3, g4⟩ := hG
    obtain ⟨hown, va, vl, vc, hv⟩ := g2 (hall 11 (by decide))
    obtain ⟨b, h1, h2, h3⟩ := g4 (hall 13 (by decide))
    simp only [hall 14 (by decide), if_true] at h3
    rw [hv] at hown h3
    have e := Go.Rg.tmps_all a
    rw [hsz] at e
    simp only [List.range, List.range.loop, List.map_cons, List.map_nil] at e
    have b8 := ((hF 13 _ 8 rfl rfl).1).trans h1
    have b0 := hbase 0 (by kernel_rfl)
    have b4 := hbase 4 (by kernel_rfl)
    have b6 := hbase 6 (by kernel_rfl)
    have b7 := hbase 7 (by kernel_rfl)
    rw [b8, b0, b4, b6, b7] at e
    replace hdf : a.defers = [] := hdf
    have ea := Go.Rg.act_eq e hdf
    show K a V
    refine hK _ _ ?_
    rw [ea]
    clear ea e b8 b0 b4 b6 b7 hbase hF hall hK hdf g2 g3 g4 h1 hv
    generalize a.tmps.getD 1 undef = u1
    generalize a.tmps.getD 2 undef = u2
    generalize a.tmps.getD 3 undef = u3
    generalize a.tmps.getD 5 undef = u5
    generalize a.tmps.getD 9 undef = u9
    generalize a.tmps.getD 10 undef = u10
    generalize a.tmps.getD 11 undef = u11
    generalize a.tmps.getD 12 undef = u12
    generalize a.tmps.getD 13 undef = u13
    generalize a.tmps.getD 14 undef = u14
    generalize a.tmps.getD 15 undef = u15
    generalize a.tmps.getD 16 undef = u16
    generalize a.tmps.getD 17 undef = u17
    generalize a.tmps.getD 18 undef = u18
    generalize a.tmps.getD 19 undef = u19
    generalize a.tmps.getD 20 undef = u20
    generalize a.tmps.getD 21 undef = u21
    generalize a.tmps.getD 22 undef = u22
    generalize a.tmps.getD 23 undef = u23
    generalize a.tmps.getD 24 undef = u24
    generalize a.tmps.getD 25 undef = u25
    generalize a.tmps.getD 26 undef = u26
    generalize a.tmps.getD 27 undef = u27
    generalize a.tmps.getD 28 undef = u28
    generalize a.tmps.getD 29 undef = u29
    generalize a.tmps.getD 30 undef = u30
    generalize a.tmps.getD 31 undef = u31
    generalize a.tmps.getD 32 undef = u32
    generalize a.tmps.getD 33 undef = u33
    generalize a.tmps.getD 34 undef = u34
    generalize a.tmps.getD 35 undef = u35
    generalize a.tmps.getD 36 undef = u36
    generalize a.tmps.getD 37 undef = u37
    generalize a.tmps.getD 38 undef = u38
    generalize a.tmps.getD 39 undef = u39
    generalize a.tmps.getD 40 undef = u40
    generalize a.tmps.getD 41 undef = u41
    generalize a.tmps.getD 42 undef = u42
    generalize a.tmps.getD 43 undef = u43
    generalize a.tmps.getD 44 undef = u44
    generalize a.tmps.getD 45 undef = u45
    generalize a.tmps.getD 46 undef = u46
    generalize a.tmps.getD 47 undef = u47
    generalize a.tmps.getD 48 undef = u48
    generalize a.tmps.getD 49 undef = u49
    generalize a.tmps.getD 50 undef = u50
    generalize a.tmps.getD 51 undef = u51
    generalize a.tmps.getD 52 undef = u52
    generalize a.tmps.getD 53 undef = u53
    generalize a.tmps.getD 54 undef = u54
    generalize a.tmps.getD 55 undef = u55
    generalize a.tmps.getD 56 undef = u56
    generalize a.tmps.getD 57 undef = u57
    generalize a.tmps.getD 58 undef = u58
    generalize a.tmps.getD 59 undef = u59
    generalize a.tmps.getD 60 undef = u60
    generalize a.tmps.getD 61 undef = u61
    generalize a.tmps.getD 62 undef = u62
    generalize a.tmps.getD 63 undef = u63
    generalize a.tmps.getD 64 undef = u64
    generalize a.tmps.getD 65 undef = u65
    generalize a.tmps.getD 66 undef = u66
    generalize a.tmps.getD 67 undef = u67
    generalize a.tmps.getD 68 undef = u68
    generalize a.tmps.getD 69 undef = u69
    generalize a.tmps.getD 70 undef = u70
    generalize a.tmps.getD 71 undef = u71
    clear hsz
    have gT : V.heap[w.heap.size + 1 + 1]? = some (.cells zC 100) := by rw [g1.block _ (by omega)]; exact hT7
    have gS := q2 V g1
    have gB := KB7.out.below g1
    have c0 : V.cell? ⟨b, 0, none⟩ = some (.int .i64 k) := by rw [cell_of_row _ _ _ _ _ _ h3]; rfl
    have XbV := Xb7.trans (g1.mono (by omega))
    have hblt : b < V.heap.size := heap_lt h3
    have hVs := g1.size
    have hbb : bb < W7.heap.size := World.block_lt_of_cell? W7 _ (q0 W7 (Below.refl _ _))
    clear q0 q1 q2 hT7 hSub KB KB7 HCell Xb7 Xb hb7 h
    go_upto_region 8 with (first
      | (go_at_call 159; refine (isEcho k hk V).mono ?_; rintro e W8 ⟨rfl, hW8⟩; rw [hW8]; clear hW8))
    have hG4 : ∀ V1, BytesAt V1 (.slice (some ⟨bb, oo, none⟩) L.length cc) L → BytesAt V1 (.slice (some ⟨bb, oo + 4, none⟩) 2 (cc - 4)) [id / 256, id % 256] := fun V1 h => by
      have := h.sub 4 2 (cc - 4) (by omega) (by omega) (by omega)
      rw [HLL.out] at this; exact this
    have hG6 : ∀ V1, BytesAt V1 (.slice (some ⟨bb, oo, none⟩) L.length cc) L → BytesAt V1 (.slice (some ⟨bb, oo + 6, none⟩) 2 (cc - 6)) [sq / 256, sq % 256] := fun V1 h => by
      have := h.sub 6 2 (cc - 6) (by omega) (by omega) (by omega)
      rw [HLL.out] at this; exact this
    have hbe : ∀ x : Nat, beN [x / 256, x % 256] = x := fun x => by simp [beN]; omega
    have hwi : IntKind.u16.wrap (id : Int) = (id : Int) := wrap_u16 _ (by omega) (by omega)
    have hws : IntKind.u16.wrap (sq : Int) = (sq : Int) := wrap_u16 _ (by omega) (by omega)
    rename_i K hK
    refine Go.Rg.region_inv (nt := 72) (deps := fun i => match i with | 1 => [0] | 2 => [1] | 3 => [2] | 5 => [4] | 6 => [5] | 7 => [6] | 9 => [8, 3] | 11 => [10, 7, 9] | _ => [])
      (F := fun i v => match i with
        | 0 => v = .slice (some ⟨bb, oo, none⟩) L.length cc
        | 1 => v = .slice (some ⟨bb, oo + 4, none⟩) 2 (cc - 4)
        | 2 => v = .int .u64 id
        | 3 => v = .int .u16 id
        | 4 => v = .slice (some ⟨bb, oo, none⟩) L.length cc
        | 5 => v = .slice (some ⟨bb, oo + 6, none⟩) 2 (cc - 6)
        | 6 => v = .int .u64 sq
        | 7 => v = .int .u16 sq
        | 8 => v = .pointer (some ⟨b, 2, none⟩)
        | 10 => v = .pointer (some ⟨b, 3, none⟩)
        | _ => True)
      (G := fun D _ V1 => V1.heap[b]? = some (.cells #[.int .i64 k, .int .u8 0, .int .u16 (if D 9 then id else 0 : Nat), .int .u16 (if D 11 then sq else 0 : Nat), .int .u32 0, .slice va vl vc] 100) ∧ V1.heap[w.heap.size + 1 + 1]? = some (.cells zC 100) ∧ OwnB W7.heap.size V1 (.slice va vl vc) d ∧ Below w.heap.size w V1 ∧
        V1.cell? ⟨w.heap.size, 0, none⟩ = some (.bool false) ∧ b < V1.heap.size ∧ BytesAt V1 (.slice (some ⟨bb, oo, none⟩) L.length cc) L)
      tryz_fit.mixed (by kernel_rfl) rfl ⟨h3, gT, hown.below ⟨rfl, rfl, rfl, Nat.le_refl _, fun _ _ => rfl⟩, XbV.trans ⟨rfl, rfl, rfl, Nat.le_refl _, fun _ _ => rfl⟩, gS, hblt, gB.below ⟨rfl, rfl, rfl, Nat.le_refl _, fun _ _ => rfl⟩⟩ ?op ?fin
    case op =>
      intro i o ho D val ρ V1 hc hf hDi hdep hclos hG hval hbase
      have t0 : ρ (.tmp 0) = .slice (some ⟨bb, oo, none⟩) L.length cc := hbase 0 (by kernel_rfl)
      have t8 : ρ (.tmp 8) = .pointer (some ⟨b, 0, none⟩) := hbase 8 (by kernel_rfl)
      have hBy := hG.2.2.2.2.2.2
      rcases i with _ | _ | _ | _ | _ | _ | _ | _ | _ | _ | _ | _ | i
      · obtain rfl := Option.some.inj ho
        refine .inl ⟨_, V1, ?_, rfl, hG⟩
        simp [execOp, go_sem, t0]
      · obtain rfl := Option.some.inj ho
        have a0 : ρ (.tmp 47) = _ := (hval 0 (hdep 0 (by simp)) _ 47 rfl rfl).1.trans (hval 0 (hdep 0 (by simp)) _ 47 rfl rfl).2
        refine .inl ⟨_, V1, ?_, rfl, hG⟩
        simp [execOp, go_sem, a0, hc]
        rw [if_pos (by omega), if_neg (by omega)]
      · obtain rfl := Option.some.inj ho
        have a0 : ρ (.tmp 48) = _ := (hval 1 (hdep 1 (by simp)) _ 48 rfl rfl).1.trans (hval 1 (hdep 1 (by simp)) _ 48 rfl rfl).2
        refine .inr (.inr ⟨174, #[.slice (some ⟨bb, oo + 4, none⟩) 2 (cc - 4)], ?_, (get _ _ V1 (hG4 V1 hBy) (by simp) (by simp)).mono ?_⟩)
        · simp [execOp, go_sem, a0, hf]
        · rintro e V' ⟨rfl, rfl⟩
          exact ⟨_, rfl, (by rw [hbe]; rfl), hG⟩
      · obtain rfl := Option.some.inj ho
        have a0 : ρ (.tmp 49) = _ := (hval 2 (hdep 2 (by simp)) _ 49 rfl rfl).1.trans (hval 2 (hdep 2 (by simp)) _ 49 rfl rfl).2
        refine .inl ⟨_, V1, ?_, rfl, hG⟩
        simp [execOp, go_sem, a0]
        exact hwi
      · obtain rfl := Option.some.inj ho
        refine .inl ⟨_, V1, ?_, rfl, hG⟩
        simp [execOp, go_sem, t0]
      · obtain rfl := Option.some.inj ho
        have a0 : ρ (.tmp 51) = _ := (hval 4 (hdep 4 (by simp)) _ 51 rfl rfl).1.trans (hval 4 (hdep 4 (by simp)) _ 51 rfl rfl).2
        refine .inl ⟨_, V1, ?_, rfl, hG⟩
        simp [execOp, go_sem, a0, hc]
        rw [if_pos (by omega), if_neg (by omega)]
      · obtain rfl := Option.some.inj ho
        have a0 : ρ (.tmp 52) = _ := (hval 5 (hdep 5 (by simp)) _ 52 rfl rfl).1.trans (hval 5 (hdep 5 (by simp)) _ 52 rfl rfl).2
        refine .inr (.inr ⟨174, #[.slice (some ⟨bb, oo + 6, none⟩) 2 (cc - 6)], ?_, (get _ _ V1 (hG6 V1 hBy) (by simp) (by simp)).mono ?_⟩)
        · simp [execOp, go_sem, a0, hf]
        · rintro e V' ⟨rfl, rfl⟩
          exact ⟨_, rfl, (by rw [hbe]; rfl), hG⟩
      · obtain rfl := Option.some.inj ho
        have a0 : ρ (.tmp 53) = _ := (hval 6 (hdep 6 (by simp)) _ 53 rfl rfl).1.trans (hval 6 (hdep 6 (by simp)) _ 53 rfl rfl).2
        refine .inl ⟨_, V1, ?_, rfl, hG⟩
        simp [execOp, go_sem, a0]
        exact hws
      · obtain rfl := Option.some.inj ho
        refine .inl ⟨_, V1, ?_, rfl, hG⟩
        simp [execOp, go_sem, t8]
      · obtain rfl := Option.some.inj ho
        have d11 : D 11 = false := by
          cases h4 : D 11 with
          | false => rfl
          | true => exact absurd (hclos 11 h4 9 (by simp)) (by rw [show D 9 = false from hDi]; simp)
        replace hDi : D 9 = false := hDi
        have a0 : ρ (.tmp 55) = _ := (hval 8 (hdep 8 (by simp)) _ 55 rfl rfl).1.trans (hval 8 (hdep 8 (by simp)) _ 55 rfl rfl).2
        have a1 : ρ (.tmp 50) = _ := (hval 3 (hdep 3 (by simp)) _ 50 rfl rfl).1.trans (hval 3 (hdep 3 (by simp)) _ 50 rfl rfl).2
        obtain ⟨j1, j2, j3, j4, j5, j6, j7⟩ := hG
        simp only [hDi, d11, Bool.false_eq_true, if_false, if_true] at j1
        have f1 : V1.frozen? ⟨b, 2, none⟩ = false := by simp [World.frozen?, j1]
        have f2 : V1.cell? ⟨b, 2, none⟩ = some (.int .u16 (0 : Nat)) := by rw [cell_of_row _ _ _ _ _ _ j1]; rfl
        have s1 := setCell_at j1 2 (.int .u16 id)
        have hg := grown_setCell V1 b 2 (.int .u16 id)
        have j3' := j3.keptT j1 (by decide) ((#[.int .i64 k, .int .u8 0, .int .u16 (0 : Nat), .int .u16 (0 : Nat), .int .u32 0, .slice va vl vc] : Array Value).setIfInBounds 2 (.int .u16 id))
        rw [← setCell_eq_setRow V1 b 2 _ _ (0, 0) (.int .u16 id) j1] at j3'
        refine .inr (.inl ⟨V1.setCell ⟨b, 2, none⟩ (.int .u16 id), ?_, trivial, ?_, by rw [hg.block (w.heap.size + 1 + 1) (by omega) (by intro e; have := Option.some.inj e; omega)]; exact j2, j3', j4.setCell (show w.heap.size ≤ b by omega) _, ?_, Nat.lt_of_lt_of_le j6 hg.size, j7.kept hg (by intro b' o' n' c' e h; cases e; have := Option.some.inj h; omega)⟩)
        · simp [execOp, go_sem, a0, a1, f1, f2]
        · have e9 : dn D 9 9 = true := rfl
          have e11 : dn D 9 11 = false := d11
          simp only [e9, e11, Bool.false_eq_true, if_false, if_true]
          exact s1
        · have hq := World.block_lt_of_cell? V1 _ j5
          have := hg.block w.heap.size hq (by intro e; have := Option.some.inj e; omega)
          unfold World.cell? at j5 ⊢
          rw [this]; exact j5
      · obtain rfl := Option.some.inj ho
        refine .inl ⟨_, V1, ?_, rfl, hG⟩
        simp [execOp, go_sem, t8]
      · obtain rfl := Option.some.inj ho
        have d9 := hdep 9 (by simp)
        replace hDi : D 11 = false := hDi
        have a0 : ρ (.tmp 56) = _ := (hval 10 (hdep 10 (by simp)) _ 56 rfl rfl).1.trans (hval 10 (hdep 10 (by simp)) _ 56 rfl rfl).2
        have a1 : ρ (.tmp 54) = _ := (hval 7 (hdep 7 (by simp)) _ 54 rfl rfl).1.trans (hval 7 (hdep 7 (by simp)) _ 54 rfl rfl).2
        obtain ⟨j1, j2, j3, j4, j5, j6, j7⟩ := hG
        simp only [hDi, d9, Bool.false_eq_true, if_false, if_true] at j1
        have f1 : V1.frozen? ⟨b, 3, none⟩ = false := by simp [World.frozen?, j1]
        have f2 : V1.cell? ⟨b, 3, none⟩ = some (.int .u16 (0 : Nat)) := by rw [cell_of_row _ _ _ _ _ _ j1]; rfl
        have s1 := setCell_at j1 3 (.int .u16 sq)
        have hg := grown_setCell V1 b 3 (.int .u16 sq)
        have j3' := j3.keptT j1 (by decide) ((#[.int .i64 k, .int .u8 0, .int .u16 (id : Nat), .int .u16 (0 : Nat), .int .u32 0, .slice va vl vc] : Array Value).setIfInBounds 3 (.int .u16 sq))
        rw [← setCell_eq_setRow V1 b 3 _ _ (0, 0) (.int .u16 sq) j1] at j3'
        refine .inr (.inl ⟨V1.setCell ⟨b, 3, none⟩ (.int .u16 sq), ?_, trivial, ?_, by rw [hg.block (w.heap.size + 1 + 1) (by omega) (by intro e; have := Option.some.inj e; omega)]; exact j2, j3', j4.setCell (show w.heap.size ≤ b by omega) _, ?_, Nat.lt_of_lt_of_le j6 hg.size, j7.kept hg (by intro b' o' n' c' e h; cases e; have := Option.some.inj h; omega)⟩)
        · simp [execOp, go_sem, a0, a1, f1, f2]
        · have e9 : dn D 11 9 = true := d9
          have e11 : dn D 11 11 = true := rfl
          simp only [e9, e11, if_true]
          exact s1
        · have hq := World.block_lt_of_cell? V1 _ j5
          have := hg.block w.heap.size hq (by intro e; have := Option.some.inj e; omega)
          unfold World.cell? at j5 ⊢
          rw [this]; exact j5
      · simp at ho
    case fin =>
      intro a V1 D val hG hall hsz hdf hF hbase
      obtain ⟨j1, j2, j3, j4, j5, j6, j7⟩ := hG
      simp only [hall 9 (by decide), hall 11 (by decide), if_true] at j1
      have e := Go.Rg.tmps_all a
      rw [hsz] at e
      simp only [List.range, List.range.loop, List.map_cons, List.map_nil] at e
      have b0 := hbase 0 (by kernel_rfl)
      have b4 := hbase 4 (by kernel_rfl)
      have b6 := hbase 6 (by kernel_rfl)
      have b7 := hbase 7 (by kernel_rfl)
      have b8 := hbase 8 (by kernel_rfl)
      rw [b0, b4, b6, b7, b8] at e
      replace hdf : a.defers = [] := hdf
      have ea := Go.Rg.act_eq e hdf
      show K a V1
      refine hK _ _ ?_
      rw [ea]
      clear ea e b0 b4 b6 b7 b8 hbase hF hall hK hdf
      generalize a.tmps.getD 1 undef = u1
      generalize a.tmps.getD 2 undef = u2
      generalize a.tmps.getD 3 undef = u3
      generalize a.tmps.getD 5 undef = u5
      generalize a.tmps.getD 9 undef = u9
      generalize a.tmps.getD 10 undef = u10
      generalize a.tmps.getD 11 undef = u11
      generalize a.tmps.getD 12 undef = u12
      generalize a.tmps.getD 13 undef = u13
      generalize a.tmps.getD 14 undef = u14
      generalize a.tmps.getD 15 undef = u15
      generalize a.tmps.getD 16 undef = u16
      generalize a.tmps.getD 17 undef = u17
      generalize a.tmps.getD 18 undef = u18
      generalize a.tmps.getD 19 undef = u19
      generalize a.tmps.getD 20 undef = u20
      generalize a.tmps.getD 21 undef = u21
      generalize a.tmps.getD 22 undef = u22
      generalize a.tmps.getD 23 undef = u23
      generalize a.tmps.getD 24 undef = u24
      generalize a.tmps.getD 25 undef = u25
      generalize a.tmps.getD 26 undef = u26
      generalize a.tmps.getD 27 undef = u27
      generalize a.tmps.getD 28 undef = u28
      generalize a.tmps.getD 29 undef = u29
      generalize a.tmps.getD 30 undef = u30
      generalize a.tmps.getD 31 undef = u31
      generalize a.tmps.getD 32 undef = u32
      generalize a.tmps.getD 33 undef = u33
      generalize a.tmps.getD 34 undef = u34
      generalize a.tmps.getD 35 undef = u35
      generalize a.tmps.getD 36 undef = u36
      generalize a.tmps.getD 37 undef = u37
      generalize a.tmps.getD 38 undef = u38
      generalize a.tmps.getD 39 undef = u39
      generalize a.tmps.getD 40 undef = u40
      generalize a.tmps.getD 41 undef = u41
      generalize a.tmps.getD 42 undef = u42
      generalize a.tmps.getD 43 undef = u43
      generalize a.tmps.getD 44 undef = u44
      generalize a.tmps.getD 45 undef = u45
      generalize a.tmps.getD 46 undef = u46
      generalize a.tmps.getD 47 undef = u47
      generalize a.tmps.getD 48 undef = u48
      generalize a.tmps.getD 49 undef = u49
      generalize a.tmps.getD 50 undef = u50
      generalize a.tmps.getD 51 undef = u51
      generalize a.tmps.getD 52 undef = u52
      generalize a.tmps.getD 53 undef = u53
      generalize a.tmps.getD 54 undef = u54
      generalize a.tmps.getD 55 undef = u55
      generalize a.tmps.getD 56 undef = u56
      generalize a.tmps.getD 57 undef = u57
      generalize a.tmps.getD 58 undef = u58
      generalize a.tmps.getD 59 undef = u59
      generalize a.tmps.getD 60 undef = u60
      generalize a.tmps.getD 61 undef = u61
      generalize a.tmps.getD 62 undef = u62
      generalize a.tmps.getD 63 undef = u63
      generalize a.tmps.getD 64 undef = u64
      generalize a.tmps.getD 65 undef = u65
      generalize a.tmps.getD 66 undef = u66
      generalize a.tmps.getD 67 undef = u67
      generalize a.tmps.getD 68 undef = u68
      generalize a.tmps.getD 69 undef = u69
      generalize a.tmps.getD 70 undef = u70
      generalize a.tmps.getD 71 undef = u71
      clear hsz h3 gT gS gB c0 XbV hblt hown
      have hLd : (loadVar 100 ⟨b, 0, none⟩).run Tryz.prog V1 = .ok (.agg #[.int .i64 k, .int .u8 0, .int .u16 id, .int .u16 sq, .int .u32 0, .slice va vl vc]) V1 :=
        run_loadVar_row _ _ 100 100 _ (0, 0) _ j1 Tryz.underlying100 rfl info6
      have hMay := may k id sq hk (.slice va vl vc) d V1 j3.at hl
      unfold echoV at hMay
      go_upto_region 13 with (first
        | (refine wpList_load_agg rfl 100 _ rfl _ rfl #[.int .i64 k, .int .u8 0, .int .u16 id, .int .u16 sq, .int .u32 0, .slice va vl vc] hLd ?_)
        | (go_at_call 87; refine hMay.mono ?_; rintro e W9 ⟨rfl, hb9⟩))
      have l1 : W9.heap[b]? = some (.cells #[.int .i64 k, .int .u8 0, .int .u16 id, .int .u16 sq, .int .u32 0, .slice va vl vc] 100) := by rw [hb9.block _ (by omega)]; exact j1
      have l2 : W9.heap[w.heap.size + 1 + 1]? = some (.cells zC 100) := by rw [hb9.block _ (by omega)]; exact j2
      have hLd9 : (loadVar 100 ⟨b, 0, none⟩).run Tryz.prog W9 = .ok (.agg #[.int .i64 k, .int .u8 0, .int .u16 id, .int .u16 sq, .int .u32 0, .slice va vl vc]) W9 :=
        run_loadVar_row _ _ 100 100 _ (0, 0) _ l1 Tryz.underlying100 rfl info6
      have hst : (storeVar 100 ⟨w.heap.size + 1 + 1, 0, none⟩ (.agg #[.int .i64 k, .int .u8 0, .int .u16 id, .int .u16 sq, .int .u32 0, .slice va vl vc])).run Tryz.prog W9 = .ok () (W9.setRow (w.heap.size + 1 + 1) #[.int .i64 k, .int .u8 0, .int .u16 id, .int .u16 sq, .int .u32 0, .slice va vl vc]) :=
        run_storeVar_row W9 (w.heap.size + 1 + 1) _ 100 _ _ l2 info6 rfl (by simp [Value.oneCell'])
      have hl2 : (loadVar 100 ⟨w.heap.size + 1 + 1, 0, none⟩).run Tryz.prog (W9.setRow (w.heap.size + 1 + 1) #[.int .i64 k, .int .u8 0, .int .u16 id, .int .u16 sq, .int .u32 0, .slice va vl vc]) = .ok (.agg #[.int .i64 k, .int .u8 0, .int .u16 id, .int .u16 sq, .int .u32 0, .slice va vl vc]) (W9.setRow (w.heap.size + 1 + 1) #[.int .i64 k, .int .u8 0, .int .u16 id, .int .u16 sq, .int .u32 0, .slice va vl vc]) :=
        run_loadVar_row _ _ 100 100 _ (0, 0) _ (setRow_heap _ _ _ _ _ _ l2) Tryz.underlying100 rfl info6
      have k7 := (j3.below hb9).keptT l2 (by decide) #[.int .i64 k, .int .u8 0, .int .u16 id, .int .u16 sq, .int .u32 0, .slice va vl vc]
      have k8 : Below w.heap.size w (W9.setRow (w.heap.size + 1 + 1) #[.int .i64 k, .int .u8 0, .int .u16 id, .int .u16 sq, .int .u32 0, .slice va vl vc]) := (j4.trans (hb9.mono (by omega))).trans (setRow_below _ _ _ _ (by omega))
      go_wp2_with (first
        | (refine wpList_load_agg rfl 100 _ rfl _ rfl #[.int .i64 k, .int .u8 0, .int .u16 id, .int .u16 sq, .int .u32 0, .slice va vl vc] hLd9 ?_)
        | (refine wpList_store_agg rfl 100 _ _ rfl ⟨w.heap.size + 1 + 1, 0, none⟩ rfl (.agg #[.int .i64 k, .int .u8 0, .int .u16 id, .int .u16 sq, .int .u32 0, .slice va vl vc]) rfl (W9.setRow (w.heap.size + 1 + 1) #[.int .i64 k, .int .u8 0, .int .u16 id, .int .u16 sq, .int .u32 0, .slice va vl vc]) hst ?_))
      exact bodyPost_ret (results_cell_tmp (p := ⟨w.heap.size + 1 + 1, 0, none⟩) (c := #[.int .i64 k, .int .u8 0, .int .u16 id, .int .u16 sq, .int .u32 0, .slice va vl vc]) (v := .int .i64 0) Tryz.results116 (by simp) hl2 (by simp)) rfl ⟨_, rfl, k7.mono (by omega), k8⟩
end Go.Ch
