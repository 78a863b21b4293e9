/- NetChances: ipfour.Lay. -/
import Derived.Test.YtecihapafnpgbaaGreatChH
import Derived.StillTailTactics
import Derived.Test.YtecihapafnpgbaaGreatAmR
set_option linter.unusedSimpArgs false
set_option linter.unusedVariables false
set_option linter.constructorNameAsVariable false
set_option linter.unusedSectionVars false
namespace Go.Ch
open Go Go.Am Go.Hm Go.Proofs Go.RowKit
set_option maxRecDepth 100000
theorem words3 (W : World) (x y z : Nat) (hx : x < 65536) (hy : y < 65536) (hz : z < 65536) : WordsAt (W.alloc (.cells #[.int .u64 x, .int .u64 y, .int .u64 z] 136)) (.slice (some ⟨W.heap.size, 0, none⟩) 3 3) [x, y, z] := by
  refine ⟨by simp [hx, hy, hz], W.heap.size, 0, 3, rfl, fun i u hu => ?_⟩
  have := (BoxAt.new W #[.int .u64 x, .int .u64 y, .int .u64 z] 136).2
  rcases i with _ | _ | _ | i
  · obtain rfl : x = u := by simpa using hu
    exact this 0 _ rfl
  · obtain rfl : y = u := by simpa using hu
    exact this 1 _ rfl
  · obtain rfl : z = u := by simpa using hu
    exact this 2 _ rfl
  · simp at hu
theorem lit69 (W : World) : BytesAt (W.alloc (.cells #[.int .u8 69, .int .u8 0] 5)) (.slice (some ⟨W.heap.size, 0, none⟩) 2 2) [69, 0] :=
  (OwnB.lit W 0 [69, 0] (Nat.zero_le _) (by simp) (by simp)).at
theorem parts1 (W : World) (v : Value) (l : List Nat) (t : TypeId) (h : BytesAt W v l) (hl : l.length ≤ 2000) :
    Calls Tryz.prog 90 #[.slice (some ⟨W.heap.size, 0, none⟩) 1 1] (W.alloc (.cells #[v] t)) fun e w' => e = .returned (.int .u16 (checkN (wsum l) : Nat)) ∧ Below W.heap.size W w' := by
  have hb : Below W.heap.size W (W.alloc (.cells #[v] t)) := (Below.refl _ _).alloc (Nat.le_refl _) _
  have hB := (BoxAt.new W #[v] t).2
  have := check (.slice (some ⟨W.heap.size, 0, none⟩) 1 1) [(v, l)] _ (by simp) (by simpa using hl) ⟨W.heap.size, 0, 1, rfl, fun i z hz => by
    rcases i with _ | i
    · obtain rfl := Option.some.inj hz
      exact ⟨hB 0 _ rfl, h.below hb⟩
    · simp at hz⟩
  refine this.mono ?_
  rintro e w' ⟨rfl, hb'⟩
  exact ⟨by simp [sumTo, wsum], hb.trans (hb'.mono (by simp))⟩
theorem BoxAt.loadPk {W : World} {b : Nat} {A B : Array Value} (hA : A.size = 17) (hB : B.size = 17) {proto hops id : Nat} {mk : Mk} {ld : Value} (h : BoxAt W b (pkC A B proto hops id mk ld)) : (loadVar 55 ⟨b, 0, none⟩).run Tryz.prog W = .ok (.agg (pkC A B proto hops id mk ld)) W :=
  run_loadVar_agg (fun w => Tryz.isAgg55 w) (fun w => Tryz.sizeOf55 w) _ _ (by simp [pkC, hA, hB]) fun j v hj => by
    rw [Addr.add_lit, Nat.zero_add]; exact h.2 j v hj
theorem BoxAt.pkH {W : World} {b p q r s p' q' r' s' : Nat} {proto hops id : Nat} {mk : Mk} {ld : Value} (h : BoxAt W b (pkC (adC p q r s) (adC p' q' r' s') proto hops id mk ld)) :
    (∀ j u, (adC p q r s)[j]? = some u → W.cell? ⟨b, j, none⟩ = some u) ∧ (∀ j u, (adC p' q' r' s')[j]? = some u → W.cell? ⟨b, 17 + j, none⟩ = some u) := by
  refine ⟨fun j u hu => ?_, fun j u hu => ?_⟩
  · have hlt := (Array.getElem?_eq_some_iff.1 hu).1
    exact h.2 j u (by unfold pkC; rw [Array.append_assoc, Array.getElem?_append_left hlt]; exact hu)
  · have hlt : j < 17 := (Array.getElem?_eq_some_iff.1 hu).1
    refine h.2 (17 + j) u ?_
    unfold pkC
    rw [Array.append_assoc, Array.getElem?_append_right (by simp), show (adC p q r s).size = 17 from rfl, Nat.add_sub_cancel_left, Array.getElem?_append_left hlt]
    exact hu
theorem BoxAt.pk41 {W : World} {b p q r s p' q' r' s' : Nat} {proto hops id : Nat} {mk : Mk} {ld : Value} (h : BoxAt W b (pkC (adC p q r s) (adC p' q' r' s') proto hops id mk ld)) :
    W.cell? ⟨b, 0, none⟩ = some (.bool false) ∧ W.cell? ⟨b, 1, none⟩ = some (.int .u8 p) ∧ W.cell? ⟨b, 2, none⟩ = some (.int .u8 q) ∧ W.cell? ⟨b, 3, none⟩ = some (.int .u8 r) ∧ W.cell? ⟨b, 4, none⟩ = some (.int .u8 s) ∧ W.cell? ⟨b, 5, none⟩ = some (.int .u8 0) ∧ W.cell? ⟨b, 6, none⟩ = some (.int .u8 0) ∧ W.cell? ⟨b, 7, none⟩ = some (.int .u8 0) ∧ W.cell? ⟨b, 8, none⟩ = some (.int .u8 0) ∧ W.cell? ⟨b, 9, none⟩ = some (.int .u8 0) ∧ W.cell? ⟨b, 10, none⟩ = some (.int .u8 0) ∧ W.cell? ⟨b, 11, none⟩ = some (.int .u8 0) ∧ W.cell? ⟨b, 12, none⟩ = some (.int .u8 0) ∧ W.cell? ⟨b, 13, none⟩ = some (.int .u8 0) ∧ W.cell? ⟨b, 14, none⟩ = some (.int .u8 0) ∧ W.cell? ⟨b, 15, none⟩ = some (.int .u8 0) ∧ W.cell? ⟨b, 16, none⟩ = some (.int .u8 0) ∧ W.cell? ⟨b, 17, none⟩ = some (.bool false) ∧ W.cell? ⟨b, 18, none⟩ = some (.int .u8 p') ∧ W.cell? ⟨b, 19, none⟩ = some (.int .u8 q') ∧ W.cell? ⟨b, 20, none⟩ = some (.int .u8 r') ∧ W.cell? ⟨b, 21, none⟩ = some (.int .u8 s') ∧ W.cell? ⟨b, 22, none⟩ = some (.int .u8 0) ∧ W.cell? ⟨b, 23, none⟩ = some (.int .u8 0) ∧ W.cell? ⟨b, 24, none⟩ = some (.int .u8 0) ∧ W.cell? ⟨b, 25, none⟩ = some (.int .u8 0) ∧ W.cell? ⟨b, 26, none⟩ = some (.int .u8 0) ∧ W.cell? ⟨b, 27, none⟩ = some (.int .u8 0) ∧ W.cell? ⟨b, 28, none⟩ = some (.int .u8 0) ∧ W.cell? ⟨b, 29, none⟩ = some (.int .u8 0) ∧ W.cell? ⟨b, 30, none⟩ = some (.int .u8 0) ∧ W.cell? ⟨b, 31, none⟩ = some (.int .u8 0) ∧ W.cell? ⟨b, 32, none⟩ = some (.int .u8 0) ∧ W.cell? ⟨b, 33, none⟩ = some (.int .u8 0) ∧ W.cell? ⟨b, 34, none⟩ = some (.int .u8 proto) ∧ W.cell? ⟨b, 35, none⟩ = some (.int .u8 hops) ∧ W.cell? ⟨b, 36, none⟩ = some (.int .u32 id) ∧ W.cell? ⟨b, 37, none⟩ = some (.bool mk.wh) ∧ W.cell? ⟨b, 38, none⟩ = some (.bool mk.mo) ∧ W.cell? ⟨b, 39, none⟩ = some (.int .i64 mk.off) ∧ W.cell? ⟨b, 40, none⟩ = some (ld) := by
  obtain ⟨H, K⟩ := h.pkH
  obtain ⟨x0, x1, x2, x3, x4, x5, x6⟩ := h.pk rfl rfl
  exact ⟨H 0 _ rfl, H 1 _ rfl, H 2 _ rfl, H 3 _ rfl, H 4 _ rfl, H 5 _ rfl, H 6 _ rfl, H 7 _ rfl, H 8 _ rfl, H 9 _ rfl, H 10 _ rfl, H 11 _ rfl, H 12 _ rfl, H 13 _ rfl, H 14 _ rfl, H 15 _ rfl, H 16 _ rfl, K 0 _ rfl, K 1 _ rfl, K 2 _ rfl, K 3 _ rfl, K 4 _ rfl, K 5 _ rfl, K 6 _ rfl, K 7 _ rfl, K 8 _ rfl, K 9 _ rfl, K 10 _ rfl, K 11 _ rfl, K 12 _ rfl, K 13 _ rfl, K 14 _ rfl, K 15 _ rfl, K 16 _ rfl, x0, x1, x2, x3, x4, x5, x6⟩
theorem pkC_lit (p q r s p' q' r' s' proto hops id : Nat) (mk : Mk) (ld : Value) : pkC (adC p q r s) (adC p' q' r' s') proto hops id mk ld = #[.bool false, .int .u8 p, .int .u8 q, .int .u8 r, .int .u8 s, .int .u8 0, .int .u8 0, .int .u8 0, .int .u8 0, .int .u8 0, .int .u8 0, .int .u8 0, .int .u8 0, .int .u8 0, .int .u8 0, .int .u8 0, .int .u8 0, .bool false, .int .u8 p', .int .u8 q', .int .u8 r', .int .u8 s', .int .u8 0, .int .u8 0, .int .u8 0, .int .u8 0, .int .u8 0, .int .u8 0, .int .u8 0, .int .u8 0, .int .u8 0, .int .u8 0, .int .u8 0, .int .u8 0, .int .u8 proto, .int .u8 hops, .int .u32 id, .bool mk.wh, .bool mk.mo, .int .i64 mk.off, ld] := by
  simp [pkC]
theorem wrap_i64 (n : Int) (h0 : 0 ≤ n) (h1 : n < 9223372036854775808) : IntKind.i64.wrap n = n := by
  have h2 : n % (2 ^ IntKind.i64.bits : Int) = n := Int.emod_eq_of_lt h0 (by show n < 2 ^ 64; omega)
  unfold IntKind.wrap
  simp only [h2]
  have : ¬ (2 : Int) ^ (IntKind.i64.bits - 1) ≤ n := by show ¬ (2 : Int) ^ 63 ≤ n; omega
  simp [this]
theorem wp_val {P : Program} {o : Oper} {a : Go.Act} {w w' : World} {K : Go.Act → World → Prop} {Q : Exit → Go.Act → World → Prop} {v : Value} (h : (execOp a.eval o).run P w = .ok (.value v) w') (hk : K (a.put o.dst v) w') : o.wp P a w K Q := by
  unfold Oper.wp; rw [h]; exact hk
theorem wp_fn {P : Program} {o : Oper} {a : Go.Act} {w : World} {K : Go.Act → World → Prop} {Q : Exit → Go.Act → World → Prop} {f : FuncId} {args : Array Value} {R : Ending → World → Prop} (h : (execOp a.eval o).run P w = .ok (.enter f args) w)
    (hc : Calls P f args w R) (hk : ∀ e w', R e w' → ∃ v, e = .returned v ∧ K (a.put o.dst v) w') : o.wp P a w K Q := by
  unfold Oper.wp; rw [h]
  exact hc.mono fun e w' he => by obtain ⟨v, rfl, hv⟩ := hk e w' he; exact hv
set_option maxHeartbeats 1000000 in
theorem ipLay (p q r s p' q' r' s' proto hops id : Nat) (mk : Mk) (hA : okAd p q r s) (hB : okAd p' q' r' s') (hlA : p < 256 ∧ q < 256 ∧ r < 256 ∧ s < 256) (hlB : p' < 256 ∧ q' < 256 ∧ r' < 256 ∧ s' < 256) (hph : proto < 256 ∧ hops < 256) (hid : id ≤ 65535) (dv : Value) (d : List Nat) (hmk : mk.ok d.length) (w : World) (hd : BytesAt w dv d) (hl : d.length ≤ 1500) :
    Calls Tryz.prog 167 #[.agg (pkC (adC p q r s) (adC p' q' r' s') proto hops id mk dv)] w fun e w' => ∃ v', e = .returned (.tuple #[v', .int .i64 0]) ∧ OwnB w.heap.size w' v' (ipL [p, q, r, s] [p', q', r', s'] proto hops id mk.word d) ∧ Below w.heap.size w w' := by
  have hm := fun W h => pmay p q r s p' q' r' s' proto hops id mk hA hB hid dv d hmk W h (by omega)
  have hfl := fun W => flags (adC p q r s) (adC p' q' r' s') rfl rfl proto hops id mk (by have := hmk.end_; omega) dv W
  go_enter Tryz.func167, Tryz.ntmps167
  go_upto_region 1 with fail
  have X := BoxAt.new w (pkC (adC p q r s) (adC p' q' r' s') proto hops id mk dv) 55
  have Xb : Below w.heap.size w (w.alloc (.cells (pkC (adC p q r s) (adC p' q' r' s') proto hops id mk dv) 55)) := (Below.refl _ _).alloc (Nat.le_refl _) _
  generalize w.alloc (.cells (pkC (adC p q r s) (adC p' q' r' s') proto hops id mk dv) 55) = W at X Xb ⊢
  have hX1 := X.1
  have hpL := X.loadPk rfl rfl
  have hmW := hm W (hd.below Xb)
  go_upto_region 3 with (first
    | (refine wpList_load_agg rfl 55 _ rfl _ rfl _ hpL ?_)
    | (go_at_call 185; refine hmW.mono ?_; rintro e W1 ⟨rfl, hb1⟩))
  have X1 := X.below hb1 hX1
  have Xb1 := Xb.trans (hb1.mono (by omega))
  have hW1 := hb1.size
  have Xd := hd.below Xb1
  clear hmW hpL hm X hb1 Xb
  go_cut [4] (fun v4 wx => OwnB W1.heap.size wx v4 ([69, 0] ++ be2 [20 + d.length, id, mk.word]) ∧ Below W1.heap.size W1 wx)
  case first =>
    have hX2 : w.heap.size < W1.heap.size := by omega
    have KX := Lib.hid (fun (V : World) (hV : Below W1.heap.size W1 V) => X1.below hV hX2)
    have hn1 : 20 + d.length < 65536 := by omega
    have hn2 : id < 65536 := by omega
    have hn3 : mk.word < 65536 := by
      have := hmk.end_
      unfold Mk.word
      cases mk.wh <;> cases mk.mo <;> simp <;> omega
    have hw1 : IntKind.u64.wrap (IntKind.i64.wrap (20 + (d.length : Int))) = ((20 + d.length : Nat) : Int) := by
      rw [show IntKind.i64.wrap (20 + (d.length : Int)) = 20 + (d.length : Int) from wrap_i64 _ (by omega) (by omega), wrap_u64 _ (by omega) (by omega)]; omega
    have hw2 : IntKind.u64.wrap (id : Int) = (id : Int) := wrap_u64 _ (by omega) (by omega)
    rename_i J Kc hJ hKc
    have hdv : ∃ da dc, dv = .slice da d.length dc ∧ d.length ≤ dc := by obtain ⟨_, da, dc, rfl, h, _, _⟩ := Xd; exact ⟨da, dc, rfl, h⟩
    obtain ⟨da, dc, hdv, hdc⟩ := hdv
    have hflW := fun W => hfl W
    let F : Nat → Value → World → Prop := fun i v V => match i with
      | 0 => BytesAt V v [69, 0]
      | 1 => v = .pointer (some ⟨w.heap.size, 40, none⟩)
      | 2 => v = dv
      | 3 => v = .int .i64 (d.length : Nat)
      | 4 => v = .int .i64 (20 + d.length : Nat)
      | 5 => v = .int .u64 (20 + d.length : Nat)
      | 6 => v = .pointer (some ⟨w.heap.size, 36, none⟩)
      | 7 => v = .int .u32 (id : Nat)
      | 8 => v = .int .u64 (id : Nat)
      | 9 => v = .agg (pkC (adC p q r s) (adC p' q' r' s') proto hops id mk dv)
      | 10 => v = .int .u64 (mk.word : Nat)
      | 11 => WordsAt V v [20 + d.length, id, mk.word]
      | _ => OwnB W1.heap.size V v ([69, 0] ++ be2 [20 + d.length, id, mk.word])
    refine Go.Rg.region_to (F := F) (nt := 47) (deps := fun i => match i with | 2 => [1] | 3 => [2] | 4 => [3] | 5 => [4] | 7 => [6] | 8 => [7] | 10 => [9] | 11 => [5, 8, 10] | 12 => [0, 11] | 13 => [12] | _ => []) tryz_fit.mixed (by kernel_rfl) rfl ?mono ?op ?fin
    case mono =>
      intro i v V V' hF hb
      rcases i with _ | _ | _ | _ | _ | _ | _ | _ | _ | _ | _ | _ | i
      all_goals first | exact hF | exact BytesAt.below hF hb | exact WordsAt.below hF hb | exact OwnB.below hF hb
    case op =>
      intro i o ho ρ V hc hf hb hdep hbase
      have h1 : ρ (.tmp 1) = .pointer (some ⟨w.heap.size, 0, none⟩) := hbase 1 (by kernel_rfl)
      have hX := KX.out V hb
      rcases i with _ | _ | _ | _ | _ | _ | _ | _ | _ | _ | _ | _ | _ | _ | i
      · obtain rfl := Option.some.inj ho
        refine .inl ⟨.slice (some ⟨V.heap.size, 0, none⟩) 2 2, V.alloc (.cells #[.int .u8 69, .int .u8 0] 5), ?_, (Below.refl _ _).alloc (Nat.le_refl _) _, lit69 V⟩
        simp [execOp, go_sem, hc]
      · obtain rfl := Option.some.inj ho
        refine .inl ⟨_, V, ?_, Below.refl _ _, rfl⟩
        simp [execOp, go_sem, h1]
      · obtain rfl := Option.some.inj ho
        have h9 := hdep 1 (by simp) _ 9 rfl rfl
        have h9 : ρ (.tmp 9) = _ := h9
        refine .inl ⟨_, V, ?_, Below.refl _ _, rfl⟩
        have := (hX.pk rfl rfl).2.2.2.2.2.2
        simp [execOp, go_sem, h9, this]
      · obtain rfl := Option.some.inj ho
        have h9 : ρ (.tmp 10) = _ := hdep 2 (by simp) _ 10 rfl rfl
        refine .inl ⟨_, V, ?_, Below.refl _ _, rfl⟩
        simp [execOp, go_sem, h9, hdv]
      · obtain rfl := Option.some.inj ho
        have h9 : ρ (.tmp 11) = _ := hdep 3 (by simp) _ 11 rfl rfl
        refine .inl ⟨_, V, ?_, Below.refl _ _, rfl⟩
        simp [execOp, go_sem, h9, hc]
        exact wrap_i64 _ (by omega) (by omega)
      · obtain rfl := Option.some.inj ho
        have h9 : ρ (.tmp 12) = _ := hdep 4 (by simp) _ 12 rfl rfl
        refine .inl ⟨_, V, ?_, Below.refl _ _, rfl⟩
        simp [execOp, go_sem, h9]
        exact wrap_u64 _ (by omega) (by omega)
      · obtain rfl := Option.some.inj ho
        refine .inl ⟨_, V, ?_, Below.refl _ _, rfl⟩
        simp [execOp, go_sem, h1]
      · obtain rfl := Option.some.inj ho
        have h9 : ρ (.tmp 14) = _ := hdep 6 (by simp) _ 14 rfl rfl
        refine .inl ⟨_, V, ?_, Below.refl _ _, rfl⟩
        have := (hX.pk rfl rfl).2.2.1
        simp [execOp, go_sem, h9, this]
      · obtain rfl := Option.some.inj ho
        have h9 : ρ (.tmp 15) = _ := hdep 7 (by simp) _ 15 rfl rfl
        refine .inl ⟨_, V, ?_, Below.refl _ _, rfl⟩
        simp [execOp, go_sem, h9]
        exact hw2
      · obtain rfl := Option.some.inj ho
        refine .inl ⟨_, V, ?_, Below.refl _ _, rfl⟩
        have hL := hX.loadPk rfl rfl
        simp [execOp, Instr.loadAt, Instr.sureAddr, Result.andThen, h1, hL]
      · obtain rfl := Option.some.inj ho
        have h9 : ρ (.tmp 17) = _ := hdep 9 (by simp) _ 17 rfl rfl
        refine .inr ⟨255, #[.agg (pkC (adC p q r s) (adC p' q' r' s') proto hops id mk dv)], ?_, (hflW V).mono ?_⟩
        · simp [execOp, go_sem, h9, hf]
        · rintro e V' ⟨rfl, hb'⟩
          exact ⟨_, rfl, hb', rfl⟩
      · obtain rfl := Option.some.inj ho
        have h9 : ρ (.tmp 13) = _ := hdep 5 (by simp) _ 13 rfl rfl
        have h10 : ρ (.tmp 16) = _ := hdep 8 (by simp) _ 16 rfl rfl
        have h11 : ρ (.tmp 18) = _ := hdep 10 (by simp) _ 18 rfl rfl
        refine .inl ⟨_, _, ?_, (Below.refl _ _).alloc (Nat.le_refl _) _, words3 V _ _ _ hn1 hn2 hn3⟩
        simp [execOp, go_sem, h9, h10, h11]
      · obtain rfl := Option.some.inj ho
        have h9 : BytesAt V (ρ (.tmp 8)) [69, 0] := hdep 0 (by simp) _ 8 rfl rfl
        have h10 : WordsAt V (ρ (.tmp 19)) _ := hdep 11 (by simp) _ 19 rfl rfl
        refine .inr ⟨89, #[ρ (.tmp 8), .int .i64 2, ρ (.tmp 19)], ?_, (put _ _ [69, 0] [20 + d.length, id, mk.word] V h9 (by simp) h10 (by simp)).mono ?_⟩
        · simp [execOp, go_sem, hf, hc]
        · rintro e V' ⟨v', rfl, ho', hb'⟩
          exact ⟨_, rfl, hb', ho'.mono hb.size⟩
      · obtain rfl := Option.some.inj ho
        have h9 : OwnB _ V (ρ (.tmp 20)) _ := hdep 12 (by simp) _ 20 rfl rfl
        refine .inl ⟨_, V, ?_, Below.refl _ _, h9⟩
        simp [execOp, go_sem]
      · simp at ho
    case fin =>
      intro a V hb hsz hdf hF hbase
      have h4 := hF 13 _ 4 rfl rfl
      have e := Go.Rg.tmps_all a
      rw [hsz] at e
      simp only [List.range, List.range.loop, List.map_cons, List.map_nil] at e
      have b0 := hbase 0 (by kernel_rfl)
      have b1 := hbase 1 (by kernel_rfl)
      have b2 := hbase 2 (by kernel_rfl)
      have b3 := hbase 3 (by kernel_rfl)
      replace hdf : a.defers = [] := hdf
      rw [b0, b1, b2, b3] at e
      have ea := Go.Rg.act_eq e hdf

      show Kc a V
      refine hKc _ _ ?_
      rw [ea]
      clear ea e b0 b1 b2 b3 hbase hF
      go_meet
      case rel => exact ⟨h4, hb⟩
  case rest =>
    obtain ⟨ho4, hb4⟩ := hcut
    have hX2 : w.heap.size < W1.heap.size := by omega
    have KX := Lib.hid (fun (V : World) (hV : Below W1.heap.size W1 V) => X1.below hV hX2)
    have KD := Lib.hid (fun (V : World) (hV : Below W1.heap.size W1 V) => Xd.below hV)
    obtain ⟨xp, xh, _⟩ := (KX.out _ hb4).pk rfl rfl
    have hlit : BytesAt (wc.alloc (.cells #[.int .u8 hops, .int .u8 proto, .int .u8 0, .int .u8 0] 5)) (.slice (some ⟨wc.heap.size, 0, none⟩) 4 4) [hops, proto, 0, 0] :=
      (OwnB.lit wc 0 [hops, proto, 0, 0] (Nat.zero_le _) (by simp; omega) (by simp)).at
    have HL := Lib.hid hlit
    clear hlit X1 Xd hfl hmk
    go_upto_region 5 with (first
      | (refine wpList_appB rfl _ _ rfl W1.heap.size _ _ (by rfl) (ho4.below ((Below.refl _ _).alloc (Nat.le_refl _) _)) _ [hops, proto, 0, 0] (by rfl) HL.out ?_ ?_ ?_; rotate_left 2; intro v5 W5 ho5 hg5 he5))
    case refine_1 => simp [be2_length]
    case refine_2 => have := hb4.size; simp; omega
    have hb5 : Below W1.heap.size W1 W5 := grownOn hb4 (Nat.le_refl _) hg5 (fun z hz => (ho4.row.lt z hz).1)
    clear xp xh HL hg5 he5 ho4
    have hs5 := hb5.size
    go_upto_region 6 with (first
      | (refine wpList_load_agg rfl 32 _ rfl _ rfl (adC p q r s) (KX.out _ hb5).pkSrc.2 ?_)
      | (go_at_call 256; refine (adBytes p q r s hlA.1 hlA.2.1 hlA.2.2.1 hlA.2.2.2 _).mono ?_; rintro e W6 ⟨v6, rfl, ho6, hb6⟩)
      | (refine wpList_appB rfl _ _ rfl W1.heap.size _ _ (by rfl) (ho5.below hb6) _ [p, q, r, s] (by rfl) ho6.at ?_ ?_ ?_; rotate_left 2; intro v7 W7 ho7 hg7 he7))
    case refine_1 => simp [be2_length]
    case refine_2 => have := hb6.size; omega
    have hb7 : Below W1.heap.size W1 W7 := (hb5.trans (hb6.mono hs5)).trans (below_grown hg7 (by have := hb6.size; omega) (fun z hz => (ho5.row.lt z hz).1))
    clear hg7 he7 ho5 ho6
    have hs7 := hb7.size
    go_upto_region 7 with (first
      | (refine wpList_load_agg rfl 32 _ rfl _ rfl (adC p' q' r' s') ((KX.out _ hb7).pkDst rfl).2 ?_)
      | (go_at_call 256; refine (adBytes p' q' r' s' hlB.1 hlB.2.1 hlB.2.2.1 hlB.2.2.2 _).mono ?_; rintro e W8 ⟨v8, rfl, ho8, hb8⟩)
      | (refine wpList_appB rfl _ _ rfl W1.heap.size _ _ (by rfl) (ho7.below hb8) _ [p', q', r', s'] (by rfl) ho8.at ?_ ?_ ?_; rotate_left 2; intro v9 W9 ho9 hg9 he9))
    case refine_1 => simp [be2_length]
    case refine_2 => have := hb8.size; omega
    have hb9 : Below W1.heap.size W1 W9 := (hb7.trans (hb8.mono hs7)).trans (below_grown hg9 (by have := hb8.size; omega) (fun z hz => (ho7.row.lt z hz).1))
    clear hg9 he9 ho7 ho8
    have hs9 := hb9.size
    obtain ⟨L, hL⟩ : ∃ L, L = ipH [p, q, r, s] [p', q', r', s'] proto hops id mk.word d.length := ⟨_, rfl⟩
    have hLl : L.length = 20 := by rw [hL]; simp [ipH, be2_length]
    have e9 : [69, 0] ++ be2 [20 + d.length, id, mk.word] ++ [hops, proto, 0, 0] ++ [p, q, r, s] ++ [p', q', r', s'] = L := by rw [hL]; rfl
    rw [e9] at ho9
    have HLe := Lib.hid hL
    have HLl := Lib.hid hLl
    clear hL hLl e9
    obtain ⟨g, cap, rfl, hg1, hg2⟩ := ho9.open (by have := HLl.out; omega)
    go_upto_region 8 with (first
      | (go_at_call 90; refine (parts1 W9 _ L _ ho9.at (by have := HLl.out; omega)).mono ?_; rintro e W10 ⟨rfl, hb10⟩)
      | (go_at_call 257; refine (ilay g cap 10 (checkN (wsum L)) L W1.heap.size _ (ho9.below hb10) (by have := HLl.out; omega) (by have := HLl.out; omega) (by unfold checkN; omega) hg1).mono ?_; rintro e W11 ⟨rfl, ho11, hb11⟩))
    have hb12 : Below W1.heap.size W1 W11 := (hb9.trans (hb10.mono hs9)).trans hb11
    have x6 := (((KX.out _ hb12).pk rfl rfl).2.2.2.2.2.2)
    have hd11 := KD.out _ hb12
    clear hb5 hb7 hb9 hb10 hb11 hb6 hb8 KD KX ho9
    obtain ⟨M, hM⟩ : ∃ M, M = (L.set 10 (checkN (wsum L) / 256)).set (10 + 1) (checkN (wsum L) % 256) := ⟨_, rfl⟩
    have hMl : M.length = L.length := by rw [hM]; simp
    rw [← hM, ← hMl] at ho11
    rw [← hMl]
    have HM := Lib.hid hM
    have HMl := Lib.hid hMl
    clear hM hMl
    go_wp2_with (first
      | (refine wpList_appB rfl _ _ rfl W1.heap.size _ _ (by rfl) ho11 _ d (by rfl) hd11 ?_ ?_ ?_; rotate_left 2; intro v12 W12 ho12 hg12 he12))
    case refine_1 => have := HLl.out; have := HMl.out; omega
    case refine_2 => exact hb12.size
    go_ret2
    have hb13 : Below W1.heap.size W1 W12 := hb12.trans (below_grown hg12 hb12.size (fun z hz => (ho11.row.lt z hz).1))
    have : M ++ d = ipL [p, q, r, s] [p', q', r', s'] proto hops id mk.word d := by
      rw [HM.out, HLe.out]; rfl
    rw [this] at ho12
    exact ⟨_, rfl, ho12.mono (by omega), Xb1.trans (hb13.mono (by omega))⟩
end Go.Ch
