/- NetMay: the law. -/
import Derived.Test.YtnhpljgeckdedaaGreatNmD
import Derived.Test.YtnhpljgeckdedaaGreatAl30
set_option linter.unusedSimpArgs false
set_option linter.unusedVariables false
set_option linter.constructorNameAsVariable false
namespace Go.Nm
open Go Go.Am Go.Hm Go.Proofs Go.RowKit
set_option maxRecDepth 100000
theorem infoSet : (Tryz.prog.info? 53).map (fun i => (i.zero, i.size, i.bytes)) = some (some (.agg (#[.slice none 0 0, .int .i64 0, .int .i64 0, .int .i64 0, .bool false, .bool false, .bool false, .int .u8 0, .bool false, .bool false, .int .i64 0])), 11, 64) := by kernel_rfl
set_option maxHeartbeats 40000000 in
theorem law_few (most : Int) (ao : Option Addr) (l : List Ad) (sc : Nat) (h8 : l.length ≤ 8) (hsc : l.length ≤ sc) (w : World) (hao : l ≠ [] → ∃ x, ao = some x ∧ x.block < w.heap.size ∧ RowA w x l) (hf : Fine l) :
    Calls Tryz.prog 4 #[.slice ao l.length sc, .int .i64 most] w fun e w' => e = .returned (.bool true) ∧ Below w.heap.size w w' := by
  have Hao := Lib.hid hao
  clear hao
  have e8 : decide ((l.length : Int) > 8) = false := by simp; omega
  go_enter Tryz.func4, Tryz.ntmps4
  go_upto_region 4 with fail
  go_cut [6] (fun s6 wx => s6 = .bool (may0N l.length most) ∧ wx = w)
  case first =>
    go_wp2_with fail
    all_goals (go_meet; simp [may0N]; omega)
  case rest =>
    obtain ⟨rfl, hw⟩ := hcut
    obtain rfl : w = wc := hw.symm
    clear hw
    go_upto_block 0 with fail
    go_cut [5, 6] (fun s5 s6 wx => ∃ bs, s6 = .bool (may0N l.length most && mayTo l l.length) ∧ wx.ownsRow w.heap.size 53 11 s5 l.length (rowS bs) ∧ bs.length = l.length ∧ AddrsAt wx bs l ∧ Below w.heap.size w wx)
    case first =>
      go_wp2_with fail
      go_loopw [5, 6, 39] (fun v m i W => ∃ (k : Nat) (bs : List Nat), k ≤ l.length ∧ i = .int .i64 k ∧ m = .bool (may0N l.length most && mayTo l k) ∧ Below w.heap.size w W ∧ W.ownsRow w.heap.size 53 11 v k (rowS bs) ∧ bs.length = k ∧ AddrsAt W bs l) (fun _ _ i _ => l.length - (intOf i).toNat)
      case atStart => exact ⟨0, [], Nat.zero_le _, rfl, by simp [mayTo], Below.refl _ _, World.ownsRow_nil .., rfl, fun i b h => by simp at h⟩
      case round =>
        obtain ⟨wo, rfl⟩ : ∃ wo : World, wo = wr := ⟨_, rfl⟩
        obtain ⟨k, ks, hk, rfl, rfl, hb, hown, hks, hat⟩ := hrel
        rcases Nat.lt_or_ge k l.length with hlt | hge
        · obtain ⟨a, rfl, ha, hrow⟩ := Hao.out (by intro h; rw [h] at hlt; simp at hlt)
          obtain ⟨six, bs, hx⟩ : ∃ six bs, l[k]? = some (six, bs) := ⟨_, _, List.getElem?_eq_getElem hlt⟩
          have hfx : bs.length = 16 ∧ bs.getD 0 0 < 256 := hf (six, bs) (List.mem_of_getElem? hx)
          have hld : (loadVar 42 (a.add (k * 17))).run Tryz.prog wo = .ok (.agg (cellsA six bs)) wo := (hrow.below hb ha).load hf hx
          have Hrow := Lib.hid hrow
          have Hx := Lib.hid hx
          have Hb := Lib.hid hb
          have Hown := Lib.hid hown
          have Hat := Lib.hid hat
          clear hx hb hown hat hrow
          go_upto_region 9 with (first
            | (refine wpList_load_agg rfl 42 _ rfl _ rfl (cellsA six bs) hld ?_)
            | (refine wpList_store_agg rfl 42 _ _ rfl _ rfl _ rfl _ (store_new wo _ rfl six bs hfx.1) ?_)
            | (go_at_call 17; refine (usual1 _).mono ?_; rintro e w2 ⟨sv, rfl, hsv, hb2⟩; have Hb2 := Lib.hid hb2; clear hb2)
            | (refine wpList_store_agg rfl 53 _ _ rfl _ rfl _ rfl _ (storeS_new w2 _ rfl sv hsv) ?_))
          have hs2 := Hb2.out.size
          rw [World.size_alloc] at hs2
          obtain ⟨w3, hw3⟩ : ∃ w3, w2.alloc (.cells (setV sv 1280) 53) = w3 := ⟨_, rfl⟩
          have hs3 : w3.heap.size = w2.heap.size + 1 := by rw [← hw3]; simp
          have hb3 : Below (wo.heap.size + 1) (wo.alloc (.cells (cellsA six bs) 42)) w3 := by
            rw [← hw3]; have := Hb2.out; rw [World.size_alloc] at this; exact this.alloc (by omega) _
          have hl8 : (loadVar 42 ⟨wo.heap.size, 0, none⟩).run Tryz.prog w3 = .ok (.agg (cellsA six bs)) w3 :=
            load29_at w3 wo.heap.size six bs hfx.1 fun i => by
              rw [hb3.cell (p := ⟨wo.heap.size, i, none⟩) (by show wo.heap.size < _; omega), cell_last]
          have hc3 : (w3.alloc (.cells (cellsA six bs) 42)).cell? ⟨w2.heap.size, 0, none⟩ = some sv := by
            rw [((Below.refl w3.heap.size w3).alloc (Nat.le_refl _) _).cell (p := ⟨w2.heap.size, 0, none⟩) (by show w2.heap.size < _; omega), ← hw3, cell_last]
            rfl
          have hk3 : w3.heap[w2.heap.size]? = some (Obj.cells (setV sv 1280) 53 (0, 0)) := by rw [← hw3]; exact heap_alloc_last _ _
          have hz3 : (w3.alloc (.cells (cellsA six bs) 42)).frozen? ⟨w2.heap.size, 0, none⟩ = false := by
            rw [((Below.refl w3.heap.size w3).alloc (Nat.le_refl _) _).frozen (p := ⟨w2.heap.size, 0, none⟩) (by show w2.heap.size < _; omega)]
            simp [World.frozen?, hk3]
          have hbA := builtA six bs hfx.1
          have Hb3 := Lib.hid hb3
          clear hb3 hld
          rw [hw3]
          go_upto_region 10 with (first
            | (refine wpList_load_agg rfl 42 _ rfl _ rfl (cellsA six bs) hl8 ?_)
            | (refine wpList_build1 rfl 48 42 _ rfl _ rfl w3.heap.size rfl _ rfl Tryz.underlying48 (cellsA six bs) hbA ?_))
          obtain ⟨w5, hw5⟩ : ∃ w5, ((w3.setCell ⟨w2.heap.size, 0, none⟩ (.slice (some ⟨w2.heap.size + 1, 0, none⟩) 1 1)).alloc (.cells (cellsA six bs) 42)) = w5 := ⟨_, rfl⟩
          have hw5' : (w2.alloc (.cells (setC (w2.heap.size + 1)) 53)).alloc (.cells (cellsA six bs) 42) = w5 := by
            rw [← hw5, ← hw3, setCell_last, setC_of]
          have hs5 : w5.heap.size = w2.heap.size + 2 := by rw [← hw5']; simp
          have hk5 : w5.heap[w2.heap.size]? = some (Obj.cells (setC (w2.heap.size + 1)) 53 (0, 0)) := by
            rw [← hw5', ((Below.refl (w2.heap.size + 1) _).alloc (by simp) _).block _ (by omega)]; exact heap_alloc_last _ _
          have hj5 : w5.heap[w2.heap.size + 1]? = some (Obj.cells (cellsA six bs) 42 (0, 0)) := by
            rw [← hw5']; exact heap_at _ _ _ (by simp)
          have hb5 : Below (wo.heap.size + 1) (wo.alloc (.cells (cellsA six bs) 42)) w5 := by
            rw [← hw5']; have := Hb2.out; rw [World.size_alloc] at this; exact (this.alloc (by omega) _).alloc (by simp; omega) _
          have hlS : (loadVar 53 ⟨w2.heap.size, 0, none⟩).run Tryz.prog w5 = .ok (.agg (setC (w2.heap.size + 1))) w5 :=
            run_loadVar_agg (n := 11) (fun w => by kernel_rfl) (fun w => by kernel_rfl) _ _ rfl fun j v hj => by
              rw [add_off, cell_blk hk5]; exact hj
          have hbS := builtS (w2.heap.size + 1)
          have hbo5 : Below wo.heap.size wo w5 := ((Below.refl _ wo).alloc (Nat.le_refl _) _).trans (hb5.mono (by omega))
          have hown6 : (w5.alloc (.cells (setC (w2.heap.size + 1)) 53)).ownsRow w.heap.size 53 11 u5 k (rowS ks) := ownsRow_below (Hown.out) (hbo5.alloc (by omega) _)
          have hb8 : (w5.alloc (.cells (setC (w2.heap.size + 1)) 53)).heap[wo.heap.size]? = some (Obj.cells (cellsA six bs) 42 (0, 0)) := by
            rw [(hb5.alloc (by omega) _).block _ (by omega)]; exact heap_alloc_last _ _
          have hat6 : AddrsAt (w5.alloc (.cells (setC (w2.heap.size + 1)) 53)) (ks ++ [w2.heap.size + 1]) l := by
            refine (Hat.out.below (hbo5.alloc (by omega) _)).snoc (x := (six, bs)) (by rw [hks]; exact Hx.out) ?_
            rw [((Below.refl w5.heap.size w5).alloc (Nat.le_refl _) _).block _ (by omega)]; exact hj5
          have hb6 : Below w.heap.size w (w5.alloc (.cells (setC (w2.heap.size + 1)) 53)) := Hb.out.trans ((hbo5.alloc (by omega) _).mono Hb.out.size)
          have hsw := Hb.out.size
          obtain ⟨i0, hi, hz0, hz1, hz2⟩ := info_parts infoSet
          have hnw : ∀ j u, (setC (w2.heap.size + 1)).toList[j]? = some u → (w5.alloc (.cells (setC (w2.heap.size + 1)) 53)).cell? ((⟨w5.heap.size, 0, none⟩ : Addr).add j) = some u := fun j u hu => by
            rw [add_off, cell_last]; rw [Array.getElem?_toList] at hu; exact hu
          have Hown6 := Lib.hid hown6
          have Hb8 := Lib.hid hb8
          have Hat6 := Lib.hid hat6
          have Hb6 := Lib.hid hb6
          have Hnw := Lib.hid hnw
          rw [hw5]
          clear hc3 hk3 hz3 hbA hl8 Hb3 hw5 hw5' hk5 hj5 hb5 hbo5 hown6 hb8 hat6 hb6 hnw hw3 hs3
          go_upto_region 11 with (first
            | (refine wpList_load_agg rfl 53 _ rfl _ rfl (setC (w2.heap.size + 1)) hlS ?_)
            | (refine wpList_build1 rfl 49 53 _ rfl _ rfl w5.heap.size rfl _ rfl Tryz.underlying49 (setC (w2.heap.size + 1)) hbS ?_)
            | (at_builtin; refine wpList_append_own _ rfl _ _ 49 rfl w.heap.size 53 i0 _ 11 64 Tryz.underlying49 hi hz0 hz1 hz2 (by simp [Value.cells]) (by decide) u5 k (rowS ks) rfl Hown6.out ⟨w5.heap.size, 0, none⟩ 1 1 (setC (w2.heap.size + 1)).toList rfl rfl Hnw.out (setC_one _) (by unfold maxLen; omega) (by omega) (by simp; omega) ?_; intro v7 w7 hown7 hgr7 hne7))
          have hb8 : w7.heap[wo.heap.size]? = some (Obj.cells (cellsA six bs) 42 (0, 0)) := grown_other Hown6.out hgr7 (by decide) Hb8.out
          have hat7 : AddrsAt w7 (ks ++ [w2.heap.size + 1]) l := fun i b h => let ⟨x, hx, hk⟩ := Hat6.out i b h; ⟨x, hx, grown_other Hown6.out hgr7 (by decide) hk⟩
          have hb7 : Below w.heap.size w w7 := Hb6.out.trans (grown_below Hown6.out hgr7 Hb6.out.size)
          have hwo7 : wo.heap.size < w7.heap.size := (Array.getElem?_eq_some_iff.1 hb8).1
          have Hown7 := Lib.hid hown7
          have Hat7 := Lib.hid hat7
          have Hb7 := Lib.hid hb7
          have Hb8' := Lib.hid hb8
          clear hown7 hgr7 hne7 hat7 hb7 Hown6 Hb8 Hat6 Hb6 Hnw hi hz0 hz1 hz2 hs5 hlS hbS Hb2 hsv Hb Hown Hat
          go_cut [10] (fun s10 wx => s10 = .bool (groupL six bs) ∧ wx = w7)
          case first =>
            have g0 : w7.cell? ⟨wo.heap.size, 0, none⟩ = some (.bool six) := (cell_blk hb8 0).trans (cellsA_zero six bs)
            have g1 : w7.cell? ⟨wo.heap.size, 1, none⟩ = some (.int .u8 (bs.getD 0 0 : Nat)) := (cell_blk hb8 1).trans (cellsA_succ six bs 0 (by omega))
            have gb := hfx.2
            generalize hb0 : bs.getD 0 0 = b at g1 gb
            have HB0 := Lib.hid hb0
            clear hb0 hb8
            cases six
            · go_wp2_with fail
              go_meet
              refine ⟨?_, rfl⟩
              have e : ((b : Int) / 16 == 14) = (b / 16 == 14) := by rw [Bool.eq_iff_iff]; simp only [beq_iff_eq]; omega
              rw [e, ← HB0.out]; rfl
            · go_wp2_with fail
              all_goals
                go_meet
                refine ⟨?_, rfl⟩
                have e : ((b : Int) == 255) = (b == 255) := by rw [Bool.eq_iff_iff]; simp only [beq_iff_eq]; omega
                have hg : groupL true bs = (b == 255) := by rw [← HB0.out]; rfl
                rw [hg, ← e]
                first | done | (simp; omega)
          case rest =>
            obtain ⟨rfl, hw7⟩ := hcut
            obtain rfl : w7 = wc := hw7.symm
            clear hw7
            generalize hm : (may0N l.length most && mayTo l k) = m
            have Hm := Lib.hid hm
            clear hm
            have hA : addrL six bs = (mayL six bs && !groupL six bs) := rfl
            have hMay := may20 six bs hfx.1 w7
            have hL : (loadVar 42 ⟨wo.heap.size, 0, none⟩).run Tryz.prog w7 = .ok (.agg (cellsA six bs)) w7 := load29_at w7 wo.heap.size six bs hfx.1 fun i => cell_blk hb8 i
            have HR := Lib.hid (Below.refl w7.heap.size w7)
            generalize groupL six bs = G at hA ⊢
            generalize mayL six bs = ML at hA hMay
            have HM := Lib.hid hMay
            have HA := Lib.hid hA
            clear hA hMay hb8
            go_upto_region 12 with fail
            go_cut [6] (fun s6 wx => s6 = .bool (m && addrL six bs) ∧ Below w7.heap.size w7 wx)
            case first =>
              cases m
              · go_wp2_with fail
                go_meet
                exact ⟨rfl, HR.out⟩
              · cases ML <;> cases G
                all_goals
                  go_wp2_with (first
                    | (refine wpList_load_aggG rfl 42 _ rfl _ rfl (cellsA six bs) hL ?_)
                    | (go_at_call 18; refine HM.out.mono ?_; rintro e w2 ⟨rfl, hb2⟩; have Hb2 := Lib.hid hb2; clear hb2))
                  go_meet
                  exact ⟨by rw [HA.out]; rfl, Hb2.out⟩
            case rest =>
              obtain ⟨rfl, hbA⟩ := hcut
              have HbA := Lib.hid hbA
              generalize hmA : (m && addrL six bs) = mA
              have HmA := Lib.hid hmA
              clear hbA hmA hL
              have hks' : k ≤ sc := by omega
              go_wp2_with fail
              go_loopw [6, 85] (fun m i W => ∃ j : Nat, j ≤ k ∧ i = .int .i64 j ∧ m = .bool (mA && !(l.take j).any (fun y => six == y.1 && bs == y.2)) ∧ Below w7.heap.size w7 W) (fun _ i _ => k - (intOf i).toNat)
              case atStart => exact ⟨0, Nat.zero_le _, rfl, by simp, HbA.out⟩
              case round =>
                obtain ⟨j, hj, rfl, rfl, hbi⟩ := hrel
                have Hbi := Lib.hid hbi
                have hwz := hbi.size
                have hbwi : Below w.heap.size w wr := Hb7.out.trans (hbi.mono Hb7.out.size)
                have Hbwi := Lib.hid hbwi
                clear hbi
                rcases Nat.lt_or_ge j k with hjk | hjk
                · obtain ⟨six2, bs2, hy⟩ : ∃ six2 bs2, l[j]? = some (six2, bs2) := ⟨_, _, List.getElem?_eq_getElem (by omega)⟩
                  have hfy : bs2.length = 16 ∧ bs2.getD 0 0 < 256 := hf (six2, bs2) (List.mem_of_getElem? hy)
                  have hldy : (loadVar 42 (a.add (j * 17))).run Tryz.prog wr = .ok (.agg (cellsA six2 bs2)) wr := (Hrow.out.below hbwi ha).load hf hy
                  have hll := load29_last wr six2 bs2 hfy.1
                  have hlo : (loadVar 42 ⟨wo.heap.size, 0, none⟩).run Tryz.prog (wr.alloc (.cells (cellsA six2 bs2) 42)) = .ok (.agg (cellsA six bs)) (wr.alloc (.cells (cellsA six2 bs2) 42)) :=
                    load29_at _ wo.heap.size six bs hfx.1 fun i => by
                      rw [((Below.refl wr.heap.size wr).alloc (Nat.le_refl _) _).cell (p := ⟨wo.heap.size, i, none⟩) (by show wo.heap.size < _; omega), Hbi.out.cell (p := ⟨wo.heap.size, i, none⟩) (by show wo.heap.size < _; omega)]
                      exact cell_blk Hb8'.out i
                  have hE := equal29 six six2 bs bs2 hfx.1 hfy.1
                  have hsn := any_snoc hy (fun y => six == y.1 && bs == y.2)
                  generalize hrr : (six == six2 && bs == bs2) = r at hE hsn
                  generalize hq : (l.take j).any (fun y => six == y.1 && bs == y.2) = q at hsn ⊢
                  generalize hmi : (mA && !q) = mi
                  have Hmi := Lib.hid hmi
                  have Hsn := Lib.hid hsn
                  have HE := Lib.hid hE
                  clear hbwi hy hsn hrr hq hmi hE
                  have hbn : Below w7.heap.size w7 (wr.alloc (.cells (cellsA six2 bs2) 42)) := Hbi.out.alloc hwz _
                  have Hbn := Lib.hid hbn
                  clear hbn
                  cases mi
                  all_goals
                    go_wp2_with (first
                      | (refine wpList_load_agg rfl 42 _ rfl _ rfl (cellsA six2 bs2) hldy ?_)
                      | (refine wpList_store_agg rfl 42 _ _ rfl _ rfl _ rfl _ (store_new wr _ rfl six2 bs2 hfy.1) ?_)
                      | (refine wpList_load_aggG rfl 42 _ rfl _ rfl (cellsA six bs) hlo ?_)
                      | (refine wpList_load_aggG rfl 42 _ rfl _ rfl (cellsA six2 bs2) hll ?_)
                      | (refine wpList_exec rfl (exec_neq29 rfl rfl rfl (HE.out _)) ?_))
                    go_roundw
                    case rel => exact ⟨j + 1, by omega, by go_num, by rw [Hsn.out]; first | (have e := Hmi.out; revert e; cases mA <;> cases q <;> cases r <;> simp), Hbn.out⟩
                    case measure => simp [intOf]; omega
                · obtain rfl : j = k := by omega
                  have hdup : dupL l j = (l.take j).any (fun y => six == y.1 && bs == y.2) := by unfold dupL; rw [Hx.out]
                  have hmt : mayTo l (j + 1) = (mayTo l j && addrL six bs && !dupL l j) := by rw [mayTo, Hx.out]
                  have hrel2 : wr.ownsRow w.heap.size 53 11 v7 (j + 1) (rowS (ks ++ [w2.heap.size + 1])) ∧ AddrsAt wr (ks ++ [w2.heap.size + 1]) l :=
                    ⟨by rw [rowS_snoc]; exact ownsRow_below Hown7.out Hbi.out, Hat7.out.below Hbi.out⟩
                  have Hrel2 := Lib.hid hrel2
                  have Hmt := Lib.hid hmt
                  have Hdup := Lib.hid hdup
                  clear hbwi hmt hdup hrel2
                  generalize hq : (l.take j).any (fun y => six == y.1 && bs == y.2) = q at Hdup ⊢
                  have Hq := Lib.hid hq
                  clear hq
                  go_wp2_with fail
                  go_roundw
                  case rel => exact ⟨j + 1, ks ++ [w2.heap.size + 1], by omega, by go_num, by rw [Hmt.out, Hdup.out, ← HmA.out, ← Hm.out]; simp [Bool.and_assoc], Hbwi.out, Hrel2.out.1, by simp [hks], Hrel2.out.2⟩
                  case measure => simp [intOf]; omega
        · obtain rfl : k = l.length := by omega
          have Hend : Hid (∃ bs : List Nat, wo.ownsRow w.heap.size 53 11 u5 l.length (rowS bs) ∧ bs.length = l.length ∧ AddrsAt wo bs l ∧ Below w.heap.size w wo) := Lib.hid ⟨ks, hown, hks, hat, hb⟩
          clear hown hat hb
          go_wp2_with fail
          go_meet
          obtain ⟨ks, h1, h2, h3, h4⟩ := Hend.out
          exact ⟨ks, rfl, h1, h2, h3, h4⟩
    case rest =>
      obtain ⟨ks, rfl, hown, hks, hat, hbw⟩ := hcut
      obtain ⟨w1, rfl⟩ : ∃ w1 : World, w1 = wc := ⟨_, rfl⟩
      have hnew := netNew most u5 ks l w1 w.heap.size hown hks hat hf
      generalize hmay : (may0N l.length most && mayTo l l.length) = may at hnew ⊢
      have Hnew := Lib.hid hnew
      have Hbw := Lib.hid hbw
      clear hnew hbw hown hat hmay
      go_upto_region 20 with (first
        | (go_at_call 19; refine Hnew.out.mono ?_; rintro e w2 ⟨x2, n2, rfl, hb2, hd2⟩; have Hb2 := Lib.hid (Hbw.out.trans (hb2.mono Hbw.out.size)); have Hd2 := Lib.hid hd2; clear hb2 hd2))
      go_cut [121] (fun s121 wx => s121 = .bool false ∧ wx = w2)
      case first =>
        rcases Hd2.out with ⟨hm, hn, p, hv⟩ | ⟨hm, hn, hv⟩
        · subst hm hn hv
          go_wp2_with fail
          go_meet
          exact ⟨rfl, rfl⟩
        · subst hm hn hv
          go_wp2_with fail
          go_meet
          exact ⟨rfl, rfl⟩
      case rest =>
        obtain ⟨rfl, hw2⟩ := hcut
        obtain rfl : w2 = wc := hw2.symm
        clear hw2
        go_wp2_with fail
        go_loopw [126] (fun i W => ∃ r : Nat, r ≤ 2 ∧ i = .int .i64 r ∧ Below (w2.heap.size + 2) ((w2.alloc (.cells ⟨emptyNet⟩ 62)).alloc (.cells #[.pointer none, .pointer (some ⟨w2.heap.size, 0, none⟩)] 30)) W) (fun i _ => 2 - (intOf i).toNat)
        case atStart => exact ⟨0, by omega, rfl, Below.refl _ _⟩
        case round =>
          obtain ⟨wo, rfl⟩ : ∃ wo : World, wo = wr := ⟨_, rfl⟩
          obtain ⟨r, hr, rfl, hbo⟩ := hrel
          have hbo2 : Below w2.heap.size w2 wo := (((Below.refl _ w2).alloc (Nat.le_refl _) _).alloc (by simp) _).trans (hbo.mono (by omega))
          have Hbo := Lib.hid hbo
          have Hbo2 := Lib.hid hbo2
          have hwz : w2.heap.size + 2 ≤ wo.heap.size := by have := hbo.size; simpa using this
          rcases Nat.lt_or_ge r 2 with hr2 | hr2
          · obtain ⟨x, hx, hN⟩ : ∃ x, wo.cell? ⟨w2.heap.size + 1, r, none⟩ = some x ∧ NoNet wo x := by
              have hk : wo.heap[w2.heap.size + 1]? = some (Obj.cells #[.pointer none, .pointer (some ⟨w2.heap.size, 0, none⟩)] 30 (0, 0)) := by
                rw [hbo.block _ (by omega)]; exact heap_at _ _ _ (by simp)
              have hn : wo.heap[w2.heap.size]? = some (Obj.cells ⟨emptyNet⟩ 62 (0, 0)) := by
                rw [hbo.block _ (by omega), ((Below.refl (w2.heap.size + 1) _).alloc (by simp) _).block _ (by omega)]; exact heap_alloc_last _ _
              rw [cell_blk hk]
              rcases r with _ | _ | r
              · exact ⟨_, rfl, .inl rfl⟩
              · exact ⟨_, rfl, .inr ⟨_, rfl, hn⟩⟩
              · omega
            have HN0 := Lib.hid hN
            clear hN hbo hbo2
            go_wp2_with (first
                  | (go_at_call 10; refine (qDraws _ _ HN0.out).mono ?_; rintro e y1 ⟨rfl, hb1⟩; have HN1 := Lib.hid (HN0.out.below hb1); have HB1 := Lib.hid hb1; clear hb1)
                  | (go_at_call 20; refine (qChances _ _ HN1.out).mono ?_; rintro e y2 ⟨rfl, hb2⟩; have HN2 := Lib.hid (HN1.out.below hb2); have HB2 := Lib.hid (HB1.out.trans (hb2.mono HB1.out.size)); clear hb2)
                  | (go_at_call 21; refine (qGather _ _ HN2.out).mono ?_; rintro e y3 ⟨rfl, hb3⟩; have HN3 := Lib.hid (HN2.out.below hb3); have HB3 := Lib.hid (HB2.out.trans (hb3.mono HB2.out.size)); clear hb3)
                  | (go_at_call 11; refine (qHost _ _ HN3.out).mono ?_; rintro e y4 ⟨rfl, hb4⟩; have HN4 := Lib.hid (HN3.out.below hb4); have HB4 := Lib.hid (HB3.out.trans (hb4.mono HB3.out.size)); clear hb4)
                  | (go_at_call 14; refine (qRun _ _ HN4.out).mono ?_; rintro e y5 ⟨rfl, hb5⟩; have HN5 := Lib.hid (HN4.out.below hb5); have HB5 := Lib.hid (HB4.out.trans (hb5.mono HB4.out.size)); clear hb5)
                  | (go_at_call 15; refine (qEmissions _ _ HN5.out).mono ?_; rintro e y6 ⟨rfl, hb6⟩; have HN6 := Lib.hid (HN5.out.below hb6); have HB6 := Lib.hid (HB5.out.trans (hb6.mono HB5.out.size)); clear hb6)
                  | (go_at_call 16; refine (qUnder _ _ HN6.out).mono ?_; rintro e y7 ⟨rfl, hb7⟩; have HN7 := Lib.hid (HN6.out.below hb7); have HB7 := Lib.hid (HB6.out.trans (hb7.mono HB6.out.size)); clear hb7)
                  | (go_at_call 22; refine (qBytes _ _ HN7.out).mono ?_; rintro e y8 ⟨rfl, hb8⟩; have HN8 := Lib.hid (HN7.out.below hb8); have HB8 := Lib.hid (HB7.out.trans (hb8.mono HB7.out.size)); clear hb8)
                  | (go_at_call 23; refine (qNow _ _ HN8.out).mono ?_; rintro e y9 ⟨rfl, hb9⟩; have HN9 := Lib.hid (HN8.out.below hb9); have HB9 := Lib.hid (HB8.out.trans (hb9.mono HB8.out.size)); clear hb9)
                  | (go_at_call 24; refine (qWitness _ _ HN9.out).mono ?_; rintro e y10 ⟨rfl, hb10⟩; have HN10 := Lib.hid (HN9.out.below hb10); have HB10 := Lib.hid (HB9.out.trans (hb10.mono HB9.out.size)); clear hb10)
                  | (go_at_call 25; refine (qAgain _ _ HN10.out).mono ?_; rintro e y11 ⟨rfl, hb11⟩; have HN11 := Lib.hid (HN10.out.below hb11); have HB11 := Lib.hid (HB10.out.trans (hb11.mono HB10.out.size)); clear hb11)
                  | (go_at_call 26; refine (qMutate _ _ HN11.out).mono ?_; rintro e y12 ⟨rfl, hb12⟩; have HN12 := Lib.hid (HN11.out.below hb12); have HB12 := Lib.hid (HB11.out.trans (hb12.mono HB11.out.size)); clear hb12)
                  | (go_at_call 27; refine (qInject _ _ HN12.out).mono ?_; rintro e y13 ⟨rfl, hb13⟩; have HN13 := Lib.hid (HN12.out.below hb13); have HB13 := Lib.hid (HB12.out.trans (hb13.mono HB12.out.size)); clear hb13)
                  | (go_at_call 28; refine (qReboot _ _ HN13.out).mono ?_; rintro e y14 ⟨rfl, hb14⟩; have HN14 := Lib.hid (HN13.out.below hb14); have HB14 := Lib.hid (HB13.out.trans (hb14.mono HB13.out.size)); clear hb14))
            go_roundw
            case rel => exact ⟨r + 1, by omega, by go_num, Hbo.out.trans (HB14.out.mono hwz)⟩
            case measure => simp [intOf]; omega
          · obtain rfl : r = 2 := by omega
            have Hal := Lib.hid (Go.Am.alive30 wo)
            clear hbo hbo2
            go_wp2_with (first
              | (go_at_call 5; refine Hal.out.mono ?_; rintro e w5 ⟨rfl, hb5⟩; have Hb5 := Lib.hid hb5; clear hb5))
            go_ret
            exact ⟨rfl, (Hb2.out.trans (Hbo2.out.mono Hb2.out.size)).trans (Hb5.out.mono (Hb2.out.trans (Hbo2.out.mono Hb2.out.size)).size)⟩
end Go.Nm
