/- HostMay: the law, at some addresses. -/
import Derived.Test.YtfmcbemddhaakaaGreatHmS
import Derived.Deep.CutBlock
set_option linter.unusedSimpArgs false
set_option linter.unusedVariables false
set_option linter.constructorNameAsVariable false
namespace Go.Hm
open Go Go.Proofs Go.RowKit
/-- What is wanted lies at b. -/
def WantAt (W : World) (b : Nat) (x : Ad) : Prop := W.heap[b]? = some (.cells (cellsA x.1 x.2) 29 (0, 0))
set_option maxRecDepth 100000 in
set_option maxHeartbeats 40000000 in
theorem law_some (mtu : Int) (a : Addr) (l : List Ad) (sc : Nat) (h1 : 1 ≤ l.length) (hl : l.length ≤ 9223372036854775807) (hsc : l.length ≤ sc) (w : World) (ha : a.block < w.heap.size) (hrow : RowA w a l) (hf : Fine l) :
    Calls Tryz.prog 3 #[.slice (some a) l.length sc, .int .i64 mtu] w fun e w' => e = .returned (.bool true) ∧ Below w.heap.size w w' := by
  have hbox : Below w.heap.size w (w.alloc (.cells (setV (.slice (some a) l.length sc) mtu) 26)) := (Below.refl _ w).alloc (Nat.le_refl _) _
  have Hbox := Lib.hid hbox
  have Hrow := Lib.hid hrow
  clear hbox hrow
  go_enter Tryz.func3, Tryz.ntmps3
  go_upto_region 2 with fail
  go_cut [6] (fun s6 wx => s6 = .bool (may0 l.length mtu) ∧ wx = w.alloc (.cells (setV (.slice (some a) l.length sc) mtu) 26))
  case first =>
    have e1 : decide ((l.length : Int) ≥ 1) = true := by simp; omega

    rcases Nat.lt_or_ge 4 l.length with h4 | h4
    · have e4 : decide ((l.length : Int) ≤ 4) = false := by simp; omega
      go_wp2_with fail
      go_meet
      simp [may0]; omega
    · have e4 : decide ((l.length : Int) ≤ 4) = true := by simp; omega
      go_wp2_with fail
      all_goals (go_meet; simp [may0]; omega)
  case rest =>
    obtain ⟨rfl, rfl⟩ := hcut
    go_upto_region 3 with fail
    go_cut [46, 47, 48] (fun s46 s47 s48 wx => s46 = .slice (some a) (min l.length 5) sc ∧ s47 = .int .i64 (min l.length 5 : Nat) ∧ s48 = .int .i64 0 ∧ wx = w.alloc (.cells (setV (.slice (some a) l.length sc) mtu) 26))
    case first =>
      rcases Nat.lt_or_ge 5 l.length with h5 | h5
      · have hm : min l.length 5 = 5 := by omega
        have hs5 : 5 ≤ sc := by omega
        have Hm := Lib.hid hm
        clear hm
        go_wp2_with fail
        all_goals (go_meet; rw [Hm.out]; simp; try omega)
      · have hm : min l.length 5 = l.length := by omega
        have Hm := Lib.hid hm
        clear hm
        go_wp2_with fail
        all_goals (go_meet; rw [Hm.out]; simp; try omega)
    case rest =>
      obtain ⟨rfl, rfl, rfl, rfl⟩ := hcut
      have hM1 : min l.length 5 ≤ l.length := Nat.min_le_left _ _
      have hM5 : min l.length 5 ≤ 5 := Nat.min_le_right _ _
      generalize hMM : min l.length 5 = M at hM1 hM5
      have HMM := Lib.hid hMM
      clear hMM
      go_upto_block 0 with fail
      go_cut [6] (fun s6 wx => s6 = .bool (may0 l.length mtu && mayTo l M) ∧ Below (w.alloc (.cells (setV (.slice (some a) l.length sc) mtu) 26)).heap.size (w.alloc (.cells (setV (.slice (some a) l.length sc) mtu) 26)) wx)
      case first =>
        go_wp2_with fail
        go_loopw [6, 48] (fun m i W => ∃ k : Nat, k ≤ M ∧ i = .int .i64 k ∧ m = .bool (may0 l.length mtu && mayTo l k) ∧ Below (w.alloc (.cells (setV (.slice (some a) l.length sc) mtu) 26)).heap.size (w.alloc (.cells (setV (.slice (some a) l.length sc) mtu) 26)) W) (fun _ i _ => M - (intOf i).toNat)
        case atStart => exact ⟨0, Nat.zero_le _, rfl, by simp [mayTo], Below.refl _ _⟩
        case round =>
          obtain ⟨wo, rfl⟩ : ∃ wo : World, wo = wr := ⟨_, rfl⟩
          obtain ⟨k, hk, rfl, rfl, hb⟩ := hrel
          rcases Nat.lt_or_ge k M with hlt | hge
          · obtain ⟨six, bs, hx⟩ : ∃ six bs, l[k]? = some (six, bs) := ⟨_, _, List.getElem?_eq_getElem (by omega)⟩
            have hfx : bs.length = 16 ∧ bs.getD 0 0 < 256 := hf (six, bs) (List.mem_of_getElem? hx)
            have hbw : Below w.heap.size w wo := Hbox.out.trans (hb.mono (by simp))
            have hld : (loadVar 29 (a.add (k * 17))).run Tryz.prog wo = .ok (.agg (cellsA six bs)) wo := (Hrow.out.below hbw ha).load hf hx
            have Hx := Lib.hid hx
            have Hb := Lib.hid hb
            have Hbw := Lib.hid hbw
            clear hx hb hbw
            go_upto_region 6 with (first
              | (refine wpList_load_agg rfl 29 _ rfl _ rfl (cellsA six bs) hld ?_)
              | (refine wpList_store_agg rfl 29 _ _ rfl _ rfl _ rfl _ (store_new wo _ rfl six bs hfx.1) ?_))
            clear hld
            go_frame
            go_cut [9] (fun s9 wx => s9 = .bool (groupL six bs) ∧ wx = wo.alloc (.cells (cellsA six bs) 29))
            case first =>
              have g0 := cellsA_zero six bs
              have g1 := cellsA_succ six bs 0 (by omega)
              have gb := hfx.2
              generalize hb0 : bs.getD 0 0 = b at g1 gb
              have HB0 := Lib.hid hb0
              clear hb0
              cases six
              · go_wp2_with fail
                go_meet
                refine ⟨?_, rfl⟩
                have e : ((b : Int) / 16 == 14) = (b / 16 == 14) := by rw [Bool.eq_iff_iff]; simp only [beq_iff_eq]; omega
                rw [e, ← HB0.out]; rfl
              · go_wp2_with fail
                all_goals
                  go_meet
                  refine ⟨?_, rfl⟩
                  have e : ((b : Int) == 255) = (b == 255) := by rw [Bool.eq_iff_iff]; simp only [beq_iff_eq]; omega
                  have hg : groupL true bs = (b == 255) := by rw [← HB0.out]; rfl
                  rw [hg, ← e]
                  first | done | (simp; omega)
            case rest =>
              obtain ⟨rfl, rfl⟩ := hcut
              generalize hm : (may0 l.length mtu && mayTo l k) = m
              have Hm := Lib.hid hm
              clear hm
              have hA : addrL six bs = (mayL six bs && !groupL six bs) := rfl
              have hMay := may20 six bs hfx.1 (wo.alloc (.cells (cellsA six bs) 29))
              have hrefl := Below.refl (wo.heap.size + 1) (wo.alloc (.cells (cellsA six bs) 29))
              have hsz : (wo.alloc (.cells (cellsA six bs) 29)).heap.size = wo.heap.size + 1 := by simp
              rw [hsz] at hMay
              have HR := Lib.hid hrefl
              clear hrefl hsz
              generalize groupL six bs = G at hA ⊢
              generalize mayL six bs = ML at hA hMay
              have HM := Lib.hid hMay
              have HA := Lib.hid hA
              clear hA hMay
              go_upto_region 7 with fail
              go_cut [6] (fun s6 wx => s6 = .bool (m && addrL six bs) ∧ Below (wo.heap.size + 1) (wo.alloc (.cells (cellsA six bs) 29)) wx)
              case first =>
                have hL := load29_last wo six bs hfx.1
                cases m
                · go_wp2_with fail
                  go_meet
                  exact ⟨rfl, HR.out⟩
                · cases ML <;> cases G
                  all_goals
                    go_wp2_with (first
                      | (refine wpList_load_aggG rfl 29 _ rfl _ rfl (cellsA six bs) hL ?_)
                      | (go_at_call 4; refine HM.out.mono ?_; rintro e w2 ⟨rfl, hb2⟩; have Hb2 := Lib.hid hb2; clear hb2))
                    go_meet
                    exact ⟨by rw [HA.out]; rfl, Hb2.out⟩
              case rest =>
                obtain ⟨rfl, hbA⟩ := hcut
                have HbA := Lib.hid hbA
                generalize hmA : (m && addrL six bs) = mA
                have HmA := Lib.hid hmA
                clear hbA hmA
                have hks : k ≤ sc := by omega
                go_wp2_with fail
                go_loopw [6, 86] (fun m i W => ∃ j : Nat, j ≤ k ∧ i = .int .i64 j ∧ m = .bool (mA && !(l.take j).any (fun y => six == y.1 && bs == y.2)) ∧ Below (wo.heap.size + 1) (wo.alloc (.cells (cellsA six bs) 29)) W) (fun _ i _ => k - (intOf i).toNat)
                case atStart => exact ⟨0, Nat.zero_le _, rfl, by simp, HbA.out⟩
                case round =>
                  obtain ⟨j, hj, rfl, rfl, hbi⟩ := hrel
                  have Hbi := Lib.hid hbi
                  have hwz := hbi.size
                  rw [World.size_alloc] at hwz
                  have hbwi : Below w.heap.size w wr := (Hbw.out.trans (((Below.refl wo.heap.size wo).alloc (Nat.le_refl _) (.cells (cellsA six bs) 29)).mono Hbw.out.size)).trans (hbi.mono (by have := Hbw.out.size; omega))
                  have Hbwi := Lib.hid hbwi
                  clear hbi
                  rcases Nat.lt_or_ge j k with hjk | hjk
                  · obtain ⟨six2, bs2, hy⟩ : ∃ six2 bs2, l[j]? = some (six2, bs2) := ⟨_, _, List.getElem?_eq_getElem (by omega)⟩
                    have hfy : bs2.length = 16 ∧ bs2.getD 0 0 < 256 := hf (six2, bs2) (List.mem_of_getElem? hy)
                    have hldy : (loadVar 29 (a.add (j * 17))).run Tryz.prog wr = .ok (.agg (cellsA six2 bs2)) wr := (Hrow.out.below hbwi ha).load hf hy
                    have hll := load29_last wr six2 bs2 hfy.1
                    have hlo : (loadVar 29 ⟨wo.heap.size, 0, none⟩).run Tryz.prog (wr.alloc (.cells (cellsA six2 bs2) 29)) = .ok (.agg (cellsA six bs)) (wr.alloc (.cells (cellsA six2 bs2) 29)) :=
                      load29_at _ wo.heap.size six bs hfx.1 fun i => by
                        rw [((Below.refl wr.heap.size wr).alloc (Nat.le_refl _) _).cell (p := ⟨wo.heap.size, i, none⟩) (by show wo.heap.size < _; omega), Hbi.out.cell (p := ⟨wo.heap.size, i, none⟩) (by show wo.heap.size < _; omega), cell_last]
                    have hE := equal29 six six2 bs bs2 hfx.1 hfy.1
                    have hsn := any_snoc hy (fun y => six == y.1 && bs == y.2)
                    generalize hrr : (six == six2 && bs == bs2) = r at hE hsn
                    generalize hq : (l.take j).any (fun y => six == y.1 && bs == y.2) = q at hsn ⊢
                    generalize hmi : (mA && !q) = mi
                    have Hmi := Lib.hid hmi
                    have Hsn := Lib.hid hsn
                    have HE := Lib.hid hE
                    clear hbwi hy hsn hrr hq hmi hE
                    have hbn : Below (wo.heap.size + 1) (wo.alloc (.cells (cellsA six bs) 29)) (wr.alloc (.cells (cellsA six2 bs2) 29)) := Hbi.out.alloc hwz _
                    have Hbn := Lib.hid hbn
                    clear hbn
                    cases mi
                    all_goals
                      go_wp2_with (first
                        | (refine wpList_load_agg rfl 29 _ rfl _ rfl (cellsA six2 bs2) hldy ?_)
                        | (refine wpList_store_agg rfl 29 _ _ rfl _ rfl _ rfl _ (store_new wr _ rfl six2 bs2 hfy.1) ?_)
                        | (refine wpList_load_aggG rfl 29 _ rfl _ rfl (cellsA six bs) hlo ?_)
                        | (refine wpList_load_aggG rfl 29 _ rfl _ rfl (cellsA six2 bs2) hll ?_)
                        | (refine wpList_exec rfl (exec_neq29 rfl rfl rfl (HE.out _)) ?_))
                      go_roundw
                      case rel => exact ⟨j + 1, by omega, by go_num, by rw [Hsn.out]; first | (have e := Hmi.out; revert e; cases mA <;> cases q <;> cases r <;> simp), Hbn.out⟩
                      case measure => simp [intOf]; omega
                  · obtain rfl : j = k := by omega
                    have hdup : dupL l j = (l.take j).any (fun y => six == y.1 && bs == y.2) := by unfold dupL; rw [Hx.out]
                    have hmt : mayTo l (j + 1) = (mayTo l j && addrL six bs && !dupL l j) := by rw [mayTo, Hx.out]
                    have hbk : Below (w.alloc (.cells (setV (.slice (some a) l.length sc) mtu) 26)).heap.size (w.alloc (.cells (setV (.slice (some a) l.length sc) mtu) 26)) wr :=
                      (Hb.out.trans (((Below.refl wo.heap.size wo).alloc (Nat.le_refl _) (.cells (cellsA six bs) 29)).mono Hb.out.size)).trans (Hbi.out.mono (by have := Hb.out.size; omega))
                    have Hbk := Lib.hid hbk
                    have Hmt := Lib.hid hmt
                    have Hdup := Lib.hid hdup
                    clear hbwi hmt hdup hbk
                    generalize hq : (l.take j).any (fun y => six == y.1 && bs == y.2) = q at Hdup ⊢
                    have Hq := Lib.hid hq
                    clear hq
                    go_wp2_with fail
                    go_roundw
                    case rel => exact ⟨j + 1, by omega, by go_num, by rw [Hmt.out, Hdup.out, ← HmA.out, ← Hm.out]; simp [Bool.and_assoc], Hbk.out⟩
                    case measure => simp [intOf]; omega
          · obtain rfl : k = M := by omega
            have Hb := Lib.hid hb
            clear hb
            go_wp2_with fail
            go_meet
            exact ⟨rfl, Hb.out⟩
      case rest =>
        obtain ⟨w1, rfl⟩ : ∃ w1 : World, w1 = wc := ⟨_, rfl⟩
        obtain ⟨rfl, hbc⟩ := hcut
        generalize hmay : (may0 l.length mtu && mayTo l M) = may
        have Hmay := Lib.hid hmay
        clear hmay
        have Hbc := Lib.hid hbc
        have hcs := hbc.size
        rw [World.size_alloc] at hcs
        have hset : (loadVar 26 ⟨w.heap.size, 0, none⟩).run Tryz.prog w1 = .ok (.agg (setV (.slice (some a) l.length sc) mtu)) w1 :=
          run_loadVar_agg (n := 11) (fun w => by kernel_rfl) (fun w => by kernel_rfl) _ _ rfl fun j v hj => by
            have hadd : (⟨w.heap.size, 0, none⟩ : Addr).add j = ⟨w.heap.size, j, none⟩ := by unfold Addr.add; split <;> simp_all
            rw [hadd, hbc.cell (p := ⟨w.heap.size, j, none⟩) (by simp), cell_last]; exact hj
        have hbw : Below w.heap.size w w1 := Hbox.out.trans (hbc.mono (by simp))
        have hnew := hostNew mtu a l sc h1 hsc w1 (Nat.lt_of_lt_of_le ha hbw.size) (Hrow.out.below hbw ha) hf
        rw [HMM.out, Hmay.out] at hnew
        have Hnew := Lib.hid hnew
        have Hbw := Lib.hid hbw
        clear hbc hbw hnew
        go_upto_region 14 with fail
        go_cut [12, 13] (fun s12 s13 wx => ∃ n, s13 = .int .i64 n ∧ Below w1.heap.size w1 wx ∧ ((may = true ∧ n = 0 ∧ ∃ b, s12 = .pointer (some ⟨b, 0, none⟩) ∧ HostAt wx b l) ∨ (may = false ∧ n = 1 ∧ s12 = .pointer none)))
        case first =>
          go_wp2_with (first
            | (refine wpList_load_agg rfl 26 _ rfl _ rfl (setV (.slice (some a) l.length sc) mtu) hset ?_)
            | (go_at_call 5; refine Hnew.out.mono ?_; rintro e w2 ⟨v2, n2, rfl, hb2, hd2⟩; have Hb2 := Lib.hid hb2; have Hd2 := Lib.hid hd2; clear hb2 hd2))
          go_meet
          exact ⟨n2, rfl, Hb2.out, Hd2.out⟩
        case rest =>
          obtain ⟨w3, rfl⟩ : ∃ w3 : World, w3 = wc := ⟨_, rfl⟩
          obtain ⟨n, rfl, hbx, hD⟩ := hcut
          have HD := Lib.hid hD
          have Hbx := Lib.hid hbx
          clear hD hbx hset
          go_upto_region 15 with fail
          go_cut [120] (fun s120 wx => s120 = .bool false ∧ wx = w3)
          case first =>
            rcases HD.out with ⟨hm, hn, b, hv, _⟩ | ⟨hm, hn, hv⟩
            · subst hm hn hv
              go_wp2_with fail
              go_meet
              exact ⟨rfl, rfl⟩
            · subst hm hn hv
              go_wp2_with fail
              go_meet
              exact ⟨rfl, rfl⟩
          case rest =>
            obtain ⟨rfl, hw3⟩ := hcut
            obtain rfl : w3 = wc := hw3.symm
            clear hw3
            have hA : ∀ six W, Below w3.heap.size w3 W → Calls Tryz.prog 6 #[u12, .bool six] W (AddrP (firstM may six l) W) := fun six W hb => by
              refine addrM may six l hf (fun hm => ?_) W w3 u12 hb ?_
              · have := Hmay.out; rw [hm] at this
                simp [may0] at this; omega
              · rcases HD.out with ⟨hm, hn, b, hv, hh⟩ | ⟨hm, hn, hv⟩
                · exact .inl ⟨hm, b, hv, hh⟩
                · exact .inr ⟨hm, hv⟩
            have HA := Lib.hid hA
            clear hA
            go_wp2_with fail
            go_loopw [123] (fun i W => ∃ r : Nat, r ≤ 2 ∧ i = .int .i64 r ∧ Below (w3.heap.size + 1) (w3.alloc (.cells #[.bool false, .bool true] 4)) W) (fun i _ => 2 - (intOf i).toNat)
            case atStart => exact ⟨0, by omega, rfl, Below.refl _ _⟩
            case round =>
              obtain ⟨wo, rfl⟩ : ∃ wo : World, wo = wr := ⟨_, rfl⟩
              obtain ⟨r, hr, rfl, hbo⟩ := hrel
              have hbo3 : Below w3.heap.size w3 wo := ((Below.refl _ w3).alloc (Nat.le_refl _) _).trans (hbo.mono (by omega))
              have hw3z := hbo.size
              rw [World.size_alloc] at hw3z
              have Hbo := Lib.hid hbo
              have Hbo3 := Lib.hid hbo3
              rcases Nat.lt_or_ge r 2 with hr2 | hr2
              · obtain ⟨six, hsix⟩ : ∃ six, wo.cell? ⟨w3.heap.size, r, none⟩ = some (.bool six) := by
                  rw [hbo.cell (p := ⟨w3.heap.size, r, none⟩) (by show w3.heap.size < _; omega), cell_last]
                  rcases r with _ | _ | r
                  · exact ⟨_, rfl⟩
                  · exact ⟨_, rfl⟩
                  · omega
                clear hbo hbo3
                go_wp2_with fail
                go_loopw [17, 129] (fun h i W => ∃ j : Nat, j ≤ l.length ∧ i = .int .i64 j ∧ h = .bool (firstM may six (l.take j)).2 ∧ Below wo.heap.size wo W ∧ WantAt W wo.heap.size (firstM may six (l.take j)).1) (fun _ i _ => l.length - (intOf i).toNat)
                case atStart => exact ⟨0, Nat.zero_le _, rfl, by rw [List.take_zero, firstM_nil], (Below.refl _ wo).alloc (Nat.le_refl _) _, by rw [List.take_zero, firstM_nil]; exact heap_alloc_last _ _⟩
                case round =>
                  obtain ⟨j, hj, rfl, rfl, hbi, hblk⟩ := hrel
                  have hbwo : Below w.heap.size w wo := Hbw.out.trans ((Hbx.out.trans (Hbo3.out.mono Hbx.out.size)).mono Hbw.out.size)
                  have hbwi : Below w.heap.size w wr := hbwo.trans (hbi.mono hbwo.size)
                  have hwz : wo.heap.size < wr.heap.size := (Array.getElem?_eq_some_iff.1 hblk).1
                  have Hbi := Lib.hid hbi
                  have Hblk := Lib.hid hblk
                  have Hbwi := Lib.hid hbwi
                  have Hlen := Lib.hid (firstM_len may six (l.take j) (hf.take j))
                  clear hbi hblk hbwo
                  rcases Nat.lt_or_ge j l.length with hjl | hjl
                  · obtain ⟨s2, bs2, hy⟩ : ∃ s2 bs2, l[j]? = some (s2, bs2) := ⟨_, _, List.getElem?_eq_getElem (by omega)⟩
                    have hfy : bs2.length = 16 ∧ bs2.getD 0 0 < 256 := hf (s2, bs2) (List.mem_of_getElem? hy)
                    have hldy : (loadVar 29 (a.add (j * 17))).run Tryz.prog wr = .ok (.agg (cellsA s2 bs2)) wr := (Hrow.out.below hbwi ha).load hf hy
                    have hll := load29_last wr s2 bs2 hfy.1
                    have hsn := firstM_snoc (may := may) (six := six) hy
                    have g0 := cellsA_zero s2 bs2
                    have hblk2 : (wr.alloc (.cells (cellsA s2 bs2) 29)).heap[wo.heap.size]? = some (.cells (cellsA (firstM may six (l.take j)).1.1 (firstM may six (l.take j)).1.2) 29 (0, 0)) :=
                      (((Below.refl wr.heap.size wr).alloc (Nat.le_refl _) _).block _ hwz).trans Hblk.out
                    have hst16 : (storeVar 29 ⟨wo.heap.size, 0, none⟩ (.agg (cellsA s2 bs2))).run Tryz.prog (wr.alloc (.cells (cellsA s2 bs2) 29)) = .ok () ((wr.alloc (.cells (cellsA s2 bs2) 29)).setRow wo.heap.size (cellsA s2 bs2)) :=
                      run_storeVar_row _ wo.heap.size _ 29 _ _ hblk2 (infoA _ (cellsA_size _ _ hfy.1)) (by rw [cellsA_size _ _ hfy.1, cellsA_size _ _ Hlen.out]) (cellsA_all _ _)
                    have hbn : Below wo.heap.size wo (wr.alloc (.cells (cellsA s2 bs2) 29)) := Hbi.out.alloc (by omega) _
                    have hbn2 : Below wo.heap.size wo ((wr.alloc (.cells (cellsA s2 bs2) 29)).setRow wo.heap.size (cellsA s2 bs2)) := hbn.trans ⟨rfl, rfl, rfl, by simp [World.setRow], fun q hq => setRow_other _ _ _ _ (by omega)⟩
                    have hblk3 := setRow_heap _ _ _ (cellsA s2 bs2) _ _ hblk2
                    have Hsn := Lib.hid hsn
                    have Hblk2 : Hid (WantAt _ _ _) := Lib.hid hblk2
                    have Hblk3 : Hid (WantAt _ _ (s2, bs2)) := Lib.hid hblk3
                    have Hbn := Lib.hid hbn
                    have Hbn2 := Lib.hid hbn2
                    have Hst := Lib.hid hst16
                    clear hbwi hy hsn hblk2 hblk3 hbn hbn2
                    generalize hF : firstM may six (l.take j) = F at Hblk Hblk2 Hblk3 Hsn Hlen ⊢
                    have HF := Lib.hid hF
                    clear hF
                    obtain ⟨⟨f1, f2⟩, f3⟩ := F
                    cases may
                    · clear hst16 hll
                      go_wp2_with (first
                        | (refine wpList_load_agg rfl 29 _ rfl _ rfl (cellsA s2 bs2) hldy ?_)
                        | (refine wpList_store_agg rfl 29 _ _ rfl _ rfl _ rfl _ (store_new wr _ rfl s2 bs2 hfy.1) ?_))
                      go_roundw
                      case rel => exact ⟨_, _, _, ⟨j + 1, by omega, by go_num, by rw [Hsn.out]; simp, Hbn.out, by rw [Hsn.out]; exact Hblk2.out⟩, rfl, rfl, rfl⟩
                      case measure => simp [intOf]; omega
                    · cases f3
                      · cases s2 <;> cases six
                        · go_wp2_with (first
                        | (refine wpList_load_agg rfl 29 _ rfl _ rfl (cellsA false bs2) hldy ?_)
                        | (refine wpList_store_agg rfl 29 _ _ rfl _ rfl _ rfl _ (store_new wr _ rfl false bs2 hfy.1) ?_)
                        | (refine wpList_load_agg rfl 29 _ rfl _ rfl (cellsA false bs2) hll ?_)
                        | (refine wpList_store_agg rfl 29 _ _ rfl _ rfl _ rfl _ hst16 ?_))
                          go_roundw
                          case rel => exact ⟨_, _, _, ⟨j + 1, by omega, by go_num, by rw [Hsn.out]; simp, Hbn2.out, by rw [Hsn.out]; exact Hblk3.out⟩, rfl, rfl, rfl⟩
                          case measure => simp [intOf]; omega
                        · clear hst16 hll
                          go_wp2_with (first
                        | (refine wpList_load_agg rfl 29 _ rfl _ rfl (cellsA false bs2) hldy ?_)
                        | (refine wpList_store_agg rfl 29 _ _ rfl _ rfl _ rfl _ (store_new wr _ rfl false bs2 hfy.1) ?_))
                          go_roundw
                          case rel => exact ⟨_, _, _, ⟨j + 1, by omega, by go_num, by rw [Hsn.out]; simp, Hbn.out, by rw [Hsn.out]; exact Hblk2.out⟩, rfl, rfl, rfl⟩
                          case measure => simp [intOf]; omega
                        · clear hst16 hll
                          go_wp2_with (first
                        | (refine wpList_load_agg rfl 29 _ rfl _ rfl (cellsA true bs2) hldy ?_)
                        | (refine wpList_store_agg rfl 29 _ _ rfl _ rfl _ rfl _ (store_new wr _ rfl true bs2 hfy.1) ?_))
                          go_roundw
                          case rel => exact ⟨_, _, _, ⟨j + 1, by omega, by go_num, by rw [Hsn.out]; simp, Hbn.out, by rw [Hsn.out]; exact Hblk2.out⟩, rfl, rfl, rfl⟩
                          case measure => simp [intOf]; omega
                        · go_wp2_with (first
                        | (refine wpList_load_agg rfl 29 _ rfl _ rfl (cellsA true bs2) hldy ?_)
                        | (refine wpList_store_agg rfl 29 _ _ rfl _ rfl _ rfl _ (store_new wr _ rfl true bs2 hfy.1) ?_)
                        | (refine wpList_load_agg rfl 29 _ rfl _ rfl (cellsA true bs2) hll ?_)
                        | (refine wpList_store_agg rfl 29 _ _ rfl _ rfl _ rfl _ hst16 ?_))
                          go_roundw
                          case rel => exact ⟨_, _, _, ⟨j + 1, by omega, by go_num, by rw [Hsn.out]; simp, Hbn2.out, by rw [Hsn.out]; exact Hblk3.out⟩, rfl, rfl, rfl⟩
                          case measure => simp [intOf]; omega
                      · clear hst16 hll
                        go_wp2_with (first
                        | (refine wpList_load_agg rfl 29 _ rfl _ rfl (cellsA s2 bs2) hldy ?_)
                        | (refine wpList_store_agg rfl 29 _ _ rfl _ rfl _ rfl _ (store_new wr _ rfl s2 bs2 hfy.1) ?_))
                        go_roundw
                        case rel => exact ⟨_, _, _, ⟨j + 1, by omega, by go_num, by rw [Hsn.out]; simp, Hbn.out, by rw [Hsn.out]; exact Hblk2.out⟩, rfl, rfl, rfl⟩
                        case measure => simp [intOf]; omega
                  · obtain rfl : j = l.length := by omega
                    have hA := HA.out six wr (Hbo3.out.trans (Hbi.out.mono (Hbo3.out.size)))
                    have hlen := Hlen.out
                    have hblk := Hblk.out
                    rw [List.take_length] at hlen hblk
                    generalize hF : firstM may six l = F at hA hlen hblk
                    have hF' : firstM may six (l.take l.length) = F := by rw [List.take_length]; exact hF
                    rw [hF'] at Hlen Hblk ⊢
                    obtain ⟨⟨f1, f2⟩, f3⟩ := F
                    have HAd := Lib.hid hA
                    have HF := Lib.hid hF
                    have hle := equal29 f1 f1 f2 f2 hlen hlen
                    rw [beq_self_eq_true, beq_self_eq_true, Bool.and_true] at hle
                    have HE := Lib.hid hle
                    have Hw : Hid (WantAt _ _ _) := Lib.hid hblk
                    have hw16 : ∀ W c, Below wr.heap.size wr W → (loadVar 29 ⟨wo.heap.size, 0, none⟩).run Tryz.prog (W.alloc (.cells c 29)) = .ok (.agg (cellsA f1 f2)) (W.alloc (.cells c 29)) := fun W c hb =>
                      run_loadVar_row _ wo.heap.size 29 29 _ (0, 0) _ (((hb.trans ((Below.refl _ W).alloc hb.size _)).block _ hwz).trans Hw.out) Tryz.underlying29 rfl (infoA _ (cellsA_size _ _ hlen))
                    have Hw16 := Lib.hid hw16
                    have hbend : ∀ W c, Below wr.heap.size wr W → Below (w3.heap.size + 1) (w3.alloc (.cells #[.bool false, .bool true] 4)) (W.alloc (.cells c 29)) := fun W c hb =>
                      ((Hbo.out.trans (Hbi.out.mono (by omega))).trans (hb.mono (by omega))).alloc (by have := hb.size; omega) _
                    have Hbend := Lib.hid hbend
                    have hhA := hblk
                    clear hA hF hle hblk hw16 hbend hF' hhA
                    go_wp2_with (first
                      | (go_at_call 6; refine HAd.out.mono ?_; rintro e w5 ⟨rfl, hb5⟩; have hl20 := load29_last w5 f1 f2 hlen; have hl16 := Hw16.out w5 (cellsA f1 f2) hb5; have HB := Lib.hid (Hbend.out w5 (cellsA f1 f2) hb5); clear hb5)
                      | (refine wpList_store_agg rfl 29 _ _ rfl _ rfl _ rfl _ (store_new w5 _ rfl f1 f2 hlen) ?_)
                      | (refine wpList_load_agg rfl 29 _ rfl _ rfl (cellsA f1 f2) hl20 ?_)
                      | (refine wpList_load_agg rfl 29 _ rfl _ rfl (cellsA f1 f2) hl16 ?_)
                      | (refine wpList_exec rfl (exec_neq29 rfl rfl rfl (HE.out _)) ?_))
                    go_roundw
                    case rel => exact ⟨r + 1, by omega, by go_num, HB.out⟩
                    case measure => simp [intOf]; omega
              · obtain rfl : r = 2 := by omega
                have hal := Go.Am.alive29 wo
                have Hal := Lib.hid hal
                have hbw2 : Below w.heap.size w wo := Hbw.out.trans ((Hbx.out.trans (hbo3.mono Hbx.out.size)).mono Hbw.out.size)
                have Hbw2 := Lib.hid hbw2
                clear hal hbw2 hbo3 hbo
                go_wp2_with (first
                  | (go_at_call 7; refine Hal.out.mono ?_; rintro e w5 ⟨rfl, hb5⟩; have Hb5 := Lib.hid hb5; clear hb5))
                go_ret
                exact ⟨rfl, Hbw2.out.trans (Hb5.out.mono Hbw2.out.size)⟩
end Go.Hm
