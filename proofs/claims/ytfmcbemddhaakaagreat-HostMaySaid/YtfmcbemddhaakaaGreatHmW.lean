/- HostMay: the law, at no address. -/
import Derived.Test.YtfmcbemddhaakaaGreatHmS
import Derived.Deep.CutBlock
set_option linter.unusedSimpArgs false
set_option linter.unusedVariables false
set_option linter.constructorNameAsVariable false
namespace Go.Hm
open Go Go.Proofs Go.RowKit
set_option maxRecDepth 100000 in
set_option maxHeartbeats 4000000 in
theorem law_none (mtu : Int) (a : Option Addr) (sc : Nat) (w : World) :
    Calls Tryz.prog 3 #[.slice a 0 sc, .int .i64 mtu] w fun e w' => e = .returned (.bool true) ∧ Below w.heap.size w w' := by
  have hbox : Below w.heap.size w (w.alloc (.cells (setV (.slice a 0 sc) mtu) 26)) := (Below.refl _ w).alloc (Nat.le_refl _) _
  have hnew := new_A mtu a sc (w.alloc (.cells (setV (.slice a 0 sc) mtu) 26))
  have hset : (loadVar 26 ⟨w.heap.size, 0, none⟩).run Tryz.prog (w.alloc (.cells (setV (.slice a 0 sc) mtu) 26)) = .ok (.agg (setV (.slice a 0 sc) mtu)) (w.alloc (.cells (setV (.slice a 0 sc) mtu) 26)) :=
    run_loadVar_agg (n := 11) (fun w => by kernel_rfl) (fun w => by kernel_rfl) _ _ rfl fun j v hj => by
      have hadd : (⟨w.heap.size, 0, none⟩ : Addr).add j = ⟨w.heap.size, j, none⟩ := by unfold Addr.add; split <;> simp_all
      rw [hadd, cell_last]; exact hj
  have Hbox := Lib.hid hbox
  have Hnew := Lib.hid hnew
  clear hbox hnew
  go_enter Tryz.func3, Tryz.ntmps3
  go_wp2_with fail
  refine wp_loop_rounds 1 ?_
  rw [rounds_succ]
  go_wp2_with (first
    | (refine wpList_load_agg rfl 26 (.tmp 5) rfl _ rfl (setV (.slice a 0 sc) mtu) hset ?_)
    | (go_at_call 5; refine Hnew.out.mono ?_; rintro e w3 ⟨rfl, hb3⟩; have Hb3 := Lib.hid hb3; clear hb3))
  have hbw3 : Below w.heap.size w w3 := Hbox.out.trans (Hb3.out.mono (by simp))
  have Hbw3 := Lib.hid hbw3
  clear hbw3 hset
  go_loopw [123] (fun i W => ∃ r : Nat, r ≤ 2 ∧ i = .int .i64 r ∧ Below (w3.heap.size + 1) (w3.alloc (.cells #[.bool false, .bool true] 4)) W) (fun i _ => 2 - (intOf i).toNat)
  case atStart => exact ⟨0, by omega, rfl, Below.refl _ _⟩
  case round =>
    obtain ⟨wo, rfl⟩ : ∃ wo : World, wo = wr := ⟨_, rfl⟩
    obtain ⟨r, hr, rfl, hbo⟩ := hrel
    have hbo3 : Below w3.heap.size w3 wo := ((Below.refl _ w3).alloc (Nat.le_refl _) _).trans (hbo.mono (by omega))
    have hw3z := hbo.size
    rw [World.size_alloc] at hw3z
    have Hbo := Lib.hid hbo
    have Hbo3 := Lib.hid hbo3
    rcases Nat.lt_or_ge r 2 with hr2 | hr2
    · obtain ⟨six, hsix⟩ : ∃ six, wo.cell? ⟨w3.heap.size, r, none⟩ = some (.bool six) := by
        rw [hbo.cell (p := ⟨w3.heap.size, r, none⟩) (by show w3.heap.size < _; omega), cell_last]
        rcases r with _ | _ | r
        · exact ⟨_, rfl⟩
        · exact ⟨_, rfl⟩
        · omega
      clear hbo hbo3
      go_wp2_with fail
      refine wp_loop_rounds 1 ?_
      rw [rounds_succ]
      have hzl : (List.replicate 16 0).length = 16 := rfl
      have hA := addr_nil six (wo.alloc (.cells (cellsA false (List.replicate 16 0)) 29))
      have HAd := Lib.hid hA
      have hle := equal29 false false (List.replicate 16 0) (List.replicate 16 0) rfl rfl
      rw [beq_self_eq_true, beq_self_eq_true, Bool.and_true] at hle
      have HE := Lib.hid hle
      have hw16 : ∀ W c, Below (wo.alloc (.cells (cellsA false (List.replicate 16 0)) 29)).heap.size (wo.alloc (.cells (cellsA false (List.replicate 16 0)) 29)) W → (loadVar 29 ⟨wo.heap.size, 0, none⟩).run Tryz.prog (W.alloc (.cells c 29)) = .ok (.agg (cellsA false (List.replicate 16 0))) (W.alloc (.cells c 29)) := fun W c hb =>
        run_loadVar_row _ wo.heap.size 29 29 _ (0, 0) _ (((hb.trans ((Below.refl _ W).alloc hb.size _)).block _ (by simp)).trans (heap_alloc_last _ _)) Tryz.underlying29 rfl (infoA _ (cellsA_size _ _ hzl))
      have Hw16 := Lib.hid hw16
      have hbend : ∀ W c, Below (wo.alloc (.cells (cellsA false (List.replicate 16 0)) 29)).heap.size (wo.alloc (.cells (cellsA false (List.replicate 16 0)) 29)) W → Below (w3.heap.size + 1) (w3.alloc (.cells #[.bool false, .bool true] 4)) (W.alloc (.cells c 29)) := fun W c hb =>
        ((Hbo.out.trans ((Below.refl wo.heap.size wo).alloc (Nat.le_refl _) _ |>.mono (by omega))).trans (hb.mono (by simp; omega))).alloc (by have := hb.size; simp at this; omega) _
      have Hbend := Lib.hid hbend
      clear hA hle hw16 hbend
      go_wp2_with (first
        | (go_at_call 6; refine HAd.out.mono ?_; rintro e w5 ⟨rfl, hb5⟩; have hl20 := load29_last w5 false (List.replicate 16 0) hzl; have hl16 := Hw16.out w5 (cellsA false (List.replicate 16 0)) hb5; have HB := Lib.hid (Hbend.out w5 (cellsA false (List.replicate 16 0)) hb5); clear hb5)
        | (refine wpList_store_agg rfl 29 (.tmp 20) (.tmp 150) rfl _ rfl _ rfl _ (store_new w5 _ rfl false (List.replicate 16 0) hzl) ?_)
        | (refine wpList_load_agg rfl 29 (.tmp 20) rfl _ rfl (cellsA false (List.replicate 16 0)) hl20 ?_)
        | (refine wpList_load_agg rfl 29 (.tmp 16) rfl _ rfl (cellsA false (List.replicate 16 0)) hl16 ?_)
        | (refine wpList_exec rfl (exec_neq29 rfl rfl rfl (HE.out _)) ?_))
      go_roundw
      case rel => exact ⟨r + 1, by omega, by go_num, HB.out⟩
      case measure => simp [intOf]; omega
    · obtain rfl : r = 2 := by omega
      have hal := Go.Am.alive29 wo
      have Hal := Lib.hid hal
      have hbw2 : Below w.heap.size w wo := Hbw3.out.trans (hbo3.mono Hbw3.out.size)
      have Hbw2 := Lib.hid hbw2
      clear hal hbw2 hbo3 hbo
      go_wp2_with (first
        | (go_at_call 7; refine Hal.out.mono ?_; rintro e w5 ⟨rfl, hb5⟩; have Hb5 := Lib.hid hb5; clear hb5))
      go_ret
      exact ⟨rfl, Hbw2.out.trans (Hb5.out.mono Hbw2.out.size)⟩
end Go.Hm
