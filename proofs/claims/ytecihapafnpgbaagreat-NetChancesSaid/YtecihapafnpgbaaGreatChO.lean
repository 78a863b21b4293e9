/- NetChances: addr.Of. -/
import Derived.Test.YtecihapafnpgbaaGreatChL
import Derived.Laws.CopyOwn
set_option linter.unusedSimpArgs false
set_option linter.unusedVariables false
set_option linter.constructorNameAsVariable false
set_option linter.unusedSectionVars false
namespace Go.Ch
open Go Go.Am Go.Hm Go.Proofs Go.RowKit
set_option maxRecDepth 100000
theorem results_cell_tmp {P : Program} {fn : Func} {k j : Nat} {T : TypeId} {tmps : Array Value} {w : World} {p : Go.Addr} {c : Array Value} {v : Value}
    (hr : fn.results = #[.cell k T, .tmp j]) (hk : tmps[k]? = some (.pointer (some p))) (hl : (loadVar T p).run P w = .ok (.agg c) w) (hj : tmps[j]? = some v) :
    (results fn tmps).run P w = .ok (.tuple #[.agg c, v]) w := by
  have ha : (asAddr (.pointer (some p))).run P w = .ok p w := rfl
  simp [results, hr, Sem.run_bind, Result.andThen, hk, hj, ha, hl]
theorem setRow_below (w : World) (g n : Nat) (cs : Array Value) (h : n ≤ g) : Below n w (w.setRow g cs) := ⟨rfl, rfl, rfl, by simp [World.setRow], fun k hk => setRow_other _ _ _ _ (by omega)⟩
theorem info17 : (Tryz.prog.info? 32).map (·.size) = some 17 := by kernel_rfl
theorem addrOf (v : Value) (p q r s : Nat) (w : World) (h : BytesAt w v [p, q, r, s]) :
    Calls Tryz.prog 176 #[v] w fun e w' => e = .returned (.tuple #[.agg (adC p q r s), .int .i64 0]) ∧ Below w.heap.size w w' := by
  obtain ⟨b, o, c, rfl, hc1, hc2, hcell⟩ := h.open (by simp)
  have q0 := hcell 0 _ rfl
  have q1 := hcell 1 _ rfl
  have q2 := hcell 2 _ rfl
  have q3 := hcell 3 _ rfl
  simp only [List.length_cons, List.length_nil, Nat.zero_add, Nat.reduceAdd, Nat.add_zero] at hc1 q0 q1 q2 q3 ⊢
  clear hcell h
  go_enter Tryz.func176, Tryz.ntmps176
  go_upto_region 4 with fail
  have hW : (((w.alloc (.cells (adC 0 0 0 0) 32)).alloc (.cells (adC 0 0 0 0) 32)).heap[w.heap.size + 1]? = some (.cells (adC 0 0 0 0) 32)) := by
    have := heap_alloc_new (w.alloc (.cells (adC 0 0 0 0) 32)) (.cells (adC 0 0 0 0) 32)
    simpa using this
  have hW0 : (((w.alloc (.cells (adC 0 0 0 0) 32)).alloc (.cells (adC 0 0 0 0) 32)).heap[w.heap.size]? = some (.cells (adC 0 0 0 0) 32)) := by
    have h1 := heap_alloc_new w (.cells (adC 0 0 0 0) 32)
    have h2 : Below (w.heap.size + 1) (w.alloc (.cells (adC 0 0 0 0) 32)) ((w.alloc (.cells (adC 0 0 0 0) 32)).alloc (.cells (adC 0 0 0 0) 32)) := (Below.refl _ _).alloc (by simp) _
    rw [h2.block _ (by omega)]
    exact h1
  have hWs : w.heap.size + 2 = ((w.alloc (.cells (adC 0 0 0 0) 32)).alloc (.cells (adC 0 0 0 0) 32)).heap.size := by simp
  have hWb : Below w.heap.size w ((w.alloc (.cells (adC 0 0 0 0) 32)).alloc (.cells (adC 0 0 0 0) 32)) := ((Below.refl _ _).alloc (Nat.le_refl _) _).alloc (by simp) _
  have hWc : ∀ j v, ([.int .u8 p, .int .u8 q, .int .u8 r, .int .u8 s] : List Value)[j]? = some v → ((w.alloc (.cells (adC 0 0 0 0) 32)).alloc (.cells (adC 0 0 0 0) 32)).cell? ((⟨b, o, none⟩ : Go.Addr).add j) = some v := by
    intro j v hj
    rw [Addr.add_lit]
    rcases j with _ | _ | _ | _ | j
    · cases hj; rw [Nat.add_zero, hWb.cell (World.block_lt_of_cell? w _ q0)]; exact q0
    · cases hj; rw [hWb.cell (World.block_lt_of_cell? w _ q1)]; exact q1
    · cases hj; rw [hWb.cell (World.block_lt_of_cell? w _ q2)]; exact q2
    · cases hj; rw [hWb.cell (World.block_lt_of_cell? w _ q3)]; exact q3
    · simp at hj
  generalize (w.alloc (.cells (adC 0 0 0 0) 32)).alloc (.cells (adC 0 0 0 0) 32) = W at hW hW0 hWs hWb hWc ⊢
  clear q0 q1 q2 q3
  go_upto_region 5 with (first
    | (refine wpList_copy_own rfl _ _ _ _ rfl 5 Tryz.underlying26 (by kernel_rfl) (w.heap.size + 1) 1 16 16 ⟨b, o, none⟩ 4 c (by rfl) (by rfl) (adC 0 0 0 0) 32 hW [.int .u8 p, .int .u8 q, .int .u8 r, .int .u8 s] (by rfl) hWc (by simp) (by simp [Value.oneCell']) ?_))
  rw [show ∀ (x : Array Value), x = (adC p q r s) → W.setRow (w.heap.size + 1) x = W.setRow (w.heap.size + 1) (adC p q r s) from fun x h => by rw [h]]
  rotate_left
  · rfl
  have h2 := setRow_heap W (w.heap.size + 1) _ (adC p q r s) _ _ hW
  have h3 : (W.setRow (w.heap.size + 1) (adC p q r s)).heap[w.heap.size]? = some (.cells (adC 0 0 0 0) 32) := by rw [setRow_other _ _ _ _ (by omega)]; exact hW0
  have h4 : Below w.heap.size w (W.setRow (w.heap.size + 1) (adC p q r s)) := hWb.trans (setRow_below _ _ _ _ (by omega))
  have h5 : (W.setRow (w.heap.size + 1) (adC p q r s)).heap.size = W.heap.size := by simp [World.setRow]
  generalize W.setRow (w.heap.size + 1) (adC p q r s) = V at h2 h3 h4 h5 ⊢
  clear hW hW0 hWc
  have hl : (loadVar 32 ⟨w.heap.size + 1, 0, none⟩).run Tryz.prog V = .ok (.agg (adC p q r s)) V :=
    run_loadVar_row _ _ 32 32 _ (0, 0) _ h2 Tryz.underlying32 rfl info17
  have hst : (storeVar 32 ⟨w.heap.size, 0, none⟩ (.agg (adC p q r s))).run Tryz.prog V = .ok () (V.setRow w.heap.size (adC p q r s)) :=
    run_storeVar_row V w.heap.size _ 32 _ _ h3 info17 rfl (by simp [Value.oneCell'])
  have hl2 : (loadVar 32 ⟨w.heap.size, 0, none⟩).run Tryz.prog (V.setRow w.heap.size (adC p q r s)) = .ok (.agg (adC p q r s)) (V.setRow w.heap.size (adC p q r s)) :=
    run_loadVar_row _ _ 32 32 _ (0, 0) _ (setRow_heap _ _ _ _ _ _ h3) Tryz.underlying32 rfl info17
  go_wp2_with (first
    | (refine wpList_load_agg rfl 32 _ rfl _ rfl (adC p q r s) hl ?_)
    | (refine wpList_store_agg rfl 32 _ _ rfl _ rfl _ rfl _ hst ?_))
  exact bodyPost_ret (results_cell_tmp Tryz.results176 rfl hl2 rfl) rfl ⟨rfl, h4.trans (setRow_below _ _ _ _ (Nat.le_refl _))⟩
end Go.Ch
