/- HostMay: Host.Addr. -/
import Derived.Test.YtfmcbemddhaakaaGreatHmP
set_option linter.unusedSimpArgs false
set_option linter.unusedVariables false
set_option linter.constructorNameAsVariable false
namespace Go.Hm
open Go Go.Proofs Go.RowKit
set_option maxRecDepth 100000 in
theorem ok_nil (w : World) : Calls Tryz.prog 19 #[.pointer none] w fun e w' => e = .returned (.bool false) ∧ w = w' := by
  go_enter Tryz.func19, Tryz.ntmps19
  go_wp2
  go_ret
  simp
set_option maxRecDepth 100000 in
theorem ok_host (W : World) (b : Nat) (t : Addr) (h : W.cell? ⟨b, 0, none⟩ = some (.pointer (some t))) : Calls Tryz.prog 19 #[.pointer (some ⟨b, 0, none⟩)] W fun e w' => e = .returned (.bool true) ∧ W = w' := by
  go_enter Tryz.func19, Tryz.ntmps19
  go_wp2
  go_ret
  simp
set_option maxRecDepth 100000 in
theorem same21 (six : Bool) (x : Ad) (p : Addr) (W : World) (hp : W.cell? p = some (.bool six)) :
    Calls Tryz.prog 21 #[.agg (cellsA x.1 x.2), .pointer (some p)] W fun e W' => e = .returned (.bool (x.1 == six)) ∧ Below W.heap.size W W' := by
  have h0 := cellsA_zero x.1 x.2
  generalize x.1 = s at h0
  generalize x.2 = bs at h0
  have hpb := World.block_lt_of_cell? W p hp
  have hp2 : (W.alloc (.cells (cellsA s bs) 29)).cell? p = some (.bool six) := by
    rw [((Below.refl W.heap.size W).alloc (Nat.le_refl _) _).cell hpb]; exact hp
  clear hp
  go_enter Tryz.func21, Tryz.ntmps21
  cases s <;> cases six
  all_goals
    go_wp2
    go_ret
    exact ⟨rfl, (Below.refl _ W).alloc (Nat.le_refl _) _⟩
theorem results_cell_tmp {P : Program} {fn : Func} {k j : Nat} {T : TypeId} {tmps : Array Value} {w : World} {p : Addr} {c : Array Value} {v : Value}
    (hr : fn.results = #[.cell k T, .tmp j]) (hk : tmps[k]? = some (.pointer (some p))) (hl : (loadVar T p).run P w = .ok (.agg c) w) (hj : tmps[j]? = some v) :
    (results fn tmps).run P w = .ok (.tuple #[.agg c, v]) w := by
  have ha : (asAddr (.pointer (some p))).run P w = .ok p w := rfl
  simp [results, hr, Sem.run_bind, Result.andThen, hk, hj, ha, hl]
/-- The first address of a kind; whether there is one. -/
def firstL (six : Bool) (l : List Ad) : Ad × Bool := match l.find? (fun x => x.1 == six) with | some x => (x, true) | none => ((false, List.replicate 16 0), false)
def AddrP (x : Ad × Bool) (w : World) (e : Ending) (w' : World) : Prop := e = .returned (.tuple #[.agg (cellsA x.1.1 x.1.2), .bool x.2]) ∧ Below w.heap.size w w'
set_option maxRecDepth 100000 in
set_option maxHeartbeats 1000000 in
theorem addr_nil (six : Bool) (w : World) : Calls Tryz.prog 6 #[.pointer none, .bool six] w (AddrP ((false, List.replicate 16 0), false) w) := by
  go_enter Tryz.func6, Tryz.ntmps6
  go_wp2_with (first | (go_at_call 19; refine (ok_nil _).mono ?_; rintro e w' ⟨rfl, rfl⟩))
  have hb : Below w.heap.size w ((w.alloc (.cells #[.bool six] 4)).alloc (.cells (cellsA false (List.replicate 16 0)) 29)) := ((Below.refl _ w).alloc (Nat.le_refl _) _).alloc (by simp) _
  have hl := load29_last (w.alloc (.cells #[.bool six] 4)) false (List.replicate 16 0) rfl
  rw [World.size_alloc] at hl
  exact bodyPost_ret (results_cell_tmp Tryz.results6 rfl hl rfl) rfl ⟨rfl, hb⟩
theorem index_cases (p : Ad → Bool) (l : List Ad) : (indexL p l = -1 ∧ l.find? p = none) ∨ ∃ i x, indexL p l = ((i : Nat) : Int) ∧ l[i]? = some x ∧ l.find? p = some x := by
  unfold indexL
  cases hf : l.findIdx? p with
  | none => exact .inl ⟨rfl, List.find?_eq_none.2 fun x hx => by simpa using List.findIdx?_eq_none_iff.1 hf x hx⟩
  | some k =>
    obtain ⟨hk, hp, hz⟩ := List.findIdx?_eq_some_iff_getElem.1 hf
    exact .inr ⟨k, l[k], rfl, List.getElem?_eq_getElem hk, List.find?_eq_some_iff_getElem.2 ⟨hp, k, hk, rfl, fun j hj => by simpa using hz j hj⟩⟩
set_option maxRecDepth 100000 in
set_option maxHeartbeats 2000000 in
theorem addr_host (six : Bool) (l : List Ad) (hf : Fine l) (h4 : l.length ≤ 1000) (b : Nat) (w : World) (h : HostAt w b l) : Calls Tryz.prog 6 #[.pointer (some ⟨b, 0, none⟩), .bool six] w (AddrP (firstL six l) w) := by
  obtain ⟨⟨t, ht⟩, a, sc, h1, hrow, ha⟩ := h
  have hbl := World.block_lt_of_cell? w _ ht
  have hen : ∀ args W, (callFunc 21 args).run Tryz.prog W = .ok (.enter 21 args) W := fun args W => Go.Am.run_callFunc Tryz.func21 rfl (by kernel_rfl) W
  obtain ⟨wz, hwz⟩ : ∃ wz, ((w.alloc (.cells #[.bool six] 4)).alloc (.cells (cellsA false (List.replicate 16 0)) 29)) = wz := ⟨_, rfl⟩
  have hbz : Below w.heap.size w wz := by rw [← hwz]; exact ((Below.refl _ w).alloc (Nat.le_refl _) _).alloc (by simp) _
  have hzs : wz.heap.size = w.heap.size + 2 := by rw [← hwz]; simp
  have hzp : wz.cell? ⟨w.heap.size, 0, none⟩ = some (.bool six) := by
    rw [← hwz, ((Below.refl (w.heap.size + 1) (w.alloc (.cells #[.bool six] 4))).alloc (by simp) _).cell (p := ⟨w.heap.size, 0, none⟩) (by show w.heap.size < _; omega), cell_last]; rfl
  have hc := index107 21 #[.pointer (some ⟨w.heap.size, 0, none⟩)] (fun x => x.1 == six) a l sc wz wz.heap.size (Nat.le_refl _) (by have := hbz.size; omega) (hrow.below hbz ha) hf (by omega) hen fun x hx W' hb' =>
    same21 six x ⟨w.heap.size, 0, none⟩ W' (by rw [hb'.cell (p := ⟨w.heap.size, 0, none⟩) (by show w.heap.size < _; omega)]; exact hzp)
  have hPn : ∀ w2, l.find? (fun x => x.1 == six) = none → Below w.heap.size w w2 → AddrP (firstL six l) w (.returned (.tuple #[.agg (cellsA false (List.replicate 16 0)), .bool false])) w2 := fun w2 hn hb => by
    unfold firstL; rw [hn]; exact ⟨rfl, hb⟩
  have hPs : ∀ w2 x, l.find? (fun x => x.1 == six) = some x → Below w.heap.size w w2 → AddrP (firstL six l) w (.returned (.tuple #[.agg (cellsA x.1 x.2), .bool true])) w2 := fun w2 x hn hb => by
    unfold firstL; rw [hn]; exact ⟨rfl, hb⟩
  have HPn := Lib.hid hPn
  have HPs := Lib.hid hPs
  have Hc := Lib.hid hc
  have Hrow := Lib.hid hrow
  have Hbz := Lib.hid hbz
  have Hzs := Lib.hid hzs
  have hic := index_cases (fun x => x.1 == six) l
  clear hPn hPs hc hrow hen hzp hbz hzs
  subst hwz
  have hg2 : ∀ w2 : World, Below ((w.alloc (.cells #[.bool six] 4)).alloc (.cells (cellsA false (List.replicate 16 0)) 29)).heap.size ((w.alloc (.cells #[.bool six] 4)).alloc (.cells (cellsA false (List.replicate 16 0)) 29)) w2 →
      w2.heap[w.heap.size + 1]? = some (.cells (cellsA false (List.replicate 16 0)) 29 (0, 0)) := fun w2 hb => by
    rw [hb.block _ (by rw [Hzs.out]; omega)]
    exact heap_at _ _ _ (by simp)
  have Hg2 := Lib.hid hg2
  have hset : ∀ (w2 : World) (x : Ad), w2.heap[w.heap.size + 1]? = some (.cells (cellsA false (List.replicate 16 0)) 29 (0, 0)) → x.2.length = 16 → (storeVar 29 ⟨w.heap.size + 1, 0, none⟩ (.agg (cellsA x.1 x.2))).run Tryz.prog w2 = .ok () (w2.setRow (w.heap.size + 1) (cellsA x.1 x.2)) := fun w2 x hg hx =>
    run_storeVar_row w2 (w.heap.size + 1) _ 29 _ _ hg (infoA _ (cellsA_size _ _ hx)) (by rw [cellsA_size _ _ hx]; rfl) (cellsA_all _ _)
  have hld : ∀ (w2 : World) (x : Ad), w2.heap[w.heap.size + 1]? = some (.cells (cellsA false (List.replicate 16 0)) 29 (0, 0)) → x.2.length = 16 → (loadVar 29 ⟨w.heap.size + 1, 0, none⟩).run Tryz.prog (w2.setRow (w.heap.size + 1) (cellsA x.1 x.2)) = .ok (.agg (cellsA x.1 x.2)) (w2.setRow (w.heap.size + 1) (cellsA x.1 x.2)) := fun w2 x hg hx =>
    run_loadVar_row _ (w.heap.size + 1) 29 29 _ (0, 0) _ (setRow_heap _ _ _ _ _ _ hg) Tryz.underlying29 rfl (infoA _ (cellsA_size _ _ hx))
  have hbs : ∀ (w2 : World) cs, Below ((w.alloc (.cells #[.bool six] 4)).alloc (.cells (cellsA false (List.replicate 16 0)) 29)).heap.size ((w.alloc (.cells #[.bool six] 4)).alloc (.cells (cellsA false (List.replicate 16 0)) 29)) w2 → Below w.heap.size w (w2.setRow (w.heap.size + 1) cs) := fun w2 cs hb =>
    (Hbz.out.trans (hb.mono (by rw [Hzs.out]; omega))).trans ⟨rfl, rfl, rfl, by simp [World.setRow], fun k hk => setRow_other _ _ _ _ (by omega)⟩
  have Hset := Lib.hid hset
  have Hld := Lib.hid hld
  have Hbs := Lib.hid hbs
  clear hg2 hset hld hbs
  generalize indexL (fun x => x.1 == six) l = ix at hic Hc
  rcases hic with ⟨rfl, hfn⟩ | ⟨i, x, rfl, hx, hfs⟩
  · have Hfn := Lib.hid hfn
    clear hfn
    go_enter Tryz.func6, Tryz.ntmps6
    go_wp2_with (first
      | (go_at_call 19; refine (ok_host _ b t ?_).mono ?_)
      | (go_at_call 20; refine Hc.out.mono ?_; rintro e w2 ⟨rfl, hb2⟩; have Hb2 := Lib.hid hb2; have hst := Hset.out w2 (false, List.replicate 16 0) (Hg2.out w2 hb2) rfl; clear hb2)
      | (refine wpList_store_agg rfl 29 _ _ rfl _ rfl _ rfl _ hst ?_; have HST := Lib.hid hst; clear hst))
    exact bodyPost_ret (results_cell_tmp Tryz.results6 rfl (Hld.out w2 (false, List.replicate 16 0) (Hg2.out w2 Hb2.out) rfl) rfl) rfl (HPn.out _ Hfn.out (Hbs.out _ _ Hb2.out))
  · have Hfs := Lib.hid hfs
    have hfx := hf x (List.mem_of_getElem? hx)
    have hil := (List.getElem?_eq_some_iff.1 hx).1
    have Hx := Lib.hid hx
    have Hal := Lib.hid ha
    have h1b : ∀ w2 : World, Below ((w.alloc (.cells #[.bool six] 4)).alloc (.cells (cellsA false (List.replicate 16 0)) 29)).heap.size ((w.alloc (.cells #[.bool six] 4)).alloc (.cells (cellsA false (List.replicate 16 0)) 29)) w2 → w2.cell? ⟨b, 1, none⟩ = some (.slice (some a) l.length sc) := fun w2 hb => by
      rw [(Hbz.out.trans (hb.mono (by rw [Hzs.out]; omega))).cell (p := ⟨b, 1, none⟩) hbl]; exact h1
    have H1b := Lib.hid h1b
    clear hx hfs h1b
    go_enter Tryz.func6, Tryz.ntmps6
    go_wp2_with (first
      | (go_at_call 19; refine (ok_host _ b t ?_).mono ?_)
      | (go_at_call 20; refine Hc.out.mono ?_; rintro e w2 ⟨rfl, hb2⟩; have hst := Hset.out w2 x (Hg2.out w2 hb2) hfx.1; have hla := RowA.load (Hrow.out.below (Hbz.out.trans (hb2.mono (by rw [Hzs.out]; omega))) Hal.out) hf Hx.out; have h1c := H1b.out w2 hb2; have Hb2 := Lib.hid hb2; clear hb2)
      | (refine wpList_load_agg rfl 29 _ rfl _ rfl (cellsA x.1 x.2) hla ?_)
      | (refine wpList_store_agg rfl 29 _ _ rfl _ rfl _ rfl _ hst ?_; have HST := Lib.hid hst; clear hst))
    exact bodyPost_ret (results_cell_tmp Tryz.results6 rfl (Hld.out w2 x (Hg2.out w2 Hb2.out) hfx.1) rfl) rfl (HPs.out _ _ Hfs.out (Hbs.out _ _ Hb2.out))
end Go.Hm
