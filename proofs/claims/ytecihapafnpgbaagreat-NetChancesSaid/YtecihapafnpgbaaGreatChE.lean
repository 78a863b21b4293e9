/- NetChances: icmp.Lay of an echo. · NetChances: the check sum of an echo; icmp.kind; octets.Get of two bytes. · NetChances: addresses' bytes. -/
import Derived.Test.YtecihapafnpgbaaGreatChA
set_option linter.unusedSimpArgs false
set_option linter.unusedVariables false
set_option linter.constructorNameAsVariable false
set_option linter.unusedSectionVars false
namespace Go.Ch
open Go Go.Am Go.Hm Go.Proofs Go.RowKit
set_option maxRecDepth 100000
theorem isEcho (k : Nat) (hk : k = 1 ∨ k = 2) (w : World) : Calls Tryz.prog 159 #[.int .i64 k] w fun e w' => e = .returned (.bool true) ∧ w' = w := by
  go_enter Tryz.func159, Tryz.ntmps159
  rcases hk with rfl | rfl
  all_goals
    go_wp2_with fail
    go_ret
    exact ⟨rfl, rfl⟩
theorem isCoded (k : Nat) (hk : k = 1 ∨ k = 2) (w : World) : Calls Tryz.prog 160 #[.int .i64 k] w fun e w' => e = .returned (.bool false) ∧ w' = w := by
  go_enter Tryz.func160, Tryz.ntmps160
  rcases hk with rfl | rfl
  all_goals
    go_wp2_with fail
    go_ret
    exact ⟨rfl, rfl⟩
/-- An echo. -/
def echoT (k : Nat) : Nat := if k = 1 then 8 else 0
abbrev echoC (k id sq : Nat) (dv : Value) : Array Value := #[.int .i64 k, .int .u8 0, .int .u16 id, .int .u16 sq, .int .u32 0, dv]
def echoV (k id sq : Nat) (dv : Value) : Value := .agg (echoC k id sq dv)
theorem may (k id sq : Nat) (hk : k = 1 ∨ k = 2) (dv : Value) (d : List Nat) (w : World) (hd : BytesAt w dv d) (hl : d.length ≤ 1400) :
    Calls Tryz.prog 87 #[echoV k id sq dv, .bool false] w fun e w' => e = .returned (.bool true) ∧ Below w.heap.size w w' := by
  obtain ⟨_, a, c, rfl, _, _, _⟩ := hd
  unfold echoV
  go_enter Tryz.func87, Tryz.ntmps87
  have h1 := fun w => isEcho k hk w
  have h2 := fun w => isCoded k hk w
  have hl' : ((d.length : Nat) : Int) ≤ 1400 := by omega
  rcases hk with rfl | rfl
  all_goals
    go_wp2_with (first
      | (go_at_call 159; refine (h1 _).mono ?_; rintro e w1 ⟨rfl, rfl⟩)
      | (go_at_call 160; refine (h2 _).mono ?_; rintro e w1 ⟨rfl, rfl⟩))
    go_ret
    exact ⟨by simp, (Below.refl _ _).alloc (Nat.le_refl _) _⟩
theorem typed (k id sq : Nat) (hk : k = 1 ∨ k = 2) (dv : Value) (w : World) :
    Calls Tryz.prog 88 #[echoV k id sq dv, .bool false] w fun e w' => e = .returned (.tuple #[.int .u8 (echoT k : Nat), .int .u8 0]) ∧ Below w.heap.size w w' := by
  unfold echoV
  go_enter Tryz.func88, Tryz.ntmps88
  rcases hk with rfl | rfl
  all_goals
    go_wp2_with fail
    go_ret2
    exact ⟨by simp [echoT], (Below.refl _ _).alloc (Nat.le_refl _) _⟩
/-- An address of four bytes. -/
abbrev adC (p q r s : Nat) : Array Value := #[.bool false, .int .u8 p, .int .u8 q, .int .u8 r, .int .u8 s, .int .u8 0, .int .u8 0, .int .u8 0, .int .u8 0, .int .u8 0, .int .u8 0, .int .u8 0, .int .u8 0, .int .u8 0, .int .u8 0, .int .u8 0, .int .u8 0]
def ad4 (p q r s : Nat) : Value := .agg (adC p q r s)
theorem pseudo (p q r s p' q' r' s' : Nat) (n : Value) (w : World) :
    Calls Tryz.prog 91 #[ad4 p q r s, ad4 p' q' r' s', n] w fun e w' => e = .returned (.slice none 0 0) ∧ Below w.heap.size w w' := by
  unfold ad4
  go_enter Tryz.func91, Tryz.ntmps91
  go_wp2_with fail
  go_ret
  exact ⟨rfl, ((Below.refl _ _).alloc (Nat.le_refl _) _).alloc (by simp) _⟩
/-! A box. -/
def BoxAt (W : World) (b : Nat) (cs : Array Value) : Prop := b < W.heap.size ∧ ∀ (i : Nat) (x : Value), cs[i]? = some x → W.cell? ⟨b, i, none⟩ = some x
theorem BoxAt.new (W : World) (cs : Array Value) (t : TypeId) : BoxAt (W.alloc (.cells cs t)) W.heap.size cs :=
  ⟨by simp, fun i x hx => by rw [cell_of_row _ W.heap.size i cs t (0, 0) (heap_alloc_new W _)]; exact hx⟩
theorem BoxAt.below {W W' : World} {b n : Nat} {cs : Array Value} (h : BoxAt W b cs) (hb : Below n W W') (hn : b < n) : BoxAt W' b cs :=
  ⟨Nat.lt_of_lt_of_le h.1 hb.size, fun i x hx => by rw [hb.cell hn]; exact h.2 i x hx⟩
theorem boxes3 (w : World) (c1 c2 c3 : Array Value) (t1 t2 t3 : TypeId) :
    let W := ((w.alloc (.cells c1 t1)).alloc (.cells c2 t2)).alloc (.cells c3 t3)
    BoxAt W w.heap.size c1 ∧ BoxAt W (w.heap.size + 1) c2 ∧ BoxAt W (w.heap.size + 1 + 1) c3 ∧ Below w.heap.size w W ∧ w.heap.size + 3 ≤ W.heap.size := by
  have a1 := BoxAt.new w c1 t1
  have a2 := BoxAt.new (w.alloc (.cells c1 t1)) c2 t2
  have a3 := BoxAt.new ((w.alloc (.cells c1 t1)).alloc (.cells c2 t2)) c3 t3
  have s1 : (w.alloc (.cells c1 t1)).heap.size = w.heap.size + 1 := by simp
  have s2 : ((w.alloc (.cells c1 t1)).alloc (.cells c2 t2)).heap.size = w.heap.size + 1 + 1 := by simp
  rw [s1] at a2
  rw [s2] at a3
  have b1 : Below (w.heap.size + 1) (w.alloc (.cells c1 t1)) ((w.alloc (.cells c1 t1)).alloc (.cells c2 t2)) := (Below.refl _ _).alloc (by simp) _
  have b2 : Below (w.heap.size + 1 + 1) ((w.alloc (.cells c1 t1)).alloc (.cells c2 t2)) (((w.alloc (.cells c1 t1)).alloc (.cells c2 t2)).alloc (.cells c3 t3)) := (Below.refl _ _).alloc (by simp) _
  exact ⟨(a1.below b1 (by omega)).below b2 (by omega), a2.below b2 (by omega), a3, (((Below.refl _ _).alloc (Nat.le_refl _) _).alloc (by simp) _).alloc (by simp; omega) _, by simp⟩
theorem BoxAt.e6 {W : World} {b k id sq : Nat} {dv : Value} (h : BoxAt W b (echoC k id sq dv)) : W.cell? ⟨b, 0, none⟩ = some (.int .i64 k) ∧ W.cell? ⟨b, 1, none⟩ = some (.int .u8 0) ∧ W.cell? ⟨b, 2, none⟩ = some (.int .u16 id) ∧ W.cell? ⟨b, 3, none⟩ = some (.int .u16 sq) ∧ W.cell? ⟨b, 4, none⟩ = some (.int .u32 0) ∧ W.cell? ⟨b, 5, none⟩ = some (dv) :=
  ⟨h.2 0 _ rfl, h.2 1 _ rfl, h.2 2 _ rfl, h.2 3 _ rfl, h.2 4 _ rfl, h.2 5 _ rfl⟩
theorem BoxAt.a17 {W : World} {b p q r s : Nat} (h : BoxAt W b (adC p q r s)) : W.cell? ⟨b, 0, none⟩ = some (.bool false) ∧ W.cell? ⟨b, 1, none⟩ = some (.int .u8 p) ∧ W.cell? ⟨b, 2, none⟩ = some (.int .u8 q) ∧ W.cell? ⟨b, 3, none⟩ = some (.int .u8 r) ∧ W.cell? ⟨b, 4, none⟩ = some (.int .u8 s) ∧ W.cell? ⟨b, 5, none⟩ = some (.int .u8 0) ∧ W.cell? ⟨b, 6, none⟩ = some (.int .u8 0) ∧ W.cell? ⟨b, 7, none⟩ = some (.int .u8 0) ∧ W.cell? ⟨b, 8, none⟩ = some (.int .u8 0) ∧ W.cell? ⟨b, 9, none⟩ = some (.int .u8 0) ∧ W.cell? ⟨b, 10, none⟩ = some (.int .u8 0) ∧ W.cell? ⟨b, 11, none⟩ = some (.int .u8 0) ∧ W.cell? ⟨b, 12, none⟩ = some (.int .u8 0) ∧ W.cell? ⟨b, 13, none⟩ = some (.int .u8 0) ∧ W.cell? ⟨b, 14, none⟩ = some (.int .u8 0) ∧ W.cell? ⟨b, 15, none⟩ = some (.int .u8 0) ∧ W.cell? ⟨b, 16, none⟩ = some (.int .u8 0) :=
  ⟨h.2 0 _ rfl, h.2 1 _ rfl, h.2 2 _ rfl, h.2 3 _ rfl, h.2 4 _ rfl, h.2 5 _ rfl, h.2 6 _ rfl, h.2 7 _ rfl, h.2 8 _ rfl, h.2 9 _ rfl, h.2 10 _ rfl, h.2 11 _ rfl, h.2 12 _ rfl, h.2 13 _ rfl, h.2 14 _ rfl, h.2 15 _ rfl, h.2 16 _ rfl⟩
/-- An echo's head without its sum, and the whole. -/
def layH (k id sq : Nat) : List Nat := [echoT k, 0, 0, 0] ++ be2 [id, sq]
def layL (k id sq : Nat) (d : List Nat) : List Nat :=
  let c := checkN (wsum (layH k id sq ++ d))
  [echoT k, 0, c / 256, c % 256] ++ be2 [id, sq] ++ d
theorem BoxAt.loadAd {W : World} {b : Nat} {p q r s : Nat} (h : BoxAt W b (adC p q r s)) : (loadVar 32 ⟨b, 0, none⟩).run Tryz.prog W = .ok (.agg (adC p q r s)) W :=
  run_loadVar_agg (fun w => Tryz.isAgg32 w) (fun w => Tryz.sizeOf32 w) _ _ rfl fun j v hj => by
    rw [Addr.add_lit, Nat.zero_add]; exact h.2 j v hj
theorem words2 (W : World) (x y : Nat) (hx : x < 65536) (hy : y < 65536) : WordsAt (W.alloc (.cells #[.int .u64 x, .int .u64 y] 136)) (.slice (some ⟨W.heap.size, 0, none⟩) 2 2) [x, y] := by
  refine ⟨by simp [hx, hy], W.heap.size, 0, 2, rfl, fun i z hz => ?_⟩
  have := (BoxAt.new W #[.int .u64 x, .int .u64 y] 136).2
  rcases i with _ | _ | i
  · obtain rfl : x = z := by simpa using hz
    exact this 0 _ rfl
  · obtain rfl : y = z := by simpa using hz
    exact this 1 _ rfl
  · simp at hz
theorem OwnB.mono {n m : Nat} {W : World} {v : Value} {l : List Nat} (h : OwnB n W v l) (hm : m ≤ n) : OwnB m W v l := by
  refine ⟨⟨h.row.1, ?_⟩, h.lt⟩
  rcases h.row.2 with hn | ⟨g, cap, cur, rfl, hg, hr⟩
  · exact .inl hn
  · exact .inr ⟨g, cap, cur, rfl, by omega, hr⟩
theorem OwnB.open {n : Nat} {W : World} {v : Value} {l : List Nat} (h : OwnB n W v l) (hl : 0 < l.length) : ∃ g cap, v = .slice (some ⟨g, 0, none⟩) l.length cap ∧ n ≤ g ∧ g < W.heap.size := by
  rcases h.row.2 with ⟨_, hn⟩ | ⟨g, cap, cur, rfl, hg, hh, _⟩
  · omega
  · exact ⟨g, cap, rfl, hg, (Array.getElem?_eq_some_iff.1 hh).1⟩
theorem nilB (W : World) : BytesAt W (.slice none 0 0) [] := ⟨by simp, none, 0, rfl, by simp, by decide, by simp⟩
/-- The sum of nothing and a row. -/
theorem parts2 (W : World) (v : Value) (l : List Nat) (t : TypeId) (h : BytesAt W v l) (hl : l.length ≤ 2000) :
    Calls Tryz.prog 90 #[.slice (some ⟨W.heap.size, 0, none⟩) 2 2] (W.alloc (.cells #[.slice none 0 0, v] t)) fun e w' => e = .returned (.int .u16 (checkN (wsum l) : Nat)) ∧ Below W.heap.size W w' := by
  have hb : Below W.heap.size W (W.alloc (.cells #[.slice none 0 0, v] t)) := (Below.refl _ _).alloc (Nat.le_refl _) _
  have hB := (BoxAt.new W #[.slice none 0 0, v] t).2
  have := check (.slice (some ⟨W.heap.size, 0, none⟩) 2 2) [(.slice none 0 0, []), (v, l)] _ (by simp) (by simpa using hl) ⟨W.heap.size, 0, 2, rfl, fun i z hz => by
    rcases i with _ | _ | i
    · obtain rfl := Option.some.inj hz
      exact ⟨hB 0 _ rfl, (nilB W).below hb⟩
    · obtain rfl := Option.some.inj hz
      exact ⟨hB 1 _ rfl, h.below hb⟩
    · simp at hz⟩
  refine this.mono ?_
  rintro e w' ⟨rfl, hb'⟩
  exact ⟨by simp [sumTo, wsum], hb.trans (hb'.mono (by simp))⟩
theorem shr_u16 (m : Nat) : intA .shr .u16 m .u64 8 = some (.int .u16 (m / 256 : Nat)) := by
  show vI .u16 (shrK m 8) = _
  rw [vI_eq]
  rfl
theorem vB_set (l : List Nat) (i x : Nat) : (vB l).set i (.int .u8 (x : Nat)) = vB (l.set i x) := by
  unfold vB
  rw [List.map_set]
  rfl
/-- Two bytes put into a row of one's own. -/
theorem OwnB.set2 {n g cap : Nat} {W : World} {l : List Nat} {x y : Int} (h : OwnB n W (.slice (some ⟨g, 0, none⟩) l.length cap) l) (i j a b : Nat) (hx : x = (a : Nat)) (hy : y = (b : Nat)) (ha : a < 256) (hb : b < 256) :
    OwnB n ((W.setCell ⟨g, i, none⟩ (.int .u8 x)).setCell ⟨g, j, none⟩ (.int .u8 y)) (.slice (some ⟨g, 0, none⟩) l.length cap) ((l.set i a).set j b) := by
  subst hx hy
  have h1 := (h.row.stored i (.int .u8 a)).1
  have h2 := (h1.stored j (.int .u8 b)).1
  rw [vB_set, vB_set] at h2
  refine ⟨by simpa using h2, fun z hz => ?_⟩
  rcases List.mem_or_eq_of_mem_set hz with hz | rfl
  · rcases List.mem_or_eq_of_mem_set hz with hz | rfl
    · exact h.lt z hz
    · exact ha
  · exact hb
set_option maxHeartbeats 4000000 in
theorem lay (k id sq p q r s p' q' r' s' : Nat) (hk : k = 1 ∨ k = 2) (hid : id < 65536) (hsq : sq < 65536) (dv : Value) (d : List Nat) (w : World) (hd : BytesAt w dv d) (hl : d.length ≤ 1400) :
    Calls Tryz.prog 32 #[echoV k id sq dv, ad4 p q r s, ad4 p' q' r' s'] w fun e w' => ∃ v', e = .returned (.tuple #[v', .int .i64 0]) ∧ OwnB w.heap.size w' v' (layL k id sq d) ∧ Below w.heap.size w w' := by
  have hmay := fun W h => may k id sq hk dv d W h hl
  have hty := fun W => typed k id sq hk dv W
  have hps := fun n W => pseudo p q r s p' q' r' s' n W
  unfold echoV at hmay hty ⊢
  unfold ad4 at hps ⊢
  go_enter Tryz.func32, Tryz.ntmps32
  go_upto_region 1 with fail
  have h3 := boxes3 w (echoC k id sq dv) (adC p q r s) (adC p' q' r' s') 100 32 32
  generalize ((w.alloc (.cells (echoC k id sq dv) 100)).alloc (.cells (adC p q r s) 32)).alloc (.cells (adC p' q' r' s') 32) = W at h3 ⊢
  obtain ⟨X0, X1, X2, Xb, Xs⟩ := h3
  have Xd := hd.below Xb
  obtain ⟨c0, c1, c2, c3, c4, c5⟩ := X0.e6
  have a0 := X1.2 0 _ rfl; have aL := X1.loadAd
  have e0 := X2.2 0 _ rfl; have eL := X2.loadAd
  have hmW := hmay W Xd
  go_upto_region 3 with (first
    | (go_at_call 87; refine hmW.mono ?_; rintro e W1 ⟨rfl, hb1⟩; clear c0 c1 c2 c3 c4 c5 a0 aL e0 eL; have X0 := X0.below hb1 (by omega); have X1 := X1.below hb1 (by omega); have X2 := X2.below hb1 (by omega); have Xb := Xb.trans (hb1.mono (by omega)); have Xs := Nat.le_trans Xs hb1.size; have Xd := Xd.below hb1; obtain ⟨c0, c1, c2, c3, c4, c5⟩ := X0.e6; have a0 := X1.2 0 _ rfl; have aL := X1.loadAd; have e0 := X2.2 0 _ rfl; have eL := X2.loadAd))
  clear hmW hmay
  have hk3 : ((k : Int) == 3) = false := by rcases hk with rfl | rfl <;> rfl
  have hk4 : ((k : Int) == 4) = false := by rcases hk with rfl | rfl <;> rfl
  have hk4' : ¬ (k : Int) = 4 := by omega
  have htW := hty W1
  go_upto_region 4 with (first
    | (go_at_call 88; refine htW.mono ?_; rintro e W2 ⟨rfl, hb2⟩; clear c0 c1 c2 c3 c4 c5 a0 aL e0 eL; have X0 := X0.below hb2 (by omega); have X1 := X1.below hb2 (by omega); have X2 := X2.below hb2 (by omega); have Xb := Xb.trans (hb2.mono (by omega)); have Xs := Nat.le_trans Xs hb2.size; have Xd := Xd.below hb2; obtain ⟨c0, c1, c2, c3, c4, c5⟩ := X0.e6; have a0 := X1.2 0 _ rfl; have aL := X1.loadAd; have e0 := X2.2 0 _ rfl; have eL := X2.loadAd))
  clear htW hty hb1
  have ht8 : echoT k < 256 := by unfold echoT; split <;> omega
  go_upto_region 5 with fail
  have hp1 := OwnB.lit W2 w.heap.size [echoT k, 0, 0, 0] (by omega) (by simp; omega) (by simp)
  have hb3 : Below W2.heap.size W2 (W2.alloc (.cells (vB [echoT k, 0, 0, 0]).toArray 5)) := (Below.refl _ _).alloc (Nat.le_refl _) _
  clear c0 c1 c2 c3 c4 c5 a0 aL e0 eL
  have X0 := X0.below hb3 (by omega); have X1 := X1.below hb3 (by omega); have X2 := X2.below hb3 (by omega); have Xb := Xb.trans (hb3.mono (by omega)); have Xs := Nat.le_trans Xs hb3.size; have Xd := Xd.below hb3
  have hp1' : OwnB w.heap.size (W2.alloc (.cells #[.int .u8 (echoT k : Nat), .int .u8 0, .int .u8 0, .int .u8 0] 5)) (.slice (some ⟨W2.heap.size, 0, none⟩) 4 4) [echoT k, 0, 0, 0] := hp1
  have h9 : Below W2.heap.size W2 (W2.alloc (.cells #[.int .u8 (echoT k : Nat), .int .u8 0, .int .u8 0, .int .u8 0] 5)) := hb3
  have hX : BoxAt (W2.alloc (.cells #[.int .u8 (echoT k : Nat), .int .u8 0, .int .u8 0, .int .u8 0] 5)) w.heap.size (echoC k id sq dv) ∧ BoxAt (W2.alloc (.cells #[.int .u8 (echoT k : Nat), .int .u8 0, .int .u8 0, .int .u8 0] 5)) (w.heap.size + 1) (adC p q r s) ∧ BoxAt (W2.alloc (.cells #[.int .u8 (echoT k : Nat), .int .u8 0, .int .u8 0, .int .u8 0] 5)) (w.heap.size + 1 + 1) (adC p' q' r' s') ∧ Below w.heap.size w (W2.alloc (.cells #[.int .u8 (echoT k : Nat), .int .u8 0, .int .u8 0, .int .u8 0] 5)) ∧ w.heap.size + 3 ≤ (W2.alloc (.cells #[.int .u8 (echoT k : Nat), .int .u8 0, .int .u8 0, .int .u8 0] 5)).heap.size ∧ BytesAt (W2.alloc (.cells #[.int .u8 (echoT k : Nat), .int .u8 0, .int .u8 0, .int .u8 0] 5)) dv d := ⟨X0, X1, X2, Xb, Xs, Xd⟩
  clear X0 X1 X2 Xb Xs Xd hp1 hb3 h9
  generalize W2.alloc (.cells #[.int .u8 (echoT k : Nat), .int .u8 0, .int .u8 0, .int .u8 0] 5) = W3 at hp1' hX ⊢
  generalize (.slice (some ⟨W2.heap.size, 0, none⟩) 4 4 : Value) = v3 at hp1' ⊢
  obtain ⟨X0, X1, X2, Xb, Xs, Xd⟩ := hX
  obtain ⟨c0, c1, c2, c3, c4, c5⟩ := X0.e6; have a0 := X1.2 0 _ rfl; have aL := X1.loadAd; have e0 := X2.2 0 _ rfl; have eL := X2.loadAd
  have hp2 := words2 W3 id sq hid hsq
  have hp3 := put _ _ [echoT k, 0, 0, 0] [id, sq] _ (hp1'.at.below ((Below.refl _ _).alloc (Nat.le_refl _) _)) (by simp) hp2 (by simp)
  have hb4 : Below W3.heap.size W3 (W3.alloc (.cells #[.int .u64 id, .int .u64 sq] 136)) := (Below.refl _ _).alloc (Nat.le_refl _) _
  have hs4 : (W3.alloc (.cells #[.int .u64 id, .int .u64 sq] 136)).heap.size = W3.heap.size + 1 := by simp
  go_upto_region 8 with (first
    | (go_at_call 89; refine hp3.mono ?_; rintro e W4 ⟨v4, rfl, ho4, hb5⟩))
  clear hp3 hp2 hp1'
  have hb6 := hb4.trans (hb5.mono (by omega))
  have hs3 := Xs
  have ho4 := ho4.mono (m := W3.heap.size) (by omega)
  clear c0 c1 c2 c3 c4 c5 a0 aL e0 eL
  have X0 := X0.below hb6 (by omega); have X1 := X1.below hb6 (by omega); have X2 := X2.below hb6 (by omega); have Xb := Xb.trans (hb6.mono (by omega)); have Xs := Nat.le_trans Xs hb6.size; have Xd := Xd.below hb6
  obtain ⟨c0, c1, c2, c3, c4, c5⟩ := X0.e6; have a0 := X1.2 0 _ rfl; have aL := X1.loadAd; have e0 := X2.2 0 _ rfl; have eL := X2.loadAd
  go_upto_region 9 with (first
    | (refine wpList_appB rfl _ _ rfl W3.heap.size _ _ (by rfl) ho4 _ d (by rfl) Xd ?_ ?_ ?_; rotate_left 2; intro v5 W5 ho5 hg5 he5))
  case refine_1 => simp [be2_length]; omega
  case refine_2 => exact hb6.size
  have hb7 : Below W3.heap.size W4 W5 := below_grown hg5 hb6.size (fun z hz => (ho4.row.lt z hz).1)
  have hs5 := hg5.size
  clear c0 c1 c2 c3 c4 c5 a0 aL e0 eL
  clear hg5 he5 ho4 Xd
  have X0 := X0.below hb7 (by omega); have X1 := X1.below hb7 (by omega); have X2 := X2.below hb7 (by omega); have Xb := Xb.trans (hb7.mono (by omega)); have Xs := Nat.le_trans Xs hb7.size
  obtain ⟨c0, c1, c2, c3, c4, c5⟩ := X0.e6; have a0 := X1.2 0 _ rfl; have aL := X1.loadAd; have e0 := X2.2 0 _ rfl; have eL := X2.loadAd
  obtain ⟨L, hL⟩ : ∃ L, L = [echoT k, 0, 0, 0] ++ be2 [id, sq] ++ d := ⟨_, rfl⟩
  have hLl : L.length = d.length + 8 := by rw [hL]; simp [be2_length]; omega
  rw [← hL] at ho5
  have HL := Lib.hid hL
  have HLl := Lib.hid hLl
  clear hL hLl
  obtain ⟨g, cap, rfl, hg3, hg5⟩ := ho5.open (by have := HLl.out; omega)
  have hps' := fun n => hps n W5
  go_upto_region 10 with (first
    | (refine wpList_load_agg rfl 32 _ rfl _ rfl (adC p q r s) aL ?_)
    | (refine wpList_load_agg rfl 32 _ rfl _ rfl (adC p' q' r' s') eL ?_)
    | (go_at_call 91; refine (hps' _).mono ?_; rintro e W6 ⟨rfl, hb8⟩)
    | (go_at_call 90; refine (parts2 W6 _ _ _ (ho5.at.below hb8) (by have := HLl.out; omega)).mono ?_; rintro e W7 ⟨rfl, hb9⟩))
  clear c0 c1 c2 c3 c4 c5 a0 aL e0 eL
  clear X0 X1 X2 hps hps' hb2
  have hck : checkN (wsum L) ≤ 65535 := by unfold checkN; omega
  have HC := Lib.hid (rfl : checkN (wsum L) = checkN (wsum L))
  have ho7 := ho5.below (hb8.trans (hb9.mono hb8.size))
  have hb10 : Below w.heap.size w W7 := Xb.trans ((hb8.trans (hb9.mono hb8.size)).mono (by omega))
  have q2 : W7.cell? ⟨g, 2, none⟩ = some (.int .u8 0) := by
    rw [ho7.row.cellAt 2 (by have := HLl.out; omega), HL.out]; rfl
  have q3 : W7.cell? ⟨g, 3, none⟩ = some (.int .u8 0) := by
    rw [ho7.row.cellAt 3 (by have := HLl.out; omega), HL.out]; rfl
  have f2 := ho7.row.frozenAt 2
  have f3 := ho7.row.frozenAt 3
  have l2 : (2 : Int) < (L.length : Int) := by have := HLl.out; omega
  have l3 : (3 : Int) < (L.length : Int) := by have := HLl.out; omega
  have HW := Lib.hid (show layL k id sq d = (L.set 2 (checkN (wsum L) / 256)).set 3 (checkN (wsum L) % 256) by rw [HL.out]; rfl)
  clear HC hb8 hb9 ho5 Xb Xs hb7 hb6 hb5 hb4 hs4 hs5
  generalize checkN (wsum L) = ck at hck HW ⊢
  have hsh := shr_u16 ck
  go_wp2_with (first
    | (refine Go.Hm.wpList_exec rfl (exec_bin rfl rfl rfl hsh) ?_))
  go_ret2
  have ho8 := ho7.set2 2 3 (ck / 256) (ck % 256) (x := (ck : Int) / 256) (y := (ck : Int) % 256) (by simp) (by simp) (by omega) (by omega)
  rw [← HW.out] at ho8
  exact ⟨_, rfl, ho8.mono (by omega), (hb10.setCell (by simp; omega) _).setCell (by simp; omega) _⟩
end Go.Ch
namespace Go.Ch
open Go Go.Am Go.Hm Go.Proofs Go.RowKit
set_option maxRecDepth 100000
theorem wsum_be (t a b : Nat) (r : List Nat) : wsum (t :: 0 :: a :: b :: r) = wsum (t :: 0 :: 0 :: 0 :: r) + (a * 256 + b) := by
  simp [wsum]; omega
/-- The sum over an echo with its check. -/
theorem lay_sum (k id sq : Nat) (d : List Nat) : foldN (wsum (layL k id sq d)) = 65535 := by
  have h1 : layL k id sq d = echoT k :: 0 :: (checkN (wsum (layH k id sq ++ d)) / 256) :: (checkN (wsum (layH k id sq ++ d)) % 256) :: (be2 [id, sq] ++ d) := rfl
  have h2 : layH k id sq ++ d = echoT k :: 0 :: 0 :: 0 :: (be2 [id, sq] ++ d) := rfl
  rw [h1, wsum_be, ← h2]
  generalize wsum (layH k id sq ++ d) = S
  have h3 : checkN S / 256 * 256 + checkN S % 256 = checkN S := by omega
  rw [h3]
  unfold checkN foldN
  split <;> split <;> omega
theorem kind (k : Nat) (hk : k = 1 ∨ k = 2) (w : World) : Calls Tryz.prog 192 #[.int .u8 (echoT k : Nat), .int .u8 0, .bool false] w fun e w' => e = .returned (.int .i64 k) ∧ w' = w := by
  go_enter Tryz.func192, Tryz.ntmps192
  rcases hk with rfl | rfl
  all_goals
    simp only [echoT]
    go_wp2_with fail
    go_ret
    exact ⟨rfl, rfl⟩
set_option maxHeartbeats 2000000 in
theorem get2 (v : Value) (x y : Nat) (w : World) (h : BytesAt w v [x, y]) :
    Calls Tryz.prog 174 #[v] w fun e w' => e = .returned (.int .u64 (x * 256 + y : Nat)) ∧ w' = w := by
  obtain ⟨hlt, a, c, rfl, hc1, hc2, hcell⟩ := h
  obtain ⟨b, o, rfl, h0⟩ := hcell 0 x rfl
  obtain ⟨b', o', e, h1⟩ := hcell 1 y rfl
  obtain ⟨rfl, rfl⟩ : b = b' ∧ o = o' := by cases e; exact ⟨rfl, rfl⟩
  clear e hcell
  have hx := hlt x (by simp)
  have hy := hlt y (by simp)
  simp only [Nat.add_zero] at h0
  have hc3 : 2 ≤ c := by simpa using hc1
  clear hlt hc1
  go_enter Tryz.func174, Tryz.ntmps174
  go_upto_region 3 with fail
  go_loop [3, 13] (fun n i => (i = .int .i64 0 ∧ n = .int .u64 0) ∨ (i = .int .i64 1 ∧ n = .int .u64 x) ∨ (i = .int .i64 2 ∧ n = .int .u64 (x * 256 + y : Nat))) (fun _ i => 2 - (intOf i).toNat)
  case atStart => exact .inl ⟨rfl, rfl⟩
  case round =>
    rcases hrel with ⟨rfl, rfl⟩ | ⟨rfl, rfl⟩ | ⟨rfl, rfl⟩
    · have hs := shl8_u64 0 (by omega)
      have ho := or_u64 0 x (by omega) hx
      go_wp2_with (first
        | (refine Go.Hm.wpList_exec rfl (exec_bin rfl rfl rfl hs) ?_)
        | (refine Go.Hm.wpList_exec rfl (exec_bin rfl rfl rfl ho) ?_))
      refine ⟨.inr (.inl ⟨by simp, by simp⟩), by simp [intOf]⟩
    · have hs := shl8_u64 x hx
      have ho := or_u64 x y hx hy
      go_wp2_with (first
        | (refine Go.Hm.wpList_exec rfl (exec_bin rfl rfl rfl hs) ?_)
        | (refine Go.Hm.wpList_exec rfl (exec_bin rfl rfl rfl ho) ?_))
      refine ⟨.inr (.inr ⟨by simp, by simp⟩), by simp [intOf]⟩
    · go_wp2_with fail
      go_ret
      exact ⟨by simp, rfl⟩
end Go.Ch
namespace Go.Ch
open Go Go.Am Go.Hm Go.Proofs Go.RowKit
set_option maxRecDepth 100000
theorem adSize (p q r s : Nat) (w : World) : Calls Tryz.prog 332 #[ad4 p q r s] w fun e w' => e = .returned (.int .i64 4) ∧ Below w.heap.size w w' := by
  unfold ad4
  go_enter Tryz.func332, Tryz.ntmps332
  go_wp2_with fail
  go_ret
  exact ⟨rfl, (Below.refl _ _).alloc (Nat.le_refl _) _⟩
theorem BoxAt.bytesAd {W : World} {b : Nat} {p q r s : Nat} (h : BoxAt W b (adC p q r s)) (hp : p < 256) (hq : q < 256) (hr : r < 256) (hs : s < 256) : BytesAt W (.slice (some ⟨b, 1, none⟩) 4 16) [p, q, r, s] := by
  refine ⟨by simp; omega, _, 16, rfl, by simp, by unfold maxLen; omega, fun i x hx => ⟨b, 1, rfl, ?_⟩⟩
  rcases i with _ | _ | _ | _ | i
  · cases hx; exact h.2 1 _ rfl
  · cases hx; exact h.2 2 _ rfl
  · cases hx; exact h.2 3 _ rfl
  · cases hx; exact h.2 4 _ rfl
  · simp at hx
theorem adBytes (p q r s : Nat) (hp : p < 256) (hq : q < 256) (hr : r < 256) (hs : s < 256) (w : World) :
    Calls Tryz.prog 256 #[ad4 p q r s] w fun e w' => ∃ v', e = .returned v' ∧ OwnB w.heap.size w' v' [p, q, r, s] ∧ Below w.heap.size w w' := by
  have hsz := fun W => adSize p q r s W
  unfold ad4 at hsz ⊢
  go_enter Tryz.func256, Tryz.ntmps256
  go_upto_region 1 with fail
  have X := BoxAt.new w (adC p q r s) 32
  have Xb : Below w.heap.size w (w.alloc (.cells (adC p q r s) 32)) := (Below.refl _ _).alloc (Nat.le_refl _) _
  generalize w.alloc (.cells (adC p q r s) 32) = W at X Xb ⊢
  have hsW := hsz W
  have hXs := X.1
  have hL := X.loadAd
  have HXB := Lib.hid (fun W' (hb : Below W.heap.size W W') => (X.below hb hXs).bytesAd hp hq hr hs)
  clear hsz X
  go_wp2_with (first
    | (refine wpList_load_agg rfl 32 _ rfl _ rfl (adC p q r s) hL ?_)
    | (go_at_call 332; refine hsW.mono ?_; rintro e W1 ⟨rfl, hb1⟩)
    | (go_at_call 113; refine (clone _ _ _ (HXB.out _ hb1) (by simp)).mono ?_; rintro e W2 ⟨v2, rfl, ho2, hb2⟩)
    )
  go_ret
  exact ⟨_, rfl, ho2.mono (by have := hb1.size; omega), Xb.trans ((hb1.mono (by omega)).trans (hb2.mono (by have := hb1.size; omega)))⟩
end Go.Ch
