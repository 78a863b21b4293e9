/- NetChances: a round's calls. -/
import Derived.Test.YtecihapafnpgbaaGreatChW
import Derived.Test.YtecihapafnpgbaaGreatChV
set_option linter.unusedSimpArgs false
set_option linter.unusedVariables false
set_option linter.constructorNameAsVariable false
set_option linter.unusedSectionVars false
namespace Go.Ch
open Go Go.Am Go.Hm Go.Proofs Go.RowKit
set_option maxRecDepth 100000
theorem retV_some {r : Option Ro} {v : Value} {m : Mem} (h : retV r = some (v, m)) : r = some (.ret v m) := by
  unfold retV at h
  cases r with
  | none => cases h
  | some r =>
    cases r with
    | ret v' m' => injection (show some (v', m') = some (v, m) from h) with h; injection h with h1 h2; rw [h1, h2]
    | panic v' m' => cases h
theorem isV_some {a b : Value} {k : Option Bool} {r : Bool} (h : isV a b k = some r) : a = b ∧ k = some r := by
  obtain ⟨h1, h2⟩ := bC_some.1 h
  exact ⟨eqV_eq h1, h2⟩
/-- What a round's run tells. -/
structure Chain (call : Nat → Hook) (em : Nat) (n h a : Value) (m0 m1 m2 m3 m4 m5 m6 m7 m8 : Mem) (x1 x5 x6 : Value) : Prop where
  c0 : call 19 [ag [fn 5, fn 4, fl 0, i 5], ff] (.mk .lf 6) = some (.ret (tu [n, tt]) m0)
  c1 : call 20 [n, fn 1, fn 2, fn 3] m0 = some (.ret x1 m1)
  c2 : call 21 [n, i 0] m1 = some (.ret h m2)
  c3 : call 22 [u 2] m2 = some (.ret a m3)
  c4 : call 7 [h, a, uh 1, uh 1, .complex .f64 0 16] m3 = some (.ret (i 0) m4)
  c5 : call 23 [n, i 0] m4 = some (.ret x5 m5)
  c6 : call 23 [n, i 10] m5 = some (.ret x6 m6)
  c7 : call 24 [n] m6 = some (.ret (i em) m7)
  c8 : call 25 [n] m7 = some (.ret (i 0) m8)
theorem scen_some {call : Nat → Hook} {em : Nat} (h : scen call em = some true) : ∃ n h a m0 m1 m2 m3 m4 m5 m6 m7 m8 x1 x5 x6, Chain call em n h a m0 m1 m2 m3 m4 m5 m6 m7 m8 x1 x5 x6 := by
  unfold scen at h
  obtain ⟨v, m0, h0, g0⟩ := b2_some.1 h
  obtain ⟨l, hv, g1⟩ := b_some.1 g0
  obtain ⟨n, ok, hl, g2⟩ := b2_some.1 g1
  obtain ⟨e0, g3⟩ := isV_some g2
  obtain ⟨x1, m1, h1, g4⟩ := b2_some.1 g3
  obtain ⟨hh, m2, h2, g5⟩ := b2_some.1 g4
  obtain ⟨a, m3, h3, g6⟩ := b2_some.1 g5
  obtain ⟨e, m4, h4, g7⟩ := b2_some.1 g6
  obtain ⟨e1, g8⟩ := isV_some g7
  obtain ⟨x5, m5, h5, g9⟩ := b2_some.1 g8
  obtain ⟨x6, m6, h6, g10⟩ := b2_some.1 g9
  obtain ⟨x, m7, h7, g11⟩ := b2_some.1 g10
  obtain ⟨e2, g12⟩ := isV_some g11
  obtain ⟨y, m8, h8, g13⟩ := b2_some.1 g12
  obtain ⟨e3, _⟩ := isV_some g13
  clear h g0 g1 g2 g3 g4 g5 g6 g7 g8 g9 g10 g11 g12 g13
  subst e0; subst e1; subst e2; subst e3
  have := two_some hl; subst this
  have := vTup_some hv; subst this
  exact ⟨n, hh, a, m0, m1, m2, m3, m4, m5, m6, m7, m8, x1, x5, x6, retV_some h0, retV_some h1, retV_some h2, retV_some h3, retV_some h4, retV_some h5, retV_some h6, retV_some h7, retV_some h8⟩
theorem cell_obj {w : World} {b o : Nat} {v : Value} (h : w.cell? ⟨b, o, none⟩ = some v) : ∃ (arr : Array Value) (e : TypeId) (fz : Nat × Nat), w.heap[b]? = some (.cells arr e fz) := by
  unfold World.cell? at h
  cases hb : w.heap[b]? with
  | none => simp [hb] at h
  | some x =>
    cases x with
    | cells arr e fz => exact ⟨arr, e, fz, rfl⟩
    | _ => simp [hb] at h
theorem entry [Env] {w : World} {dv : Value} (hB : BytesAt w dv (Env.bytes 0)) : ∃ σ, Rel Tryz.prog w.heap.size σ (.mk .lf 6) w ∧ VRel σ (.complex .f64 0 16) dv := by
  have hn : ∀ b, (Mem.mk (Tr.lf : Tr Blk) 6).get b = none := fun b => Tr.get_lf b
  rcases Nat.eq_zero_or_pos (Env.bytes 0).length with h0 | h0
  · obtain ⟨_, a, c, rfl, _, hc, _⟩ := hB
    rw [h0]
    exact ⟨noSg, rel_empty Tryz.prog w 6, .nm 0 (.nil 0 rfl (List.eq_nil_of_length_eq_zero h0) a c hc)⟩
  · have hlt := hB.1
    have hdec : decB (encN (Env.bytes 0)) = Env.bytes 0 := dec_enc hlt
    obtain ⟨b, o, c, rfl, h1, h2, h3⟩ := hB.open h0
    obtain ⟨z, hz⟩ : ∃ z, (Env.bytes 0)[0]? = some z := ⟨_, List.getElem?_eq_getElem h0⟩
    obtain ⟨arr, e, fz, hh⟩ := cell_obj (h3 0 z hz)
    refine ⟨Am.place noSg 0 ⟨b, o, c, 0, encN (Env.bytes 0)⟩, ⟨(fun b rw' e vs hb => by rw [hn] at hb; cases hb), (fun b es c hb => by rw [hn] at hb; cases hb), (fun b r a s t hb => by rw [hn] at hb; cases hb),
      (fun b c x y p q hb => by rw [hn] at hb; cases hb), (fun b hb => ?_), Nat.le_refl _, (fun b' p hp hnm => ?_)⟩, .nm 0 (.row 0 rfl (place_same _ _) ⟨rfl, by show 1 ≤ encB _ + 1; omega⟩ hdec ⟨h1, h2⟩)⟩
    · unfold Am.place
      have hb : 6 ≤ b := hb
      rw [if_neg (by omega)]; rfl
    · unfold Am.place at hp
      by_cases e0 : b' = 0
      · rw [if_pos e0] at hp
        injection hp with hp; subst hp
        refine ⟨⟨arr, e, fz, hh, fun i x hx => ?_⟩, fun c x q hc => by rw [hn] at hc; cases hc⟩
        rw [hdec] at hx
        have := h3 i x hx
        rw [cell_of_row _ _ _ _ _ _ hh] at this
        exact this
      · rw [if_neg e0] at hp; cases hp
/-- The calls of a round, one behind the other. -/
def Round (n0 : Nat) (lo dbl f1 f2 f3 : Nat) (dv : Value) (em : Nat) (w0 w : World) : Prop :=
  Calls Tryz.prog 19 #[.agg #[.float .f64 lo, .float .f64 dbl, .float .f64 0, .int .i64 5], .bool false] w fun e w1 => ∃ n, e = .returned (.tuple #[n, .bool true]) ∧ Below n0 w0 w1 ∧
  Calls Tryz.prog 20 #[n, .float .f64 f1, .float .f64 f2, .float .f64 f3] w1 fun e w2 => ∃ v, e = .returned v ∧ Below n0 w0 w2 ∧
  Calls Tryz.prog 21 #[n, .int .i64 0] w2 fun e w3 => ∃ h, e = .returned h ∧ Below n0 w0 w3 ∧
  Calls Tryz.prog 22 #[.int .u8 2] w3 fun e w4 => ∃ a, e = .returned a ∧ Below n0 w0 w4 ∧
  Calls Tryz.prog 7 #[h, a, .int .u16 1, .int .u16 1, dv] w4 fun e w5 => e = .returned (.int .i64 0) ∧ Below n0 w0 w5 ∧
  Calls Tryz.prog 23 #[n, .int .i64 0] w5 fun e w6 => ∃ v, e = .returned v ∧ Below n0 w0 w6 ∧
  Calls Tryz.prog 23 #[n, .int .i64 10] w6 fun e w7 => ∃ v, e = .returned v ∧ Below n0 w0 w7 ∧
  Calls Tryz.prog 24 #[n] w7 fun e w8 => e = .returned (.int .i64 em) ∧ Below n0 w0 w8 ∧
  Calls Tryz.prog 25 #[n] w8 fun e w9 => e = .returned (.int .i64 0) ∧ Below n0 w0 w9
set_option maxHeartbeats 1000000 in
theorem round (d : List Nat) (hl : d.length ≤ 1000) (f : Nat → Nat) {t : List (Nat × Nat × Bool)} (ht : ∀ e ∈ t, f e.1 < 18446744073709551616 ∧ f e.2.1 < 18446744073709551616 ∧ Go.Dr.hitF (f e.1) (f e.2.1) = e.2.2)
    {em : Nat} (hs : scen (callA Tryz.prog fns (hkN t) 100000 100) em = some true) (w : World) (dv : Value) (hB : BytesAt w dv d) : Round w.heap.size (f 5) (f 4) (f 1) (f 2) (f 3) dv em w w := by
  letI : Env := envN d hB.1 hl f
  obtain ⟨n, h, a, m0, m1, m2, m3, m4, m5, m6, m7, m8, x1, x5, x6, C⟩ := scen_some hs
  have ok := fun g => hooked_ok (base := w.heap.size) (hkN_ok d hB.1 hl f ht) g
  obtain ⟨σ0, r0, hv0⟩ := entry (w := w) (dv := dv) hB
  have hfl : ∀ (σ : Sg) j, VRel σ (fn j) (.float .f64 (f j)) := fun σ j => .nm j (.flt rfl)
  refine (ok _ _ _ _ C.c0 σ0 w [.agg ⟨[.float .f64 (f 5), .float .f64 (f 4), .float .f64 0, .int .i64 5]⟩, .bool false] r0 (.cons (LRel.cons (hfl _ 5) (.cons (hfl _ 4) (.cons (.float _ _) (.cons (.int _ _) .nil)))).agg (.cons (.bool _) .nil))).2.mono ?_
  rintro e w1 ⟨σ1, e1, b1, r1, v1, rfl, hv1⟩
  obtain ⟨l1, rfl, hl1⟩ := VRel.tuple_inv hv1
  obtain ⟨n', t1, rfl, hn, ht1⟩ := hl1.head
  obtain ⟨y, t2, rfl, hy, ht2⟩ := ht1.head
  obtain rfl := ht2.nil_inv
  cases hy
  refine ⟨n', rfl, b1, ?_⟩
  refine (ok _ _ _ _ C.c1 σ1 w1 [n', .float .f64 (f 1), .float .f64 (f 2), .float .f64 (f 3)] r1 (.cons hn (.cons (hfl _ 1) (.cons (hfl _ 2) (.cons (hfl _ 3) .nil))))).2.mono ?_
  rintro e w2 ⟨σ2, e2, b2, r2, v2, rfl, hv2⟩
  have hn2 := hn.mono e2.sub
  refine ⟨v2, rfl, b1.trans b2, ?_⟩
  refine (ok _ _ _ _ C.c2 σ2 w2 [n', .int .i64 0] r2 (.cons hn2 (.cons (.int _ _) .nil))).2.mono ?_
  rintro e w3 ⟨σ3, e3, b3, r3, h', rfl, hh⟩
  have hn3 := hn2.mono e3.sub
  refine ⟨h', rfl, (b1.trans b2).trans b3, ?_⟩
  refine (ok _ _ _ _ C.c3 σ3 w3 [.int .u8 2] r3 (.cons (.int _ _) .nil)).2.mono ?_
  rintro e w4 ⟨σ4, e4, b4, r4, a', rfl, ha⟩
  have hn4 := hn3.mono e4.sub
  have hh4 := hh.mono e4.sub
  have hd4 := (((hv0.mono e1.sub).mono e2.sub).mono e3.sub).mono e4.sub
  have B4 := ((b1.trans b2).trans b3).trans b4
  refine ⟨a', rfl, B4, ?_⟩
  refine (ok _ _ _ _ C.c4 σ4 w4 [h', a', .int .u16 1, .int .u16 1, dv] r4 (.cons hh4 (.cons ha (.cons (.int _ _) (.cons (.int _ _) (.cons hd4 .nil)))))).2.mono ?_
  rintro e w5 ⟨σ5, e5, b5, r5, v5, rfl, hv5⟩
  have hn5 := hn4.mono e5.sub
  have B5 := B4.trans b5
  cases hv5
  refine ⟨rfl, B5, ?_⟩
  refine (ok _ _ _ _ C.c5 σ5 w5 [n', .int .i64 0] r5 (.cons hn5 (.cons (.int _ _) .nil))).2.mono ?_
  rintro e w6 ⟨σ6, e6, b6, r6, v6, rfl, _⟩
  have hn6 := hn5.mono e6.sub
  refine ⟨v6, rfl, B5.trans b6, ?_⟩
  refine (ok _ _ _ _ C.c6 σ6 w6 [n', .int .i64 10] r6 (.cons hn6 (.cons (.int _ _) .nil))).2.mono ?_
  rintro e w7 ⟨σ7, e7, b7, r7, v7, rfl, _⟩
  have hn7 := hn6.mono e7.sub
  have B7 := (B5.trans b6).trans b7
  refine ⟨v7, rfl, B7, ?_⟩
  refine (ok _ _ _ _ C.c7 σ7 w7 [n'] r7 (.cons hn7 .nil)).2.mono ?_
  rintro e w8 ⟨σ8, e8, b8, r8, v8, rfl, hv8⟩
  have hn8 := hn7.mono e8.sub
  cases hv8
  refine ⟨rfl, B7.trans b8, ?_⟩
  refine (ok _ _ _ _ C.c8 σ8 w8 [n'] r8 (.cons hn8 .nil)).2.mono ?_
  rintro e w9 ⟨σ9, e9, b9, r9, v9, rfl, hv9⟩
  cases hv9
  exact ⟨rfl, (B7.trans b8).trans b9⟩
end Go.Ch
