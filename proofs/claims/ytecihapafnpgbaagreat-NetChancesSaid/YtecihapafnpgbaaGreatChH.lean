/- NetChances: a packet; ipfour.flags, ipfour.lay. · NetChances: ipfour.May, ipfour.Lay. · NetChances: a packet's bytes. -/
import Derived.Test.YtecihapafnpgbaaGreatChE
set_option linter.unusedSimpArgs false
set_option linter.unusedVariables false
set_option linter.constructorNameAsVariable false
set_option linter.unusedSectionVars false
namespace Go.Ch
open Go Go.Am Go.Hm Go.Proofs Go.RowKit
set_option maxRecDepth 100000
/-- What marks a packet has: that it may not be cut, that more follow, and where its load begins. -/
structure Mk where
  wh : Bool
  mo : Bool
  off : Nat
/-- A packet. -/
def pkC (A B : Array Value) (proto hops id : Nat) (m : Mk) (ld : Value) : Array Value := A ++ B ++ #[.int .u8 proto, .int .u8 hops, .int .u32 id, .bool m.wh, .bool m.mo, .int .i64 m.off, ld]
def pkV (A B : Array Value) (proto hops id : Nat) (m : Mk) (ld : Value) : Value := .agg (pkC A B proto hops id m ld)
/-- The marks as a word. -/
def Mk.word (m : Mk) : Nat := m.off / 8 + (if m.wh then 16384 else 0) + (if m.mo then 8192 else 0)
theorem or_wh (x : Nat) (h : x < 8192) : intA .or .u64 x .u64 16384 = some (.int .u64 (x + 16384 : Nat)) := by
  show vI .u64 (wrapN .u64 (Nat.lor (Nat.mod x 18446744073709551616) (Nat.mod 16384 18446744073709551616))) = _
  have e1 : Nat.mod x 18446744073709551616 = x := Nat.mod_eq_of_lt (by omega)
  have e2 : Nat.lor x (Nat.mod 16384 18446744073709551616) = x + 16384 := by
    have := Nat.two_pow_add_eq_or_of_lt (i := 14) (b := x) (by omega) 1
    show x ||| 16384 = _
    rw [Nat.or_comm]; rw [show (16384 : Nat) = 2 ^ 14 * 1 from rfl, ← this]; omega
  rw [e1, e2, vI_eq]
  unfold wrapN
  have : Nat.ble (halfK .u64) (x + 16384) = false := by
    rw [Bool.eq_false_iff]; intro hb
    have := Nat.le_of_ble_eq_true hb
    have h9 : halfK .u64 = 18446744073709551616 := by rfl
    rw [h9] at this; omega
  rw [this]; rfl
theorem or_mo (x c : Nat) (h : x < 8192) (hc : c = 0 ∨ c = 16384) : intA .or .u64 (x + c : Nat) .u64 8192 = some (.int .u64 (x + c + 8192 : Nat)) := by
  show vI .u64 (wrapN .u64 (Nat.lor (Nat.mod (x + c) 18446744073709551616) (Nat.mod 8192 18446744073709551616))) = _
  have e1 : Nat.mod (x + c) 18446744073709551616 = x + c := Nat.mod_eq_of_lt (by omega)
  have e2 : Nat.lor (x + c) (Nat.mod 8192 18446744073709551616) = x + c + 8192 := by
    have h1 := Nat.two_pow_add_eq_or_of_lt (i := 13) (b := x) (by omega) 1
    have h3 := Nat.two_pow_add_eq_or_of_lt (i := 14) (b := x) (by omega) 1
    have h4 := Nat.two_pow_add_eq_or_of_lt (i := 14) (b := 8192 + x) (by omega) 1
    show (x + c) ||| 8192 = _
    rw [Nat.or_comm]
    rcases hc with rfl | rfl
    · rw [Nat.add_zero]
      rw [show (8192 : Nat) = 2 ^ 13 * 1 from rfl, ← h1]; omega
    · have e5 : x + 16384 = 16384 ||| x := by rw [show (16384 : Nat) = 2 ^ 14 * 1 from rfl, ← h3]; omega
      have e6 : 8192 ||| x = 8192 + x := by rw [show (8192 : Nat) = 2 ^ 13 * 1 from rfl, ← h1]
      have e7 : 16384 ||| (8192 + x) = 16384 + (8192 + x) := by rw [show (16384 : Nat) = 2 ^ 14 * 1 from rfl, ← h4]
      rw [e5, Nat.or_comm 16384 x, ← Nat.or_assoc, Nat.or_comm _ 16384, e6, e7, Nat.or_comm x 16384, ← e5]; omega
  rw [e1, e2, vI_eq]
  unfold wrapN
  have : Nat.ble (halfK .u64) (x + c + 8192) = false := by
    rw [Bool.eq_false_iff]; intro hb
    have := Nat.le_of_ble_eq_true hb
    have h9 : halfK .u64 = 18446744073709551616 := by rfl
    rw [h9] at this; omega
  rw [this]; rfl
theorem or_b (x y z : Nat) (h : intA .or .u64 x .u64 y = some (.int .u64 (z : Nat))) : bits BinOp.or IntKind.u64 (x : Int) (y : Int) = (z : Int) := by
  have h1 := (run_int Tryz.prog h 0 default).1
  simp [go_sem] at h1
  exact h1
theorem BoxAt.pk {W : World} {b : Nat} {A B : Array Value} (hA : A.size = 17) (hB : B.size = 17) {proto hops id : Nat} {mk : Mk} {ld : Value} (h : BoxAt W b (pkC A B proto hops id mk ld)) :
    W.cell? ⟨b, 34, none⟩ = some (.int .u8 proto) ∧ W.cell? ⟨b, 35, none⟩ = some (.int .u8 hops) ∧ W.cell? ⟨b, 36, none⟩ = some (.int .u32 id) ∧ W.cell? ⟨b, 37, none⟩ = some (.bool mk.wh) ∧ W.cell? ⟨b, 38, none⟩ = some (.bool mk.mo) ∧ W.cell? ⟨b, 39, none⟩ = some (.int .i64 mk.off) ∧ W.cell? ⟨b, 40, none⟩ = some ld := by
  have hs : (A ++ B).size = 34 := by simp [hA, hB]
  have H : ∀ j u, (#[.int .u8 proto, .int .u8 hops, .int .u32 id, .bool mk.wh, .bool mk.mo, .int .i64 mk.off, ld] : Array Value)[j]? = some u → W.cell? ⟨b, 34 + j, none⟩ = some u := fun j u hu =>
    h.2 (34 + j) u (by unfold pkC; rw [Array.getElem?_append_right (by omega), hs, Nat.add_sub_cancel_left]; exact hu)
  exact ⟨H 0 _ rfl, H 1 _ rfl, H 2 _ rfl, H 3 _ rfl, H 4 _ rfl, H 5 _ rfl, H 6 _ rfl⟩
theorem flags (A B : Array Value) (hA : A.size = 17) (hB : B.size = 17) (proto hops id : Nat) (mk : Mk) (hm : mk.off < 65536) (ld : Value) (w : World) :
    Calls Tryz.prog 255 #[.agg (pkC A B proto hops id mk ld)] w fun e w' => e = .returned (.int .u64 mk.word) ∧ Below w.heap.size w w' := by
  obtain ⟨wh, mo, off⟩ := mk
  have ho1 : ((off / 8 : Nat) : Int) = (off : Int) / 8 := by omega
  have hW := wrap_u64 ((off : Int) / 8) (by omega) (by simp at hm; omega)
  have h1 := or_b _ _ _ (or_wh (off / 8) (by simp at hm; omega))
  have h2 := or_b _ _ _ (or_mo (off / 8) 0 (by simp at hm; omega) (.inl rfl))
  have h3 := or_b _ _ _ (or_mo (off / 8) 16384 (by simp at hm; omega) (.inr rfl))
  simp at h1 h2 h3 hm
  go_enter Tryz.func255, Tryz.ntmps255
  go_upto_region 1 with fail
  have X := BoxAt.new w (pkC A B proto hops id ⟨wh, mo, off⟩ ld) 55
  have Xb : Below w.heap.size w (w.alloc (.cells (pkC A B proto hops id ⟨wh, mo, off⟩ ld) 55)) := (Below.refl _ _).alloc (Nat.le_refl _) _
  generalize w.alloc (.cells (pkC A B proto hops id ⟨wh, mo, off⟩ ld) 55) = W at X Xb ⊢
  obtain ⟨x0, x1, x2, x3, x4, x5, x6⟩ := X.pk hA hB
  simp only at x3 x4 x5
  cases wh <;> cases mo
  all_goals
    go_wp2_with fail
    go_ret
    refine ⟨?_, Xb⟩
    simp [Mk.word]
theorem ilay (g cap i c : Nat) (l : List Nat) (m : Nat) (w : World) (h : OwnB m w (.slice (some ⟨g, 0, none⟩) l.length cap) l) (hi : i + 1 < l.length) (hl : l.length ≤ 100000) (hc : c ≤ 65535) (hg : m ≤ g) :
    Calls Tryz.prog 257 #[.slice (some ⟨g, 0, none⟩) l.length cap, .int .i64 i, .int .u16 c] w fun e w' => e = .returned (.tuple #[]) ∧ OwnB m w' (.slice (some ⟨g, 0, none⟩) l.length cap) ((l.set i (c / 256)).set (i + 1) (c % 256)) ∧ Below m w w' := by
  have hsh := shr_u16 c
  obtain ⟨x, hx⟩ : ∃ x, l[i]? = some x := ⟨_, List.getElem?_eq_getElem (by omega)⟩
  obtain ⟨y, hy⟩ : ∃ y, l[i + 1]? = some y := ⟨_, List.getElem?_eq_getElem (by omega)⟩
  have q2 : w.cell? ⟨g, i, none⟩ = some (.int .u8 (Int.ofNat x)) := by rw [h.row.cellAt i (by omega)]; exact vB_at hx
  have q3 : w.cell? ⟨g, i + 1, none⟩ = some (.int .u8 (Int.ofNat y)) := by rw [h.row.cellAt (i + 1) (by omega)]; exact vB_at hy
  have f2 := h.row.frozenAt i
  have f3 := h.row.frozenAt (i + 1)
  clear hx hy
  go_enter Tryz.func257, Tryz.ntmps257
  go_wp2_with (first
    | (refine Go.Hm.wpList_exec rfl (exec_bin rfl rfl rfl hsh) ?_))
  go_end0
  exact ⟨rfl, h.set2 i (i + 1) (c / 256) (c % 256) (x := (c : Int) / 256) (y := (c : Int) % 256) (by simp) (by simp) (by omega) (by omega), ((Below.refl _ _).setCell hg _).setCell hg _⟩
/-- An address of four bytes that may be. -/
theorem may4 (p q r s : Nat) (hm : mayL false [p, q, r, s, 0, 0, 0, 0, 0, 0, 0, 0, 0, 0, 0, 0] = true) (w : World) : Calls Tryz.prog 105 #[ad4 p q r s] w fun e w' => e = .returned (.bool true) ∧ Below w.heap.size w w' := by
  have := may178 false [p, q, r, s, 0, 0, 0, 0, 0, 0, 0, 0, 0, 0, 0, 0] rfl w
  rw [hm] at this
  exact this
theorem BoxAt.pkSrc {W : World} {b p q r s : Nat} {B : Array Value} {proto hops id : Nat} {mk : Mk} {ld : Value} (h : BoxAt W b (pkC (adC p q r s) B proto hops id mk ld)) : W.cell? ⟨b, 0, none⟩ = some (.bool false) ∧ (loadVar 32 ⟨b, 0, none⟩).run Tryz.prog W = .ok (.agg (adC p q r s)) W := by
  have H : ∀ j u, (adC p q r s)[j]? = some u → W.cell? ⟨b, j, none⟩ = some u := fun j u hu => by
    have hlt := (Array.getElem?_eq_some_iff.1 hu).1
    exact h.2 j u (by unfold pkC; rw [Array.append_assoc, Array.getElem?_append_left hlt]; exact hu)
  exact ⟨H 0 _ rfl, run_loadVar_agg (fun w => Tryz.isAgg32 w) (fun w => Tryz.sizeOf32 w) _ _ rfl fun j v hj => by
    rw [Addr.add_lit, Nat.zero_add]; exact H j v hj⟩
theorem BoxAt.pkDst {W : World} {b p q r s : Nat} {A : Array Value} (hA : A.size = 17) {proto hops id : Nat} {mk : Mk} {ld : Value} (h : BoxAt W b (pkC A (adC p q r s) proto hops id mk ld)) : W.cell? ⟨b, 17, none⟩ = some (.bool false) ∧ (loadVar 32 ⟨b, 17, none⟩).run Tryz.prog W = .ok (.agg (adC p q r s)) W := by
  have H : ∀ j u, (adC p q r s)[j]? = some u → W.cell? ⟨b, 17 + j, none⟩ = some u := fun j u hu => by
    have hlt : j < 17 := (Array.getElem?_eq_some_iff.1 hu).1
    refine h.2 (17 + j) u ?_
    unfold pkC
    rw [Array.append_assoc, Array.getElem?_append_right (by omega), hA, Nat.add_sub_cancel_left, Array.getElem?_append_left hlt]
    exact hu
  exact ⟨H 0 _ rfl, run_loadVar_agg (fun w => Tryz.isAgg32 w) (fun w => Tryz.sizeOf32 w) _ _ rfl fun j v hj => by
    rw [Addr.add_lit]; exact H j v hj⟩
end Go.Ch
namespace Go.Ch
open Go Go.Am Go.Hm Go.Proofs Go.RowKit
set_option maxRecDepth 100000
abbrev okAd (p q r s : Nat) : Prop := mayL false [p, q, r, s, 0, 0, 0, 0, 0, 0, 0, 0, 0, 0, 0, 0] = true
/-- Marks that may be, at n bytes of load. -/
structure Mk.ok (m : Mk) (n : Nat) : Prop where
  oct : m.off % 8 = 0
  end_ : m.off + n ≤ 65515
  more : m.mo = true → n % 8 = 0
  whole : m.wh = true → m.mo = false ∧ m.off = 0
set_option maxHeartbeats 1000000 in
theorem pmay (p q r s p' q' r' s' proto hops id : Nat) (mk : Mk) (hA : okAd p q r s) (hB : okAd p' q' r' s') (hid : id ≤ 65535) (dv : Value) (d : List Nat) (hmk : mk.ok d.length) (w : World) (hd : BytesAt w dv d) (hl : d.length ≤ 60000) :
    Calls Tryz.prog 185 #[.agg (pkC (adC p q r s) (adC p' q' r' s') proto hops id mk dv)] w fun e w' => e = .returned (.bool true) ∧ Below w.heap.size w w' := by
  obtain ⟨_, a, c, rfl, _, _, _⟩ := hd
  obtain ⟨wh, mo, off⟩ := mk
  obtain ⟨m1, m2, m3, m4⟩ := hmk
  simp only at m1 m2 m3 m4
  have hl1 : ((d.length : Nat) : Int) ≤ 60000 := by omega
  have k1 : (off : Int).tmod 8 = 0 := by rw [Int.tmod_eq_emod_of_nonneg (by omega)]; omega
  have k2 : (off : Int) ≤ 65515 := by omega
  have k3 : (d.length : Int) ≤ 65515 - off := by omega
  have hmA := fun W => may4 p q r s hA W
  have hmB := fun W => may4 p' q' r' s' hB W
  unfold ad4 at hmA hmB
  go_enter Tryz.func185, Tryz.ntmps185
  go_upto_region 1 with fail
  have X := BoxAt.new w (pkC (adC p q r s) (adC p' q' r' s') proto hops id ⟨wh, mo, off⟩ (.slice a d.length c)) 55
  have Xb : Below w.heap.size w (w.alloc (.cells (pkC (adC p q r s) (adC p' q' r' s') proto hops id ⟨wh, mo, off⟩ (.slice a d.length c)) 55)) := (Below.refl _ _).alloc (Nat.le_refl _) _
  generalize w.alloc (.cells (pkC (adC p q r s) (adC p' q' r' s') proto hops id ⟨wh, mo, off⟩ (.slice a d.length c)) 55) = W at X Xb ⊢
  obtain ⟨x0, x1, x2, x3, x4, x5, x6⟩ := X.pk rfl rfl
  obtain ⟨y0, yL⟩ := X.pkSrc
  obtain ⟨z0, zL⟩ := X.pkDst rfl
  have hX1 := X.1
  have HX := Lib.hid X
  have hmW := hmA W
  clear X
  go_upto_region 3 with (first
    | (refine wpList_load_aggG rfl 32 _ rfl _ rfl (adC p q r s) yL ?_)
    | (refine wpList_load_aggG rfl 32 _ rfl _ rfl (adC p' q' r' s') (HX.out.below hb1 hX1 |>.pkDst rfl).2 ?_)
    | (go_at_call 105; refine hmW.mono ?_; clear hmW; rintro e W1 ⟨rfl, hb1⟩; have hmW2 := hmB W1)
    | (go_at_call 105; refine hmW2.mono ?_; clear hmW2; rintro e W2 ⟨rfl, hb2⟩))
  have hXb := hb1.trans (hb2.mono hb1.size)
  have X2 := HX.out.below hXb hX1
  clear x0 x1 x2 x3 x4 x5 x6 y0 yL z0 zL hmA hmB
  obtain ⟨x0, x1, x2, x3, x4, x5, x6⟩ := X2.pk rfl rfl
  simp only at x3 x4 x5
  have hid1 : (id : Int) ≤ 65535 := by omega
  have hk : (if wh then (if mo then false else decide (off = 0)) else true) = true := by
    cases wh
    · rfl
    · have := m4 rfl; rw [this.1]; simp [this.2]
  have hn : mo = true → (d.length : Int).tmod 8 = 0 := fun h => by have := m3 h; rw [Int.tmod_eq_emod_of_nonneg (by omega)]; omega
  clear m3 m4
  cases wh <;> cases mo
  all_goals simp at hk hn
  all_goals
    go_wp2_with fail
    all_goals try (exfalso; omega)
    go_ret
    refine ⟨?_, Xb.trans (hXb.mono (by omega))⟩
    try simp
end Go.Ch
namespace Go.Ch
open Go Go.Am Go.Hm Go.Proofs Go.RowKit
set_option maxRecDepth 100000
/-- A header without its sum, of so many bytes in all, of such marks. -/
def ipH (src dst : List Nat) (proto hops id mw n : Nat) : List Nat := [69, 0] ++ be2 [20 + n, id, mw] ++ [hops, proto, 0, 0] ++ src ++ dst
/-- A header. -/
def ipC (src dst : List Nat) (proto hops id mw n : Nat) : List Nat :=
  ((ipH src dst proto hops id mw n).set 10 (checkN (wsum (ipH src dst proto hops id mw n)) / 256)).set 11 (checkN (wsum (ipH src dst proto hops id mw n)) % 256)
def ipL (src dst : List Nat) (proto hops id mw : Nat) (ld : List Nat) : List Nat := ipC src dst proto hops id mw ld.length ++ ld
theorem foldN_check (S : Nat) : foldN (S + checkN S) = 65535 := by
  unfold checkN foldN
  split <;> split <;> omega
theorem ip_sum (p q r s p' q' r' s' proto hops id mw n : Nat) : foldN (wsum (ipC [p, q, r, s] [p', q', r', s'] proto hops id mw n)) = 65535 := by
  have h : wsum (ipC [p, q, r, s] [p', q', r', s'] proto hops id mw n) = wsum (ipH [p, q, r, s] [p', q', r', s'] proto hops id mw n) + checkN (wsum (ipH [p, q, r, s] [p', q', r', s'] proto hops id mw n)) := by
    unfold ipC
    generalize checkN (wsum (ipH [p, q, r, s] [p', q', r', s'] proto hops id mw n)) = c
    simp [ipH, be2, wsum]
    omega
  rw [h, foldN_check]
end Go.Ch
