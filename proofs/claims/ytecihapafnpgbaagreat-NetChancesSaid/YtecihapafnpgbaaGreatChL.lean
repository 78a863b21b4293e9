/- NetChances: octets.Get; parts of a row of bytes; ipfour.size. · NetChances: parts of a row of bytes; ipfour.size. · NetChances: octets.Reader. -/
import Derived.Test.YtecihapafnpgbaaGreatChK
set_option linter.unusedSimpArgs false
set_option linter.unusedVariables false
set_option linter.constructorNameAsVariable false
set_option linter.unusedSectionVars false
namespace Go.Ch
open Go Go.Am Go.Hm Go.Proofs Go.RowKit
set_option maxRecDepth 100000
/-- The number that bytes lay. -/
def beN (l : List Nat) : Nat := l.foldl (fun n b => n * 256 + b) 0
theorem beN_snoc (l : List Nat) (b : Nat) : beN (l ++ [b]) = beN l * 256 + b := by simp [beN]
theorem beN_lt {l : List Nat} (h : ∀ b ∈ l, b < 256) : ∀ k, k ≤ l.length → beN (l.take k) < 256 ^ k
  | 0, _ => by simp [beN]
  | k + 1, hk => by
    have ih := beN_lt h k (by omega)
    rw [List.take_succ_eq_append_getElem (by omega), beN_snoc, Nat.pow_succ]
    have := h l[k] (List.getElem_mem (by omega))
    omega
theorem shl8_wide (m : Nat) (h : m < 72057594037927936) : intA .shl .u64 m .u64 8 = some (.int .u64 (m * 256 : Nat)) := by
  show vI .u64 (wrapN .u64 (Nat.mul m (Nat.pow 2 8))) = _
  rw [vI_eq]
  unfold wrapN
  have e1 : Nat.mul m (Nat.pow 2 8) = m * 256 := rfl
  rw [e1]
  have : Nat.ble (halfK .u64) (m * 256) = false := by
    rw [Bool.eq_false_iff]; intro hb
    have := Nat.le_of_ble_eq_true hb
    have h9 : halfK .u64 = 18446744073709551616 := by rfl
    rw [h9] at this; omega
  rw [this]; rfl
theorem or_wide (x y : Nat) (hx : x < 72057594037927936) (hy : y < 256) : intA .or .u64 (x * 256 : Nat) .u64 y = some (.int .u64 (x * 256 + y : Nat)) := by
  show vI .u64 (wrapN .u64 (Nat.lor (Nat.mod (x * 256) 18446744073709551616) (Nat.mod y 18446744073709551616))) = _
  have e1 : Nat.mod (x * 256) 18446744073709551616 = x * 256 := Nat.mod_eq_of_lt (by omega)
  have e2 : Nat.mod y 18446744073709551616 = y := Nat.mod_eq_of_lt (by omega)
  have e3 : Nat.lor (x * 256) y = x * 256 + y := by
    have := Nat.two_pow_add_eq_or_of_lt (i := 8) (b := y) (by omega) x
    rw [Nat.mul_comm x 256]
    exact this.symm
  rw [e1, e2, e3, vI_eq]
  have e4 : wrapN .u64 (x * 256 + y) = ((x * 256 + y : Nat) : Int) := by
    unfold wrapN
    have : Nat.ble (halfK .u64) (x * 256 + y) = false := by
      rw [Bool.eq_false_iff]; intro hb
      have := Nat.le_of_ble_eq_true hb
      have h9 : halfK .u64 = 18446744073709551616 := by rfl
      rw [h9] at this; omega
    rw [this]; rfl
  rw [e4]
theorem get (v : Value) (l : List Nat) (w : World) (h : BytesAt w v l) (h1 : 1 ≤ l.length) (h8 : l.length ≤ 8) :
    Calls Tryz.prog 174 #[v] w fun e w' => e = .returned (.int .u64 (beN l : Nat)) ∧ w' = w := by
  obtain ⟨hlt, a, c, rfl, hc1, hc2, hcell⟩ := h
  obtain ⟨z0, hz0⟩ : ∃ z, l[0]? = some z := ⟨_, List.getElem?_eq_getElem (by omega)⟩
  obtain ⟨b, o, rfl, h0⟩ := hcell 0 z0 hz0
  have hcell' : ∀ i x, l[i]? = some x → w.cell? ⟨b, o + i, none⟩ = some (.int .u8 (Int.ofNat x)) := fun i x hx => by
    obtain ⟨b', o', e, hc⟩ := hcell i x hx
    cases e; exact hc
  have HC := Lib.hid hcell'
  have HL := Lib.hid hlt
  have hBL := Lib.hid (fun k hk => beN_lt hlt k hk)
  clear hcell hcell' hlt hz0 h0
  have hm : ((l.length : Int)) ≤ 8 := by omega
  have hm1 : (1 : Int) ≤ l.length := by omega
  have hc3 : 1 ≤ c := by omega
  go_enter Tryz.func174, Tryz.ntmps174
  go_upto_region 3 with fail
  all_goals
    try
      have e8 : (l.length : Int) - 8 = 0 := by omega
      simp only [e8, Int.toNat_zero, Nat.sub_zero, Nat.add_zero]
      clear e8
    go_loop [3, 13] (fun n i => ∃ k : Nat, k ≤ l.length ∧ i = .int .i64 k ∧ n = .int .u64 (beN (l.take k) : Nat)) (fun _ i => l.length - (intOf i).toNat)
    case atStart => exact ⟨0, Nat.zero_le _, rfl, by simp [beN]⟩
    case round =>
      obtain ⟨k, hk, rfl, rfl⟩ := hrel
      rcases Nat.lt_or_ge k l.length with hlt | hge
      · obtain ⟨x, hxk⟩ : ∃ p, l[k]? = some p := ⟨_, List.getElem?_eq_getElem hlt⟩
        have hc := HC.out k x hxk
        have hx := HL.out x (List.mem_of_getElem? hxk)
        have hB : beN (l.take k) < 72057594037927936 := by
          have h2 := hBL.out k hk
          have h3 : 256 ^ k ≤ 256 ^ 7 := Nat.pow_le_pow_right (by omega) (by omega)
          have h4 : (256 : Nat) ^ 7 = 72057594037927936 := by decide
          omega
        have hs := shl8_wide _ hB
        have ho := or_wide _ x hB hx
        have hn : beN (l.take k) * 256 + x = beN (l.take (k + 1)) := by
          obtain ⟨h5, rfl⟩ := List.getElem?_eq_some_iff.1 hxk
          rw [List.take_succ_eq_append_getElem h5, beN_snoc]
        have HN := Lib.hid hn
        clear hxk hn
        generalize beN (l.take k) = B at hB hs ho HN ⊢
        go_wp2_with (first
          | (refine Go.Hm.wpList_exec rfl (exec_bin rfl rfl rfl hs) ?_)
          | (refine Go.Hm.wpList_exec rfl (exec_bin rfl rfl rfl ho) ?_))
        refine ⟨⟨k + 1, by omega, by go_num, by rw [← HN.out]; simp⟩, by simp [intOf]; omega⟩
      · obtain rfl : k = l.length := by omega
        go_wp2_with fail
        go_ret
        exact ⟨by simp, rfl⟩
end Go.Ch
namespace Go.Ch
open Go Go.Am Go.Hm Go.Proofs Go.RowKit
set_option maxRecDepth 100000
theorem BytesAt.sub {W : World} {b o n c : Nat} {l : List Nat} (h : BytesAt W (.slice (some ⟨b, o, none⟩) n c) l) (i m c' : Nat) (hj : i + m ≤ l.length) (hc : m ≤ c') (hm : c' ≤ maxLen) :
    BytesAt W (.slice (some ⟨b, o + i, none⟩) m c') ((l.drop i).take m) := by
  obtain ⟨h1, a, c1, h2, h3, h4, h5⟩ := h
  cases h2
  have hl : ((l.drop i).take m).length = m := by simp; omega
  refine ⟨fun x hx => h1 x (List.mem_of_mem_drop (List.mem_of_mem_take hx)), _, c', by rw [hl], by rw [hl]; exact hc, hm, fun k x hx => ⟨b, o + i, rfl, ?_⟩⟩
  have hk : l[i + k]? = some x := by
    rw [List.getElem?_take] at hx
    split at hx
    · rw [List.getElem?_drop] at hx; exact hx
    · cases hx
  obtain ⟨b', o', e, hc⟩ := h5 (i + k) x hk
  cases e
  rw [Nat.add_assoc]; exact hc
theorem BytesAt.open {W : World} {v : Value} {l : List Nat} (h : BytesAt W v l) (hl : 0 < l.length) : ∃ b o c, v = .slice (some ⟨b, o, none⟩) l.length c ∧ l.length ≤ c ∧ c ≤ maxLen ∧ ∀ i x, l[i]? = some x → W.cell? ⟨b, o + i, none⟩ = some (.int .u8 (Int.ofNat x)) := by
  obtain ⟨_, a, c, rfl, h1, h2, h3⟩ := h
  obtain ⟨z, hz⟩ : ∃ z, l[0]? = some z := ⟨_, List.getElem?_eq_getElem hl⟩
  obtain ⟨b, o, rfl, _⟩ := h3 0 z hz
  refine ⟨b, o, c, rfl, h1, h2, fun i x hx => ?_⟩
  obtain ⟨b', o', e, hc⟩ := h3 i x hx
  cases e; exact hc
theorem parts1S (W : World) (v : Value) (l : List Nat) (t : TypeId) (h : BytesAt W v l) (hl : l.length ≤ 2000) :
    Calls Tryz.prog 161 #[.slice (some ⟨W.heap.size, 0, none⟩) 1 1] (W.alloc (.cells #[v] t)) fun e w' => e = .returned (.int .u16 (foldN (wsum l) : Nat)) ∧ Below W.heap.size W w' := by
  have hb : Below W.heap.size W (W.alloc (.cells #[v] t)) := (Below.refl _ _).alloc (Nat.le_refl _) _
  have hB := (BoxAt.new W #[v] t).2
  have := sum (.slice (some ⟨W.heap.size, 0, none⟩) 1 1) [(v, l)] _ (by simp) (by simpa using hl) ⟨W.heap.size, 0, 1, rfl, fun i z hz => by
    rcases i with _ | i
    · obtain rfl := Option.some.inj hz
      exact ⟨hB 0 _ rfl, h.below hb⟩
    · simp at hz⟩
  refine this.mono ?_
  rintro e w' ⟨rfl, hb'⟩
  exact ⟨by simp [sumTo], hb.trans (hb'.mono (by simp))⟩
/-- A packet's first bytes. -/
theorem ipL_head (p q r s p' q' r' s' proto hops id mw : Nat) (d : List Nat) :
    ∃ c1 c2, ipL [p, q, r, s] [p', q', r', s'] proto hops id mw d = [69, 0, (20 + d.length) / 256, (20 + d.length) % 256, id / 256, id % 256, mw / 256, mw % 256, hops, proto, c1, c2, p, q, r, s, p', q', r', s'] ++ d ∧
      foldN (wsum [69, 0, (20 + d.length) / 256, (20 + d.length) % 256, id / 256, id % 256, mw / 256, mw % 256, hops, proto, c1, c2, p, q, r, s, p', q', r', s']) = 65535 := by
  refine ⟨checkN (wsum (ipH [p, q, r, s] [p', q', r', s'] proto hops id mw d.length)) / 256, checkN (wsum (ipH [p, q, r, s] [p', q', r', s'] proto hops id mw d.length)) % 256, ?_, ?_⟩
  · unfold ipL ipC
    generalize checkN (wsum (ipH [p, q, r, s] [p', q', r', s'] proto hops id mw d.length)) = c
    rfl
  · have := ip_sum p q r s p' q' r' s' proto hops id mw d.length
    unfold ipC at this
    generalize checkN (wsum (ipH [p, q, r, s] [p', q', r', s'] proto hops id mw d.length)) = c at this ⊢
    exact this
set_option maxHeartbeats 1000000 in
theorem ipSize (v : Value) (L d : List Nat) (h2 h3 h4 h5 h6 h7 h8 h9 c1 c2 p q r s p' q' r' s' : Nat) (hL : L = [69, 0, h2, h3, h4, h5, h6, h7, h8, h9, c1, c2, p, q, r, s, p', q', r', s'] ++ d) (hn : h2 * 256 + h3 = 20 + d.length)
    (hs : foldN (wsum [69, 0, h2, h3, h4, h5, h6, h7, h8, h9, c1, c2, p, q, r, s, p', q', r', s']) = 65535) (hd : d.length ≤ 1500) (w : World) (h : BytesAt w v L) :
    Calls Tryz.prog 181 #[v] w fun e w' => e = .returned (.tuple #[.int .i64 20, .int .i64 (20 + d.length : Nat), .int .i64 0]) ∧ Below w.heap.size w w' := by
  have hl : L.length = 20 + d.length := by rw [hL]; simp; omega
  obtain ⟨b, o, c, rfl, hc1, hc2, hcell⟩ := h.open (by omega)
  have q0 : w.cell? ⟨b, o, none⟩ = some (.int .u8 69) := by have := hcell 0 69 (by rw [hL]; rfl); exact this
  have hg : BytesAt w (.slice (some ⟨b, o + 2, none⟩) 2 (c - 2)) [h2, h3] := by
    have := h.sub 2 2 (c - 2) (by omega) (by omega) (by omega)
    rw [hL] at this; exact this
  have hS : BytesAt w (.slice (some ⟨b, o, none⟩) 20 c) [69, 0, h2, h3, h4, h5, h6, h7, h8, h9, c1, c2, p, q, r, s, p', q', r', s'] := by
    have := h.sub 0 20 c (by omega) (by omega) (by omega)
    rw [hL] at this; exact this
  have hgG := get _ _ w hg (by simp) (by simp)
  have hgN : beN [h2, h3] = 20 + d.length := by simp [beN]; omega
  rw [hgN] at hgG
  have hsS := parts1S w _ _ 26 hS (by simp)
  rw [hs] at hsS
  have hx1 : bits BinOp.and IntKind.u8 69 15 = 5 := by decide +kernel
  have hcd : ((L.length : Nat) : Int) = 20 + d.length := by omega
  have hd0 : (0 : Int) ≤ d.length := by omega
  have hw1 : IntKind.i64.wrap ((20 + d.length : Nat) : Int) = ((20 + d.length : Nat) : Int) := wrap_i64 _ (by omega) (by omega)
  clear hL hcell hg hS hs hn
  go_enter Tryz.func181, Tryz.ntmps181
  go_wp2_with (first
    | (go_at_call 174; refine hgG.mono ?_; rintro e w1 ⟨rfl, rfl⟩)
    | (go_at_call 161; refine hsS.mono ?_; rintro e w1 ⟨rfl, hb1⟩))
  all_goals try (exfalso; omega)
  go_ret3
  exact ⟨by simp, hb1⟩
end Go.Ch
namespace Go.Ch
open Go Go.Am Go.Hm Go.Proofs Go.RowKit
set_option maxRecDepth 100000
/-- A reader's rest, in the block b. -/
def RdAt (W : World) (R b : Nat) (l : List Nat) : Prop :=
  ∃ o c, W.heap[R]? = some (.cells #[.slice (some ⟨b, o, none⟩) l.length c] 410) ∧ b ≠ R ∧ BytesAt W (.slice (some ⟨b, o, none⟩) l.length c) l
theorem BytesAt.kept {W W' : World} {v : Value} {l : List Nat} {r : Option Nat} (h : BytesAt W v l) (hg : W.grownBy W' r) (hne : ∀ b o n c, v = .slice (some ⟨b, o, none⟩) n c → r ≠ some b) : BytesAt W' v l := by
  obtain ⟨h1, a, c, rfl, h3, h4, h5⟩ := h
  refine ⟨h1, a, c, rfl, h3, h4, fun i x hx => ?_⟩
  obtain ⟨b, o, rfl, hc⟩ := h5 i x hx
  refine ⟨b, o, rfl, ?_⟩
  have hlt := World.block_lt_of_cell? W _ hc
  have := hg.block b hlt (fun e => hne b o _ _ rfl e.symm)
  unfold World.cell? at hc ⊢
  rw [this]; exact hc
theorem setCell_at {w : World} {R : Nat} {cs : Array Value} {t : TypeId} {fz : Nat × Nat} (h : w.heap[R]? = some (.cells cs t fz)) (i : Nat) (v : Value) : (w.setCell ⟨R, i, none⟩ v).heap[R]? = some (.cells (cs.setIfInBounds i v) t fz) := by
  unfold World.setCell
  simp [Array.getElem?_modify, h]
theorem grown_setCell (w : World) (R i : Nat) (v : Value) : w.grownBy (w.setCell ⟨R, i, none⟩ v) (some R) := by
  refine ⟨rfl, rfl, rfl, by simp [World.setCell], fun k _ hk => ?_⟩
  unfold World.setCell
  simp only [Array.getElem?_modify]
  rw [if_neg (fun e => hk (by rw [e]))]
theorem rdLeft (R b : Nat) (l : List Nat) (w : World) (h : RdAt w R b l) : Calls Tryz.prog 179 #[.pointer (some ⟨R, 0, none⟩)] w fun e w' => e = .returned (.int .i64 l.length) ∧ w' = w := by
  obtain ⟨o, c, hR, hne, hB⟩ := h
  have q := cell_of_row _ R 0 _ _ _ hR
  simp at q
  clear hR hB
  go_enter Tryz.func179, Tryz.ntmps179
  go_wp2_with fail
  go_ret
  exact ⟨by simp, rfl⟩
set_option maxHeartbeats 1000000 in
theorem rdBytes (R b : Nat) (l : List Nat) (k : Nat) (w : World) (h : RdAt w R b l) (h1 : 1 ≤ k) (hk : k < l.length) (hkm : k ≤ 100) :
    Calls Tryz.prog 178 #[.pointer (some ⟨R, 0, none⟩), .int .i64 k] w fun e w' => ∃ v', e = .returned v' ∧ BytesAt w' v' (l.take k) ∧ RdAt w' R b (l.drop k) ∧ w.grownBy w' (some R) := by
  have hL := fun W => rdLeft R b l W
  have hLw := hL w h
  obtain ⟨o, c, hR, hne, hB⟩ := h
  obtain ⟨_, _, _, hcc, hc2, hc3, _⟩ := id hB
  cases hcc
  have q := cell_of_row _ R 0 _ _ _ hR
  have hf : w.frozen? ⟨R, 0, none⟩ = false := by simp [World.frozen?, hR]
  simp at q
  have HR := Lib.hid hR
  have HB := Lib.hid hB
  have hki : (1 : Int) ≤ k := by omega
  have hki2 : (k : Int) < l.length := by omega
  clear hR hB hL
  go_enter Tryz.func178, Tryz.ntmps178
  go_wp2_with (first
    | (go_at_call 179; refine hLw.mono ?_; rintro e w1 ⟨rfl, rfl⟩))
  go_ret
  have hg := grown_setCell w1 R 0 (.slice (some ⟨b, o + k, none⟩) (l.length - k) (c - k))
  have hlt : (l.take k).length = k := by simp; omega
  have hld : (l.drop k).length = l.length - k := by simp
  refine ⟨_, rfl, ?_, ⟨o + k, c - k, ?_, hne, ?_⟩, hg⟩
  · have := HB.out.sub 0 k k (by omega) (Nat.le_refl _) (by omega)
    simp only [List.drop_zero, Nat.add_zero] at this
    exact this.kept hg (fun b' o' n c' e h => by cases e; exact hne (Option.some.inj h).symm)
  · rw [hld, setCell_at HR.out]; simp
  · have := HB.out.sub k (l.length - k) (c - k) (by omega) (by omega) (by omega)
    have e2 : (l.drop k).take (l.length - k) = l.drop k := List.take_of_length_le (by simp)
    rw [e2] at this
    rw [hld]
    exact this.kept hg (fun b' o' n c' e h => by cases e; exact hne (Option.some.inj h).symm)
theorem rdNum (R b : Nat) (l : List Nat) (k : Nat) (w : World) (h : RdAt w R b l) (h1 : 1 ≤ k) (h8 : k ≤ 8) (hk : k < l.length) :
    Calls Tryz.prog 184 #[.pointer (some ⟨R, 0, none⟩), .int .i64 k] w fun e w' => e = .returned (.int .u64 (beN (l.take k) : Nat)) ∧ RdAt w' R b (l.drop k) ∧ w.grownBy w' (some R) := by
  have hB := rdBytes R b l k w h h1 hk (by omega)
  have hlt : (l.take k).length = k := by simp; omega
  have hki : (k : Int) ≤ 8 := by omega
  clear h
  go_enter Tryz.func184, Tryz.ntmps184
  go_wp2_with (first
    | (go_at_call 178; refine hB.mono ?_; rintro e w1 ⟨v1, rfl, hb1, hr1, hg1⟩)
    | (go_at_call 174; refine (get _ _ _ hb1 (by omega) (by omega)).mono ?_; rintro e w2 ⟨rfl, rfl⟩))
  go_ret
  exact ⟨rfl, hr1, hg1⟩
theorem rdRead (v : Value) (l : List Nat) (w : World) (h : BytesAt w v l) (h1 : 0 < l.length) (hl : l.length ≤ 80000) :
    Calls Tryz.prog 175 #[v] w fun e w' => ∃ R b, e = .returned (.pointer (some ⟨R, 0, none⟩)) ∧ w.heap.size ≤ R ∧ w.heap.size ≤ b ∧ RdAt w' R b l ∧ Below w.heap.size w w' := by
  have hcl := clone v l w h (by omega)
  clear h
  go_enter Tryz.func175, Tryz.ntmps175
  go_wp2_with (first
    | (go_at_call 113; refine hcl.mono ?_; rintro e w1 ⟨v1, rfl, ho1, hb1⟩; obtain ⟨g, cap, rfl, hg1, hg2⟩ := ho1.open h1))
  go_ret
  have hs := hb1.size
  have hb2 : Below w1.heap.size w1 (w1.alloc (.cells #[.slice (some ⟨g, 0, none⟩) l.length cap] 410)) := (Below.refl _ _).alloc (Nat.le_refl _) _
  exact ⟨_, g, rfl, hs, hg1, ⟨0, cap, heap_alloc_new w1 _, by omega, (ho1.below hb2).at⟩, hb1.trans (hb2.mono hs)⟩
end Go.Ch
