/- NetChances: chksum.fold. · NetChances: chksum.Sum, chksum.Check. · NetChances: rows of bytes of one's own, and append onto them; bytes.Clone. · NetChances: octets.Put, two bytes for a word. -/
import Derived.Test.YtecihapafnpgbaaGreatHmS
import Derived.ProofKit
import Derived.Tactics2
import Derived.WalkKit
import Derived.LoopTactic
import Derived.Carry
import Derived.Maps.AppendAt
import Derived.OwnWalk
import Derived.Laws.Cover3
set_option linter.unusedSimpArgs false
set_option linter.unusedVariables false
set_option linter.constructorNameAsVariable false
set_option linter.unusedSectionVars false
namespace Go.Ch
open Go Go.Am Go.Proofs Go.RowKit
set_option maxRecDepth 100000
/-- Words of 16 bits, added round about. -/
def foldN (n : Nat) : Nat := if n = 0 then 0 else (n - 1) % 65535 + 1
theorem foldN_le (n : Nat) : foldN n ≤ 65535 := by unfold foldN; split <;> omega
theorem exec_bin {o : Oper} {a : Go.Act} {w : World} {op : BinOp} {t ty : TypeId} {x y : Operand} (hop : o.op = Op.binOp op t x y ty) {k l : IntKind} {m n : Int} {r : Value} (hx : a.eval x = .int k m) (hy : a.eval y = .int l n)
    (hr : intA op k m l n = some r) : (execOp a.eval o).run Tryz.prog w = .ok (.value r) w := by
  have h1 := (run_int Tryz.prog hr t w).1
  have h2 : (eqGuard op t x y (.int k m) (.int l n)).run Tryz.prog w = .ok () w := eqGuard_flat (by simp) (by simp) w
  simp [execOp, hop, hx, hy, h1, h2, Result.andThen]
theorem vI_eq (k : IntKind) (n : Int) : vI k n = some (.int k n) := by unfold vI; rw [fI_eq]
theorem and_u64 (m : Nat) (h : m < 18446744073709551616) : intA .and .u64 m .u64 65535 = some (.int .u64 (m % 65536 : Nat)) := by
  show bC (eqK .u64 .u64) (vI .u64 (wrapN .u64 (Nat.land (Nat.mod m 18446744073709551616) (Nat.mod 65535 18446744073709551616)))) none = _
  have e1 : Nat.mod m 18446744073709551616 = m := Nat.mod_eq_of_lt h
  have e2 : Nat.land m (Nat.mod 65535 18446744073709551616) = m % 65536 := Nat.and_two_pow_sub_one_eq_mod m 16
  rw [e1, e2]
  show vI .u64 (wrapN .u64 (m % 65536)) = _
  have e3 : wrapN .u64 (m % 65536) = ((m % 65536 : Nat) : Int) := by
    unfold wrapN
    have : Nat.ble (halfK .u64) (m % 65536) = false := by
      rw [Bool.eq_false_iff]; intro hb
      have := Nat.le_of_ble_eq_true hb
      have h9 : halfK .u64 = 18446744073709551616 := by rfl
      rw [h9] at this; omega
    rw [this]; rfl
  rw [e3, vI_eq]
theorem shr_u64 (m : Nat) (h : m < 18446744073709551616) : intA .shr .u64 m .u64 16 = some (.int .u64 (m / 65536 : Nat)) := by
  show vI .u64 (shrK m 16) = _
  rw [vI_eq]
  rfl
theorem fold (n : Nat) (hn : n < 18446744073709551616) (w : World) : Calls Tryz.prog 251 #[.int .u64 n] w fun e w' => e = .returned (.int .u16 (foldN n : Nat)) ∧ w = w' := by
  go_enter Tryz.func251, Tryz.ntmps251
  go_wp2
  go_loop [0] (fun v => ∃ m : Nat, v = .int .u64 m ∧ m ≤ n ∧ m % 65535 = n % 65535 ∧ (m = 0 ↔ n = 0)) (fun v => (intOf v).toNat)
  case atStart => exact ⟨n, rfl, Nat.le_refl _, rfl, Iff.rfl⟩
  case round =>
    obtain ⟨m, rfl, h1, h2, h3⟩ := hrel
    have ha := and_u64 m (by omega)
    have hs := shr_u64 m (by omega)
    go_wp2_with (first
      | (refine Go.Hm.wpList_exec rfl (exec_bin rfl rfl rfl ha) ?_)
      | (refine Go.Hm.wpList_exec rfl (exec_bin rfl rfl rfl hs) ?_))
    · refine ⟨⟨m % 65536 + m / 65536, by simp, by omega, by omega, by omega⟩, by simp [intOf]; omega⟩
    · go_ret
      refine ⟨?_, rfl⟩
      have : foldN n = m := by
        unfold foldN
        split <;> omega
      rw [this]; rfl
theorem xor_u16 (m : Nat) (h : m ≤ 65535) : unA .xor (.int .u16 m) = some (.int .u16 (65535 - m : Nat)) := by
  show vI .u16 (wrapN .u16 (65536 - 1 - Nat.mod m 65536)) = _
  have e1 : Nat.mod m 65536 = m := Nat.mod_eq_of_lt (by omega)
  rw [e1, vI_eq]
  have e3 : wrapN .u16 (65536 - 1 - m) = ((65535 - m : Nat) : Int) := by
    unfold wrapN
    have : Nat.ble (halfK .u16) (65536 - 1 - m) = false := by
      rw [Bool.eq_false_iff]; intro hb
      have := Nat.le_of_ble_eq_true hb
      have h9 : halfK .u16 = 65536 := by rfl
      rw [h9] at this; omega
    rw [this]; rfl
  rw [e3]
/-! Bytes in memory. -/
/-- A slice's bytes. -/
def BytesAt (W : World) (v : Value) (l : List Nat) : Prop :=
  (∀ b ∈ l, b < 256) ∧ ∃ a c, v = .slice a l.length c ∧ l.length ≤ c ∧ c ≤ maxLen ∧ ∀ (i x : Nat), l[i]? = some x → ∃ b o, a = some ⟨b, o, none⟩ ∧ W.cell? ⟨b, o + i, none⟩ = some (.int .u8 (Int.ofNat x))
theorem BytesAt.below {W W' : World} {v : Value} {l : List Nat} (h : BytesAt W v l) (hb : Below W.heap.size W W') : BytesAt W' v l := by
  obtain ⟨h1, a, c, h2, h3, h4, h5⟩ := h
  refine ⟨h1, a, c, h2, h3, h4, fun i x hx => ?_⟩
  obtain ⟨b, o, rfl, hc⟩ := h5 i x hx
  exact ⟨b, o, rfl, by rw [hb.cell (World.block_lt_of_cell? W _ hc)]; exact hc⟩
/-- The words of a row of bytes, added. -/
def wsum : List Nat → Nat
  | a :: b :: r => a * 256 + b + wsum r
  | [a] => a * 256
  | [] => 0
theorem wsum_le : ∀ (l : List Nat), (∀ b ∈ l, b < 256) → wsum l ≤ 65536 * l.length
  | [], _ => by simp [wsum]
  | [a], h => by have := h a (by simp); simp [wsum]; omega
  | a :: b :: r, h => by
    have h1 := h a (by simp)
    have h2 := h b (by simp)
    have := wsum_le r fun x hx => h x (by simp [hx])
    simp [wsum]; omega
end Go.Ch
namespace Go.Ch
open Go Go.Am Go.Hm Go.Proofs Go.RowKit
set_option maxRecDepth 100000
theorem shl8_u64 (m : Nat) (h : m < 256) : intA .shl .u64 m .u64 8 = some (.int .u64 (m * 256 : Nat)) := by
  have : ∀ m : Fin 256, eqList (fun a b => eqV a b) (match intA .shl .u64 (m.val : Int) .u64 8 with | some v => [v] | none => []) [.int .u64 ((m.val * 256 : Nat) : Int)] = true := by decide +kernel
  have h1 := this ⟨m, h⟩
  simp only at h1
  cases hv : intA .shl .u64 (m : Int) .u64 8 with
  | none => rw [hv] at h1; cases h1
  | some v =>
    rw [hv] at h1
    have := eqList_eq (fun _ _ => eqV_eq) _ _ h1
    simp only [List.cons.injEq, and_true] at this
    rw [this]
theorem or_u64 (x y : Nat) (hx : x < 256) (hy : y < 256) : intA .or .u64 (x * 256 : Nat) .u64 y = some (.int .u64 (x * 256 + y : Nat)) := by
  show vI .u64 (wrapN .u64 (Nat.lor (Nat.mod (x * 256) 18446744073709551616) (Nat.mod y 18446744073709551616))) = _
  have e1 : Nat.mod (x * 256) 18446744073709551616 = x * 256 := Nat.mod_eq_of_lt (by omega)
  have e2 : Nat.mod y 18446744073709551616 = y := Nat.mod_eq_of_lt (by omega)
  have e3 : Nat.lor (x * 256) y = x * 256 + y := by
    have := Nat.two_pow_add_eq_or_of_lt (i := 8) (b := y) (by omega) x
    rw [Nat.mul_comm x 256]
    exact this.symm
  rw [e1, e2, e3, vI_eq]
  have e4 : wrapN .u64 (x * 256 + y) = ((x * 256 + y : Nat) : Int) := by
    unfold wrapN
    have : Nat.ble (halfK .u64) (x * 256 + y) = false := by
      rw [Bool.eq_false_iff]; intro hb
      have := Nat.le_of_ble_eq_true hb
      have h9 : halfK .u64 = 18446744073709551616 := by rfl
      rw [h9] at this; omega
    rw [this]; rfl
  rw [e4]
/-- Rows of bytes, in a row. -/
def PartsAt (W : World) (v : Value) (ps : List (Value × List Nat)) : Prop :=
  ∃ b o c, v = .slice (some ⟨b, o, none⟩) ps.length c ∧ ∀ i p, ps[i]? = some p → W.cell? ⟨b, o + i, none⟩ = some p.1 ∧ BytesAt W p.1 p.2
def sumTo (ps : List (Value × List Nat)) (k : Nat) : Nat := ((ps.take k).map fun p => wsum p.2).sum
theorem sumTo_succ {ps : List (Value × List Nat)} {k : Nat} {p : Value × List Nat} (h : ps[k]? = some p) : sumTo ps (k + 1) = sumTo ps k + wsum p.2 := by
  obtain ⟨hk, rfl⟩ := List.getElem?_eq_some_iff.1 h
  unfold sumTo
  rw [List.take_succ_eq_append_getElem hk]
  simp only [List.map_append, List.sum_append, List.map_cons, List.map_nil, List.sum_cons, List.sum_nil, Nat.add_zero]
def lenOf : Value → Nat
  | .slice _ n _ => n
  | _ => 0
theorem sumTo_le {ps : List (Value × List Nat)} (h : ∀ p ∈ ps, (∀ b ∈ p.2, b < 256) ∧ p.2.length ≤ 2000) : ∀ k, k ≤ ps.length → sumTo ps k ≤ 131072000 * k
  | 0, _ => by simp [sumTo]
  | k + 1, hk => by
    have ih := sumTo_le h k (by omega)
    obtain ⟨p, hp⟩ : ∃ p, ps[k]? = some p := ⟨_, List.getElem?_eq_getElem (by omega)⟩
    obtain ⟨h1, h2⟩ := h p (List.mem_of_getElem? hp)
    have := wsum_le p.2 h1
    rw [sumTo_succ hp]
    omega
theorem wrap_u64 (n : Int) (h0 : 0 ≤ n) (h1 : n < 18446744073709551616) : IntKind.u64.wrap n = n := by
  have h2 : n % (2 ^ IntKind.u64.bits : Int) = n := Int.emod_eq_of_lt h0 h1
  have hs : IntKind.u64.signed = false := rfl
  unfold IntKind.wrap
  simp only [h2, hs, Bool.false_and]
  simp
theorem bits_or (x y : Nat) (hx : x < 256) (hy : y < 256) : bits BinOp.or IntKind.u64 ((x : Int) * 256) (y : Int) = (x : Int) * 256 + y := by
  have h1 := (run_int Tryz.prog (or_u64 x y hx hy) 0 default).1
  simp [go_sem] at h1
  exact h1
set_option maxHeartbeats 2000000 in
theorem sum (v : Value) (ps : List (Value × List Nat)) (w : World) (h2 : ps.length ≤ 2) (hb : ∀ p ∈ ps, p.2.length ≤ 2000) (hp : PartsAt w v ps) :
    Calls Tryz.prog 161 #[v] w fun e w' => e = .returned (.int .u16 (foldN (sumTo ps ps.length) : Nat)) ∧ Below w.heap.size w w' := by
  obtain ⟨b, o, c, rfl, hps⟩ := hp
  have hbound := sumTo_le (ps := ps) fun p hp => by
    obtain ⟨i, hi⟩ := List.mem_iff_getElem?.1 hp
    exact ⟨(hps i p hi).2.1, hb p hp⟩
  go_enter Tryz.func161, Tryz.ntmps161
  go_wp2
  go_loopw [3, 8] (fun n i W => ∃ k : Nat, k ≤ ps.length ∧ i = .int .i64 k ∧ n = .int .u64 (sumTo ps k : Nat) ∧ Below w.heap.size w W) (fun _ i _ => ps.length - (intOf i).toNat)
  case atStart => exact ⟨0, Nat.zero_le _, rfl, by simp [sumTo], Below.refl _ _⟩
  case round =>
    obtain ⟨wo, rfl⟩ : ∃ wo : World, wo = wr := ⟨_, rfl⟩
    obtain ⟨k, hk, rfl, rfl, hbw⟩ := hrel
    rcases Nat.lt_or_ge k ps.length with hlt | hge
    · obtain ⟨⟨pv, pl⟩, hpk⟩ : ∃ p, ps[k]? = some p := ⟨_, List.getElem?_eq_getElem hlt⟩
      obtain ⟨hc, hB⟩ := hps k _ hpk
      have hc' : wo.cell? ⟨b, o + k, none⟩ = some pv := by rw [hbw.cell (World.block_lt_of_cell? w _ hc)]; exact hc
      have hB' := hB.below hbw
      have hlen := hb _ (List.mem_of_getElem? hpk)
      have hsu := sumTo_succ hpk
      have HS := Lib.hid hsu
      have HB := Lib.hid hB'
      clear hc hB hB' hsu
      go_wp2_with fail
      go_loopw [3, 5] (fun n s W => ∃ (rem : List Nat) (q : Nat), BytesAt W s rem ∧ n = .int .u64 (q : Nat) ∧ q + wsum rem = sumTo ps (k + 1) ∧ rem.length ≤ 2000 ∧ Below wo.heap.size wo W) (fun _ s _ => lenOf s)
      case atStart => exact ⟨pl, sumTo ps k, HB.out, rfl, HS.out.symm, hlen, Below.refl _ _⟩
      case round =>
        obtain ⟨rem, q, ⟨h256, a, c2, rfl, hlc, hcm, hcell⟩, rfl, hq, hrl, hbi⟩ := hrel
        have hqb : q < 1000000000000 := by have := hbound (k + 1) (by omega); omega
        rcases rem with _ | ⟨x, _ | ⟨y, r⟩⟩
        · have hq0 : q = sumTo ps (k + 1) := by simpa [wsum] using hq
          subst hq0
          clear hps hbound hcell
          go_wp2_with fail
          go_roundw
          case rel => exact ⟨k + 1, by omega, by go_num, rfl, hbw.trans (hbi.mono hbw.size)⟩
          case measure => simp [intOf]; omega
        · obtain ⟨b2, o2, rfl, hc0⟩ := hcell 0 x rfl
          have hx := h256 x (by simp)
          have hq0 : q + x * 256 = sumTo ps (k + 1) := by simpa [wsum] using hq
          have hA := wrap_u64 (q + x * 256) (by omega) (by omega)
          have hlc1 : 1 ≤ c2 := by simpa using hlc
          simp only [Nat.add_zero] at hc0
          clear hps hbound hcell
          go_wp2_with fail
          refine ⟨⟨k + 1, by omega, by go_num, by rw [← hq0]; simp, hbw.trans (hbi.mono hbw.size)⟩, by simp [intOf]; omega⟩
        · obtain ⟨b2, o2, rfl, hc0⟩ := hcell 0 x rfl
          obtain ⟨b3, o3, e, hc1⟩ := hcell 1 y rfl
          obtain ⟨rfl, rfl⟩ : b2 = b3 ∧ o2 = o3 := by cases e; exact ⟨rfl, rfl⟩
          clear e
          have hx := h256 x (by simp)
          have hy := h256 y (by simp)
          have hO := bits_or x y hx hy
          have hA := wrap_u64 (q + (x * 256 + y)) (by omega) (by omega)
          go_upto_region 6 with fail
          have hb0 : (0 : Int) < ((x :: y :: r).length : Int) := by simp; omega
          have hb1 : (1 : Int) < ((x :: y :: r).length : Int) := by simp; omega
          simp only [Nat.add_zero] at hc0
          go_quiet (fail)
          have hw1 : Below wr.heap.size wr (wr.drewN nq) := ⟨rfl, rfl, rfl, Nat.le_refl _, fun _ _ => rfl⟩
          have hR2 : ∀ cc, (∀ i z, r[i]? = some z → cc = some (⟨b2, o2 + 2, none⟩ : Addr)) → BytesAt (wr.drewN nq) (.slice cc r.length (c2 - 2)) r := fun cc hcc => by
            refine ⟨fun z hz => h256 z (by simp [hz]), cc, _, rfl, by simp at hlc; omega, by omega, fun i z hz => ?_⟩
            obtain ⟨b4, o4, e4, h4⟩ := hcell (i + 2) z (by simpa using hz)
            cases e4
            exact ⟨b2, o2 + 2, hcc i z hz, by rw [show o2 + 2 + i = o2 + (i + 2) by omega]; exact h4⟩
          generalize wr.drewN nq = W at hw1 hR2 ⊢
          have HR2 := Lib.hid hR2
          clear hc0 hc1 hcell hR2 hO hA hps hbound
          go_wp2_with fail
          refine ⟨⟨r, q + (x * 256 + y), HR2.out _ (fun i z hz => ?_), by simp, by have := hq; simp [wsum] at this; omega, by simp at hrl; omega, hbi.trans (hw1.mono hbi.size)⟩, by simp [lenOf]; omega⟩
          have : i < r.length := (List.getElem?_eq_some_iff.1 hz).1
          simp at hlc
          rw [if_neg (by omega)]
    · obtain rfl : k = ps.length := by omega
      have hf := fold (sumTo ps ps.length) (by have := hbound ps.length (Nat.le_refl _); omega) wo
      go_wp2_with (first
        | (go_at_call 251; refine hf.mono ?_; rintro e w1 ⟨rfl, rfl⟩))
      go_ret
      exact ⟨rfl, hbw⟩
def checkN (n : Nat) : Nat := 65535 - foldN n
theorem check (v : Value) (ps : List (Value × List Nat)) (w : World) (h2 : ps.length ≤ 2) (hb : ∀ p ∈ ps, p.2.length ≤ 2000) (hp : PartsAt w v ps) :
    Calls Tryz.prog 90 #[v] w fun e w' => e = .returned (.int .u16 (checkN (sumTo ps ps.length) : Nat)) ∧ Below w.heap.size w w' := by
  have hs := sum v ps w h2 hb hp
  have hle := foldN_le (sumTo ps ps.length)
  unfold checkN
  generalize foldN (sumTo ps ps.length) = f at hs hle
  clear hp hb
  go_enter Tryz.func90, Tryz.ntmps90
  go_wp2_with (first
    | (go_at_call 161; refine hs.mono ?_; rintro e w1 ⟨rfl, hb1⟩))
  go_ret
  have hx : bits BinOp.xor IntKind.u16 IntKind.u16.max (f : Int) = ((65535 - f : Nat) : Int) := by
    obtain ⟨k, n, b, hk, _, hr⟩ := run_un Tryz.prog (xor_u16 f hle)
    have h1 := hr default
    simp [go_sem] at h1
    exact h1
  rw [hx]
  exact ⟨rfl, hb1⟩
end Go.Ch
namespace Go.Ch
open Go Go.Am Go.Hm Go.Proofs Go.RowKit
set_option maxRecDepth 100000
def vB (l : List Nat) : List Value := l.map fun x => .int .u8 (Int.ofNat x)
structure OwnB (n : Nat) (W : World) (v : Value) (l : List Nat) : Prop where
  row : W.ownsRow n 5 1 v l.length (vB l)
  lt : ∀ b ∈ l, b < 256
theorem vB_at {l : List Nat} {i x : Nat} (h : l[i]? = some x) : (vB l)[i]? = some (.int .u8 (Int.ofNat x)) := by simp [vB, h]
theorem OwnB.at {n : Nat} {W : World} {v : Value} {l : List Nat} (h : OwnB n W v l) : BytesAt W v l := by
  refine ⟨h.lt, ?_⟩
  rcases h.row.2 with ⟨rfl, hn⟩ | ⟨g, cap, cur, rfl, _, _, hc, hm, _, _⟩
  · obtain rfl : l = [] := List.eq_nil_of_length_eq_zero hn
    exact ⟨none, 0, rfl, by simp, by decide, by simp⟩
  · refine ⟨_, cap, rfl, hc, hm, fun i x hx => ⟨g, 0, rfl, ?_⟩⟩
    have := h.row.cells (g := g) rfl i _ (vB_at hx)
    rw [Addr.add_lit] at this
    exact this
theorem OwnB.below {n : Nat} {W W' : World} {v : Value} {l : List Nat} (h : OwnB n W v l) (hb : Below W.heap.size W W') : OwnB n W' v l := by
  refine ⟨⟨h.row.1, ?_⟩, h.lt⟩
  rcases h.row.2 with hn | ⟨g, cap, cur, rfl, hg, hh, hr⟩
  · exact .inl hn
  · exact .inr ⟨g, cap, cur, rfl, hg, by rw [hb.block g (Array.getElem?_eq_some_iff.1 hh).1]; exact hh, hr⟩
theorem below_grown {n : Nat} {w w' : World} {r : Option Nat} (h : w.grownBy w' r) (hn : n ≤ w.heap.size) (hr : ∀ k, r = some k → n ≤ k) : Below n w w' :=
  ⟨h.os, h.tape, h.output, h.size, fun k hk => h.block k (by omega) (fun e => by have := hr k e.symm; omega)⟩
theorem infoB : (Tryz.prog.info? 5).map (fun i => (i.zero, i.size, i.bytes)) = some (some (.int .u8 0), 1, 1) := by kernel_rfl
theorem wpList_appB {w : World} {ops : Array Oper} {rest : List Oper} {o : Oper} {a : Act} {Q : Exit → Act → World → Prop} (hgd : o.guard = none) (s x : Operand)
    (ho : o.op = .call { callee := .builtin .append, args := #[s, x], argTypes := #[26, 26] }) (base : Nat) (v : Value) (l : List Nat) (hs : a.eval s = v) (hown : OwnB base w v l)
    (y : Value) (m : List Nat) (hx : a.eval x = y) (hb : BytesAt w y m) (hlen : l.length + m.length ≤ 100000) (hbase : base ≤ w.heap.size)
    (h : ∀ v' w', OwnB base w' v' (l ++ m) → w.grownBy w' v.ownBlock → (v'.ownBlock = v.ownBlock ∨ v'.ownBlock = some w.heap.size) → wpList Tryz.prog ops Q rest (a.put o.dst v') w') : wpList Tryz.prog ops Q (o :: rest) a w := by
  refine wpList_plain hgd fun K hK' => ?_
  obtain ⟨i, hi, hz, h1, h2⟩ := info_parts infoB
  have hlt : ∀ b ∈ l ++ m, b < 256 := fun b hb' => by
    rcases List.mem_append.1 hb' with h' | h'
    · exact hown.lt b h'
    · exact hb.1 b h'
  obtain ⟨_, ad, c, rfl, hc1, hc2, hcell⟩ := hb
  have hvb : vB (l ++ m) = vB l ++ vB m := by simp [vB]
  cases ad with
  | some ad =>
    obtain ⟨v', w', hr, g1, g2, _, g4⟩ := run_append_own_at (P := Tryz.prog) w base 26 o.type 5 i (.int .u8 0) 1 1 Tryz.underlying26 hi hz h1 h2 rfl (by decide) v l.length (vB l) hown.row ad m.length c (vB m) (by simp [vB])
      (fun j u hu => by
        have hj : ∃ z, m[j]? = some z ∧ u = .int .u8 (Int.ofNat z) := by
          simp only [vB, List.getElem?_map, Option.map_eq_some_iff] at hu
          obtain ⟨z, hz1, hz2⟩ := hu
          exact ⟨z, hz1, hz2.symm⟩
        obtain ⟨z, hz1, rfl⟩ := hj
        obtain ⟨b, o', e, hcz⟩ := hcell j z hz1
        cases e
        rw [Addr.add_lit]
        exact hcz) (by intro u hu; simp only [vB, List.mem_map] at hu; obtain ⟨z, _, rfl⟩ := hu; rfl) (by unfold maxLen; omega) (by omega) hbase
    unfold Oper.wp execOp
    simp only [ho, resolve, invoke, builtin, Sem.run_bind, Sem.run_pure, Result.andThen_ok, List.map_toArray, List.map_cons, List.map_nil, hs, hx, hr]
    exact hK' _ _ (h v' w' ⟨by simpa [hvb] using g1, hlt⟩ g2 g4)
  | none =>
    obtain rfl : m = [] := by
      cases m with
      | nil => rfl
      | cons z _ => obtain ⟨b, o', e, _⟩ := hcell 0 z rfl; cases e
    have hr : (Builtin.append_ #[26, 26] o.type #[v, .slice none 0 c]).run Tryz.prog w = .ok v w := by
      rcases hown.row.2 with ⟨rfl, hn⟩ | ⟨g, cap, cur, rfl, _, _, hc', hm', _, _⟩
      · simp [Builtin.append_, run_underlying (Tryz.underlying26), sizeOf, typeInfo, hi, Builtin.lenOf, run_firstCells_none]
      · simp [Builtin.append_, run_underlying (Tryz.underlying26), sizeOf, typeInfo, hi, Builtin.lenOf, run_firstCells_none, h1, hc', Addr.add_lit]
        rfl
    unfold Oper.wp execOp
    simp only [List.length_nil] at hx
    simp only [ho, resolve, invoke, builtin, Sem.run_bind, Sem.run_pure, Result.andThen_ok, List.map_toArray, List.map_cons, List.map_nil, hs, hx, hr]
    exact hK' _ _ (h v w (by simpa using hown) ⟨rfl, rfl, rfl, Nat.le_refl _, fun _ _ _ => rfl⟩ (.inl rfl))
/-- Made of bytes that are written out. -/
theorem OwnB.lit (w : World) (n : Nat) (l : List Nat) (hb : n ≤ w.heap.size) (hl : ∀ b ∈ l, b < 256) (hm : l.length ≤ 100000) :
    OwnB n (w.alloc (.cells (vB l).toArray 5)) (.slice (some ⟨w.heap.size, 0, none⟩) l.length l.length) l := by
  refine ⟨?_, hl⟩
  have := World.ownsRow_lit (e := 5) (size := 1) w (vB l).toArray l.length hb (by unfold maxLen; omega) (by simp [vB])
  simpa using this
theorem exec_slnil {o : Oper} {a : Go.Act} {w : World} {x y : Operand} {ty : TypeId} (hop : o.op = Op.binOp .eql 26 x y ty) {ad : Option Addr} {n c : Nat} (hx : a.eval x = .slice ad n c) (hy : a.eval y = .slice none 0 0) :
    (execOp a.eval o).run Tryz.prog w = .ok (.value (.bool ad.isNone)) w := by
  have h1 := run_equal_slice_nil (P := Tryz.prog) w 26 5 ad n c Tryz.underlying26
  have h2 : (eqGuard .eql 26 x y (.slice ad n c) (.slice none 0 0)).run Tryz.prog w = .ok () w := eqGuard_flat (by simp) (by simp) w
  simp [execOp, hop, hx, hy, h1, h2, binOp, Result.andThen]
theorem clone (v : Value) (l : List Nat) (w : World) (h : BytesAt w v l) (hl : l.length ≤ 90000) : Calls Tryz.prog 113 #[v] w fun e w' => ∃ v', e = .returned v' ∧ OwnB w.heap.size w' v' l ∧ Below w.heap.size w w' := by
  obtain ⟨hlt, a, c, rfl, hc1, hc2, hcell⟩ := id h
  go_enter Tryz.func113, Tryz.ntmps113
  cases a with
  | none =>
    obtain rfl : l = [] := by
      cases l with
      | nil => rfl
      | cons z _ => obtain ⟨b, o', e, _⟩ := hcell 0 z rfl; cases e
    go_wp2_with (first
      | (refine Go.Hm.wpList_exec rfl (exec_slnil rfl rfl rfl) ?_))
    go_ret
    exact ⟨_, rfl, ⟨World.ownsRow_nil _ _ _ _, by simp⟩, Below.refl _ _⟩
  | some ad =>
    clear hlt hc1 hc2 hcell
    have hown := OwnB.lit w w.heap.size [] (Nat.le_refl _) (by simp) (by simp)
    go_wp2_with (first
      | (refine Go.Hm.wpList_exec rfl (exec_slnil rfl rfl rfl) ?_)
      | (refine wpList_appB rfl _ _ rfl w.heap.size _ [] (by rfl) hown _ l (by rfl) (h.below ?_) (by simp; omega) ?_ ?_; rotate_left 2; intro v1 w1 ho1 hg1 he1))
    case refine_1 => exact (Below.refl _ _).alloc (Nat.le_refl _) _
    case refine_2 => simp
    go_ret
    exact ⟨_, rfl, ho1, ((Below.refl _ _).alloc (Nat.le_refl _) _).grown hg1 (by simp) (by simp [Value.ownBlock])⟩
end Go.Ch
namespace Go.Ch
open Go Go.Am Go.Hm Go.Proofs Go.RowKit
set_option maxRecDepth 100000
/-- Words of 16 bits, each in two bytes. -/
def be2 : List Nat → List Nat
  | [] => []
  | x :: r => (x / 256) :: (x % 256) :: be2 r
theorem be2_append : ∀ (a b : List Nat), be2 (a ++ b) = be2 a ++ be2 b
  | [], _ => rfl
  | x :: r, b => by simp [be2, be2_append r b]
theorem be2_length : ∀ (l : List Nat), (be2 l).length = 2 * l.length
  | [] => rfl
  | x :: r => by simp [be2, be2_length r]; omega
theorem be2_take {xs : List Nat} {k x : Nat} (h : xs[k]? = some x) : be2 (xs.take (k + 1)) = be2 (xs.take k) ++ [x / 256, x % 256] := by
  obtain ⟨hk, rfl⟩ := List.getElem?_eq_some_iff.1 h
  rw [List.take_succ_eq_append_getElem hk, be2_append]
  rfl
/-- A row of words. -/
def WordsAt (W : World) (v : Value) (l : List Nat) : Prop :=
  (∀ x ∈ l, x < 65536) ∧ ∃ b o c, v = .slice (some ⟨b, o, none⟩) l.length c ∧ ∀ (i x : Nat), l[i]? = some x → W.cell? ⟨b, o + i, none⟩ = some (.int .u64 (Int.ofNat x))
theorem WordsAt.below {W W' : World} {v : Value} {l : List Nat} (h : WordsAt W v l) (hb : Below W.heap.size W W') : WordsAt W' v l := by
  obtain ⟨h1, b, o, c, h2, h5⟩ := h
  exact ⟨h1, b, o, c, h2, fun i x hx => by rw [hb.cell (World.block_lt_of_cell? W _ (h5 i x hx))]; exact h5 i x hx⟩
theorem shr_by (m : Nat) (h : m < 65536) (j : Nat) (hj : j = 0 ∨ j = 8) : intA .shr .u64 m .i64 j = some (.int .u64 (m / 2 ^ j : Nat)) := by
  rcases hj with rfl | rfl
  · show vI .u64 (shrK m 0) = _
    rw [vI_eq]
    have : shrK (m : Int) 0 = ((m / 2 ^ 0 : Nat) : Int) := by
      show Int.ofNat (Nat.div m (Nat.pow 2 0)) = _
      rfl
    rw [this]
  · show vI .u64 (shrK m 8) = _
    rw [vI_eq]
    rfl
theorem lit1 (W : World) (n : Int) (m : Nat) (h : n = m) (hm : m < 256) : BytesAt (W.alloc (.cells #[.int .u8 n] 5)) (.slice (some ⟨W.heap.size, 0, none⟩) 1 1) [m] := by
  subst h
  exact (OwnB.lit W 0 [m] (Nat.zero_le _) (by simpa using hm) (by simp)).at
theorem grownOn {n : Nat} {w W W' : World} {o : Obj} {r : Option Nat} (hb : Below n w W) (hn : n ≤ w.heap.size) (hg : (W.alloc o).grownBy W' r) (hr : ∀ k, r = some k → n ≤ k) : Below n w W' :=
  (hb.alloc (by have := hb.size; omega) _).grown hg (by have := hb.size; simp; omega) hr
set_option maxHeartbeats 2000000 in
theorem put (v u : Value) (l xs : List Nat) (w : World) (h : BytesAt w v l) (hl : l.length ≤ 80000) (hx : WordsAt w u xs) (hxl : xs.length ≤ 100) :
    Calls Tryz.prog 89 #[v, .int .i64 2, u] w fun e w' => ∃ v', e = .returned v' ∧ OwnB w.heap.size w' v' (l ++ be2 xs) ∧ Below w.heap.size w w' := by
  have hcl := clone v l w h (by omega)
  obtain ⟨hx256, bx, ox, cx, rfl, hxc⟩ := id hx
  have HXC := Lib.hid hxc
  have HX := Lib.hid hx256
  clear hxc hx256 h hx
  go_enter Tryz.func89, Tryz.ntmps89
  go_wp2_with (first
    | (go_at_call 113; refine hcl.mono ?_; rintro e w1 ⟨v1, rfl, ho1, hb1⟩; clear hcl)
    )
  go_loopw [7, 15] (fun v i W => ∃ k : Nat, k ≤ xs.length ∧ i = .int .i64 k ∧ OwnB w.heap.size W v (l ++ be2 (xs.take k)) ∧ Below w.heap.size w W) (fun _ i _ => xs.length - (intOf i).toNat)
  case atStart => exact ⟨0, Nat.zero_le _, rfl, by simpa [be2] using ho1, hb1⟩
  case round =>
    obtain ⟨wo, rfl⟩ : ∃ wo : World, wo = wr := ⟨_, rfl⟩
    obtain ⟨k, hk, rfl, ho, hb⟩ := hrel
    rcases Nat.lt_or_ge k xs.length with hlt | hge
    · obtain ⟨x, hxk⟩ : ∃ p, xs[k]? = some p := ⟨_, List.getElem?_eq_getElem hlt⟩
      have hc := HXC.out k x hxk
      have hx65 := HX.out x (List.mem_of_getElem? hxk)
      have hc' : wo.cell? ⟨bx, ox + k, none⟩ = some (.int .u64 (Int.ofNat x)) := by rw [hb.cell (World.block_lt_of_cell? w _ hc)]; exact hc
      go_wp2_with fail
      go_loopw [7, 10] (fun v i W => ∃ j : Nat, j ≤ 2 ∧ i = .int .i64 ((1 : Int) - j) ∧ OwnB w.heap.size W v (l ++ be2 (xs.take k) ++ [x / 256, x % 256].take j) ∧ Below w.heap.size w W) (fun _ i _ => (intOf i + 1).toNat)
      case atStart => exact ⟨0, by omega, by simp, by simpa using ho, hb⟩
      case round =>
        obtain ⟨wi, rfl⟩ : ∃ wi : World, wi = wr := ⟨_, rfl⟩
        obtain ⟨j, hj, rfl, hoi, hbi⟩ := hrel
        rcases (by omega : j = 0 ∨ j = 1 ∨ j = 2) with rfl | rfl | rfl
        · have hs := shr_by x hx65 8 (.inr rfl)
          go_wp2_with (first
            | (refine Go.Hm.wpList_exec rfl (exec_bin rfl rfl rfl hs) ?_)
            | (refine wpList_appB rfl _ _ rfl w.heap.size _ _ (by rfl) (hoi.below ?_) _ [x / 256] (by rfl) ?_ ?_ ?_ ?_; rotate_left 4; intro v2 w2 ho2 hg2 he2))
          case refine_1 => exact (Below.refl _ _).alloc (Nat.le_refl _) _
          case refine_2 => exact lit1 _ _ _ (by simp) (by omega)
          case refine_3 => simp [be2_length]; omega
          case refine_4 => have := hbi.size; simp; omega
          refine ⟨⟨1, by omega, by simp, by simpa using ho2, grownOn hbi (Nat.le_refl _) hg2 (fun q hq => (hoi.row.lt q hq).1)⟩, by simp [intOf]⟩
        · have hs := shr_by x hx65 0 (.inl rfl)
          go_wp2_with (first
            | (refine Go.Hm.wpList_exec rfl (exec_bin rfl rfl rfl hs) ?_)
            | (refine wpList_appB rfl _ _ rfl w.heap.size _ _ (by rfl) (hoi.below ?_) _ [x % 256] (by rfl) ?_ ?_ ?_ ?_; rotate_left 4; intro v2 w2 ho2 hg2 he2))
          case refine_1 => exact (Below.refl _ _).alloc (Nat.le_refl _) _
          case refine_2 => exact lit1 _ _ _ (by simp) (by omega)
          case refine_3 => simp [be2_length]; omega
          case refine_4 => have := hbi.size; simp; omega
          refine ⟨⟨2, by omega, by simp, by simpa using ho2, grownOn hbi (Nat.le_refl _) hg2 (fun q hq => (hoi.row.lt q hq).1)⟩, by simp [intOf]⟩
        · have hbt := be2_take hxk
          go_wp2_with fail
          refine ⟨⟨k + 1, by omega, by go_num, by rw [hbt]; simpa using hoi, hbi⟩, by simp [intOf]; omega⟩
    · obtain rfl : k = xs.length := by omega
      go_wp2_with fail
      go_ret
      refine ⟨_, rfl, by simpa using ho, hb⟩
end Go.Ch
