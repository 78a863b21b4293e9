/- NetChances: ipfour.Parse's reading. -/
import Derived.Test.YtecihapafnpgbaaGreatChO
import Derived.Test.YtecihapafnpgbaaGreatAmR
set_option linter.unusedSimpArgs false
set_option linter.unusedVariables false
set_option linter.constructorNameAsVariable false
set_option linter.unusedSectionVars false
namespace Go.Ch
open Go Go.Am Go.Hm Go.Proofs Go.RowKit Go.Rg
set_option maxRecDepth 100000
/-- Values laid into a row, one by one. -/
def putL : List Value → Nat → Array Value → Array Value
  | [], _, c => c
  | v :: r, i, c => putL r (i + 1) (c.setIfInBounds i v)
theorem run_storeCells_mid {P : Program} (g off : Nat) (t : TypeId) : ∀ (vs : List Value) (j : Nat) (cur : Array Value) (w : World), w.heap[g]? = some (.cells cur t (0, 0)) → off + j + vs.length ≤ cur.size → (∀ v ∈ vs, v.oneCell' = true) →
    (storeCells ⟨g, off, none⟩ vs j).run P w = .ok () (w.setRow g (putL vs (off + j) cur))
  | [], j, cur, w, hg, hl, _ => by
    simp only [storeCells, putL]
    show Result.ok () w = _
    congr 1
    unfold World.setRow
    cases w with
    | mk heap tape drawn os output =>
      congr 1
      apply Array.ext
      · simp
      · intro k h1 h2
        simp only [Array.getElem_modify]
        have hv : heap[g]? = some (.cells cur t (0, 0)) := hg
        split
        · rename_i hk; subst hk; rw [Array.getElem?_eq_getElem (by simpa using h1)] at hv; simp at hv; simp [hv]
        · rfl
  | v :: rest, j, cur, w, hg, hl, h1 => by
    have hi : off + j < cur.size := by simp at hl; omega
    have hadd : (⟨g, off, none⟩ : Go.Addr).add j = ⟨g, off + j, none⟩ := Addr.add_lit _ _ _
    have hcell : w.cell? ⟨g, off + j, none⟩ = some cur[off + j] := by simp [World.cell?, hg, hi]
    have hfro : w.frozen? ⟨g, off + j, none⟩ = false := by simp [World.frozen?, hg]
    have hst : (store ((⟨g, off, none⟩ : Go.Addr).add j) v).run P w = .ok () (w.setRow g (cur.setIfInBounds (off + j) v)) := by
      rw [hadd, run_store P w _ v _ (h1 v (by simp)), hcell]
      simp [hfro, setCell_eq_setRow w g (off + j) cur t (0, 0) v hg]
    have ih := run_storeCells_mid (P := P) g off t rest (j + 1) (cur.setIfInBounds (off + j) v) (w.setRow g (cur.setIfInBounds (off + j) v)) (setRow_heap w g cur _ t _ hg) (by simp at hl ⊢; omega) (fun x hx => h1 x (by simp [hx]))
    simp only [storeCells, Sem.run_bind, hst, Result.andThen_ok, ih, setRow_setRow]
    rfl
theorem run_storeVar_at {P : Program} (w : World) (g off : Nat) (t ty : TypeId) (old cells : Array Value) (hg : w.heap[g]? = some (.cells old t (0, 0))) (hi : (P.info? ty).map (·.size) = some cells.size)
    (ho : off + cells.size ≤ old.size) (h1 : cells.all (·.oneCell') = true) :
    (storeVar ty ⟨g, off, none⟩ (.agg cells)).run P w = .ok () (w.setRow g (putL cells.toList off old)) := by
  have := run_storeCells_mid (P := P) g off t cells.toList 0 old w hg (by simp; omega) (fun v hv => (Array.all_eq_true_iff_forall_mem.1 h1) v (by simpa using hv))
  cases hq : P.info? ty with
  | none => simp [hq] at hi
  | some i =>
    have hs : cells.size = i.size := by simp [hq] at hi; omega
    simp [storeVar, sizeOf, typeInfo, hq, Value.cells, hs, this]
/-- Three blocks may be written; what else was there stays. -/
structure Kp (R Pb M : Nat) (w W : World) : Prop where
  os : W.os = w.os
  tape : W.tape = w.tape
  output : W.output = w.output
  size : w.heap.size ≤ W.heap.size
  block : ∀ k, k < w.heap.size → k ≠ R → k ≠ Pb → k ≠ M → W.heap[k]? = w.heap[k]?
theorem Kp.refl (R Pb M : Nat) (w : World) : Kp R Pb M w w := ⟨rfl, rfl, rfl, Nat.le_refl _, fun _ _ _ _ _ => rfl⟩
theorem Kp.of {R Pb M : Nat} {w W W' : World} (h : Kp R Pb M w W) {r : Option Nat} (hg : W.grownBy W' r) (hr : ∀ k, r = some k → k = R ∨ k = Pb ∨ k = M) : Kp R Pb M w W' :=
  ⟨hg.os.trans h.os, hg.tape.trans h.tape, hg.output.trans h.output, Nat.le_trans h.size hg.size, fun k hk h1 h2 h3 => by
    rw [hg.block k (Nat.lt_of_lt_of_le hk h.size) (fun e => by rcases hr k e.symm with e | e | e <;> contradiction)]; exact h.block k hk h1 h2 h3⟩
theorem Kp.grown {R Pb M : Nat} {w W W' : World} (h : Kp R Pb M w W) (hg : W.grownBy W' (some R)) : Kp R Pb M w W' := h.of hg (fun k e => .inl (Option.some.inj e).symm)
theorem Kp.setP {R Pb M : Nat} {w W : World} (h : Kp R Pb M w W) (i : Nat) (v : Value) : Kp R Pb M w (W.setCell ⟨Pb, i, none⟩ v) := h.of (grown_setCell W Pb i v) (fun k e => .inr (.inl (Option.some.inj e).symm))
theorem Kp.setM {R Pb M : Nat} {w W : World} (h : Kp R Pb M w W) (i : Nat) (v : Value) : Kp R Pb M w (W.setCell ⟨M, i, none⟩ v) := h.of (grown_setCell W M i v) (fun k e => .inr (.inr (Option.some.inj e).symm))
theorem grown_setRow (W : World) (g : Nat) (cs : Array Value) : W.grownBy (W.setRow g cs) (some g) := ⟨rfl, rfl, rfl, by simp [World.setRow], fun k _ hk => setRow_other _ _ _ _ (fun e => hk (by rw [e]))⟩
theorem Kp.rowP {R Pb M : Nat} {w W : World} (h : Kp R Pb M w W) (cs : Array Value) : Kp R Pb M w (W.setRow Pb cs) := h.of (grown_setRow W Pb cs) (fun k e => .inr (.inl (Option.some.inj e).symm))
theorem Kp.below {R Pb M : Nat} {w W W' : World} (h : Kp R Pb M w W) (hb : Below W.heap.size W W') : Kp R Pb M w W' :=
  h.of (r := none) ⟨hb.os, hb.tape, hb.output, hb.size, fun k hk _ => hb.block k hk⟩ (fun k e => by cases e)
/-- The reader's variable, the packet's, the marks' and what is left. -/
structure PS (W : World) (Rv Pb M R b : Nat) (cs : Array Value) (m : Nat) (l : List Nat) : Prop where
  rv : W.heap[Rv]? = some (.cells #[.pointer (some ⟨R, 0, none⟩)] 291)
  pb : W.heap[Pb]? = some (.cells cs 55)
  mks : W.heap[M]? = some (.cells #[.int .u64 m] 136)
  rd : RdAt W R b l
structure NE (Rv Pb M R b : Nat) : Prop where
  a1 : R ≠ Rv
  a2 : R ≠ Pb
  a3 : R ≠ M
  a4 : Pb ≠ Rv
  a5 : Pb ≠ M
  a6 : Rv ≠ M
  a7 : b ≠ Rv
  a8 : b ≠ Pb
  a9 : b ≠ M
section
variable {W W' : World} {Rv Pb M R b : Nat} {cs : Array Value} {m : Nat} {l : List Nat}
theorem heap_lt {k : Nat} {o : Obj} (h : W.heap[k]? = some o) : k < W.heap.size := (Array.getElem?_eq_some_iff.1 h).1
theorem RdAt.lt (h : RdAt W R b l) : R < W.heap.size := by obtain ⟨o, c, h1, _⟩ := h; exact heap_lt h1
theorem PS.next (h : PS W Rv Pb M R b cs m l) (N : NE Rv Pb M R b) {l' : List Nat} (hr : RdAt W' R b l') (hg : W.grownBy W' (some R)) : PS W' Rv Pb M R b cs m l' :=
  ⟨by rw [hg.block _ (heap_lt h.rv) (fun e => N.a1 (Option.some.inj e).symm)]; exact h.rv, by rw [hg.block _ (heap_lt h.pb) (fun e => N.a2 (Option.some.inj e).symm)]; exact h.pb,
   by rw [hg.block _ (heap_lt h.mks) (fun e => N.a3 (Option.some.inj e).symm)]; exact h.mks, hr⟩
theorem RdAt.kept (h : RdAt W R b l) {k : Nat} (hg : W.grownBy W' (some k)) (h1 : R ≠ k) (h2 : b ≠ k) : RdAt W' R b l := by
  obtain ⟨o, c, h3, h4, h5⟩ := h
  exact ⟨o, c, by rw [hg.block _ (heap_lt h3) (fun e => h1 (Option.some.inj e))]; exact h3, h4, h5.kept hg (fun b' o' n c' e h => by cases e; exact h2 (Option.some.inj h).symm)⟩
theorem RdAt.below (h : RdAt W R b l) (hb : Below W.heap.size W W') : RdAt W' R b l := by
  obtain ⟨o, c, h3, h4, h5⟩ := h
  exact ⟨o, c, by rw [hb.block _ (heap_lt h3)]; exact h3, h4, h5.below hb⟩
theorem PS.stP (h : PS W Rv Pb M R b cs m l) (N : NE Rv Pb M R b) (cs' : Array Value) : PS (W.setRow Pb cs') Rv Pb M R b cs' m l :=
  ⟨by rw [setRow_other _ _ _ _ (fun e => N.a4 e.symm)]; exact h.rv, setRow_heap _ _ _ _ _ _ h.pb, by rw [setRow_other _ _ _ _ (fun e => N.a5 e.symm)]; exact h.mks, h.rd.kept (grown_setRow W Pb cs') N.a2 N.a8⟩
theorem PS.stM (h : PS W Rv Pb M R b cs m l) (N : NE Rv Pb M R b) (m' : Nat) : PS (W.setRow M #[.int .u64 m']) Rv Pb M R b cs m' l :=
  ⟨by rw [setRow_other _ _ _ _ N.a6]; exact h.rv, by rw [setRow_other _ _ _ _ N.a5]; exact h.pb, setRow_heap _ _ _ _ _ _ h.mks, h.rd.kept (grown_setRow W M _) N.a3 N.a9⟩
theorem PS.st1 (h : PS W Rv Pb M R b cs m l) (N : NE Rv Pb M R b) (i : Nat) (v : Value) : PS (W.setCell ⟨Pb, i, none⟩ v) Rv Pb M R b (cs.setIfInBounds i v) m l := by
  rw [setCell_eq_setRow W Pb i cs _ (0, 0) v h.pb]; exact h.stP N _
theorem PS.stM1 (h : PS W Rv Pb M R b cs m l) (N : NE Rv Pb M R b) (m' : Nat) : PS (W.setCell ⟨M, 0, none⟩ (.int .u64 m')) Rv Pb M R b cs m' l := by
  rw [setCell_eq_setRow W M 0 _ _ (0, 0) _ h.mks]; exact h.stM N _
theorem PS.below (h : PS W Rv Pb M R b cs m l) (hb : Below W.heap.size W W') : PS W' Rv Pb M R b cs m l :=
  ⟨by rw [hb.block _ (heap_lt h.rv)]; exact h.rv, by rw [hb.block _ (heap_lt h.pb)]; exact h.pb, by rw [hb.block _ (heap_lt h.mks)]; exact h.mks, h.rd.below hb⟩
theorem PS.c0 (h : PS W Rv Pb M R b cs m l) : W.cell? ⟨Rv, 0, none⟩ = some (.pointer (some ⟨R, 0, none⟩)) := by rw [cell_of_row _ _ _ _ _ _ h.rv]; rfl
theorem PS.cp (h : PS W Rv Pb M R b cs m l) (i : Nat) : W.cell? ⟨Pb, i, none⟩ = cs[i]? := cell_of_row _ _ _ _ _ _ h.pb
theorem PS.fp (h : PS W Rv Pb M R b cs m l) (i : Nat) : W.frozen? ⟨Pb, i, none⟩ = false := by simp [World.frozen?, h.pb]
theorem PS.cm (h : PS W Rv Pb M R b cs m l) : W.cell? ⟨M, 0, none⟩ = some (.int .u64 m) := by rw [cell_of_row _ _ _ _ _ _ h.mks]; rfl
theorem PS.fm (h : PS W Rv Pb M R b cs m l) : W.frozen? ⟨M, 0, none⟩ = false := by simp [World.frozen?, h.mks]
end
theorem wrap_un (k : IntKind) (hk : k.signed = false) (n : Int) (h0 : 0 ≤ n) (h1 : n < 2 ^ k.bits) : k.wrap n = n := by
  have h2 : n % (2 ^ k.bits : Int) = n := Int.emod_eq_of_lt h0 h1
  unfold IntKind.wrap
  simp [h2, hk]
theorem wrap_u32 (n : Int) (h0 : 0 ≤ n) (h1 : n < 4294967296) : IntKind.u32.wrap n = n := wrap_un .u32 rfl n h0 h1
theorem wrap_u8 (n : Int) (h0 : 0 ≤ n) (h1 : n < 256) : IntKind.u8.wrap n = n := wrap_un .u8 rfl n h0 h1
theorem wrap_u16 (n : Int) (h0 : 0 ≤ n) (h1 : n < 65536) : IntKind.u16.wrap n = n := wrap_un .u16 rfl n h0 h1
theorem pkAt {A B : Array Value} {proto hops id : Nat} {mk : Mk} {ld : Value} (hA : A.size = 17) (hB : B.size = 17) (j : Nat) (u : Value)
    (hu : (#[.int .u8 proto, .int .u8 hops, .int .u32 id, .bool mk.wh, .bool mk.mo, .int .i64 mk.off, ld] : Array Value)[j]? = some u) : (pkC A B proto hops id mk ld)[34 + j]? = some u := by
  have hs : (A ++ B).size = 34 := by simp [hA, hB]
  unfold pkC
  rw [Array.getElem?_append_right (by omega), hs, Nat.add_sub_cancel_left]; exact hu
abbrev m0 : Mk := ⟨false, false, 0⟩
set_option maxHeartbeats 600000 in
theorem parse1 (Rv Pb M R b : Nat) (N : NE Rv Pb M R b) (x0 x1 x2 x3 i1 i2 m1 m2 hops proto c1 c2 p q r s p' q' r' s' : Nat) (d : List Nat) (hd : 0 < d.length)
    (hi : i1 < 256 ∧ i2 < 256 ∧ hops < 256 ∧ proto < 256) (w : World)
    (h : PS w Rv Pb M R b (pkC (adC 0 0 0 0) (adC 0 0 0 0) 0 0 0 m0 (.slice none 0 0)) 0 ([x0, x1, x2, x3, i1, i2, m1, m2, hops, proto, c1, c2, p, q, r, s, p', q', r', s'] ++ d)) :
    Calls Tryz.prog 183 #[.pointer (some ⟨Rv, 0, none⟩), .pointer (some ⟨Pb, 0, none⟩), .pointer (some ⟨M, 0, none⟩)] w fun e w' => e = .returned (.tuple #[]) ∧
      PS w' Rv Pb M R b (pkC (adC p q r s) (adC p' q' r' s') proto hops (i1 * 256 + i2) m0 (.slice none 0 0)) (m1 * 256 + m2) d ∧ Kp R Pb M w w' := by
  have q0 := h.c0
  go_enter Tryz.func183, Tryz.ntmps183
  go_upto_region 1 with (first
    | (go_at_call 184; refine (rdNum R b _ 4 _ h.rd (by decide) (by decide) (by simp)).mono ?_; rintro e W1 ⟨rfl, hr1, hg1⟩))
  have h1 := h.next N (l' := ([i1, i2, m1, m2, hops, proto, c1, c2, p, q, r, s, p', q', r', s'] ++ d)) hr1 hg1
  have B1 : Kp R Pb M w W1 := (Kp.refl R Pb M w).grown hg1
  clear h hr1 hg1 q0
  have q0 := h1.c0
  have q1 : W1.cell? ⟨Pb, 36, none⟩ = some (.int .u32 0) := by rw [h1.cp]; exact pkAt rfl rfl 2 _ rfl
  have q2 := h1.fp 36
  have hwi : IntKind.u32.wrap ((i1 * 256 + i2 : Nat) : Int) = ((i1 * 256 + i2 : Nat) : Int) := wrap_u32 _ (by omega) (by omega)
  go_upto_region 2 with (first
    | (go_at_call 184; refine (rdNum R b _ 2 _ h1.rd (by decide) (by decide) (by simp)).mono ?_; rw [show beN (List.take 2 ([i1, i2, m1, m2, hops, proto, c1, c2, p, q, r, s, p', q', r', s'] ++ d)) = i1 * 256 + i2 from by simp [beN]]; rintro e W2 ⟨rfl, hr2, hg2⟩; have h2 := h1.next N (l' := ([m1, m2, hops, proto, c1, c2, p, q, r, s, p', q', r', s'] ++ d)) hr2 hg2; have B2 : Kp R Pb M w W2 := B1.grown hg2; clear hr2 hg2; have q1 : W2.cell? ⟨Pb, 36, none⟩ = some (.int .u32 0) := (by rw [h2.cp]; exact pkAt rfl rfl 2 _ rfl); have q2 := h2.fp 36))
  rw [show (i1 : Int) * 256 + i2 = ((i1 * 256 + i2 : Nat) : Int) from by omega]
  have h3 := h2.st1 N 36 (.int .u32 (i1 * 256 + i2 : Nat))
  have B3 : Kp R Pb M w (W2.setCell ⟨Pb, 36, none⟩ (.int .u32 (i1 * 256 + i2 : Nat))) := B2.setP _ _
  generalize W2.setCell ⟨Pb, 36, none⟩ (.int .u32 (i1 * 256 + i2 : Nat)) = V2 at h3 B3 ⊢
  rw [show (pkC (adC 0 0 0 0) (adC 0 0 0 0) 0 0 0 m0 (.slice none 0 0)).setIfInBounds 36 (.int .u32 (i1 * 256 + i2 : Nat)) = pkC (adC 0 0 0 0) (adC 0 0 0 0) 0 0 (i1 * 256 + i2) m0 (.slice none 0 0) from by simp [pkC]] at h3
  clear h1 h2 B1 B2 hwi q0 q1 q2
  have q0 := h3.c0
  generalize hid : i1 * 256 + i2 = id at h3 ⊢
  have HI := Lib.hid hid
  clear hid
  go_upto_region 3 with (first
    | (go_at_call 184; refine (rdNum R b _ 2 _ h3.rd (by decide) (by decide) (by simp)).mono ?_; rw [show beN (List.take 2 ([m1, m2, hops, proto, c1, c2, p, q, r, s, p', q', r', s'] ++ d)) = m1 * 256 + m2 from by simp [beN]]; rintro e W3 ⟨rfl, hr3, hg3⟩; have h4 := h3.next N (l' := ([hops, proto, c1, c2, p, q, r, s, p', q', r', s'] ++ d)) hr3 hg3; have B4 : Kp R Pb M w W3 := B3.grown hg3; clear hr3 hg3; have q1 := h4.cm; have q2 := h4.fm))
  rw [show (m1 : Int) * 256 + m2 = ((m1 * 256 + m2 : Nat) : Int) from by omega]
  have h5 := h4.stM1 N (m1 * 256 + m2)
  have B5 : Kp R Pb M w (W3.setCell ⟨M, 0, none⟩ (.int .u64 (m1 * 256 + m2 : Nat))) := B4.setM _ _
  generalize W3.setCell ⟨M, 0, none⟩ (.int .u64 (m1 * 256 + m2 : Nat)) = V3 at h5 B5 ⊢
  clear h3 h4 B3 B4 q0 q1 q2
  generalize hmw : m1 * 256 + m2 = mw at h5 ⊢
  have HM := Lib.hid hmw
  clear hmw
  clear q1 q2
  rename_i K hK
  have hwh : IntKind.u8.wrap (hops : Int) = (hops : Int) := wrap_u8 _ (by omega) (by omega)
  have hwp : IntKind.u8.wrap (proto : Int) = (proto : Int) := wrap_u8 _ (by omega) (by omega)
  refine Go.Rg.region_inv (nt := 35) (deps := fun i => match i with | 1 => [0] | 2 => [1] | 4 => [3, 1] | 5 => [4] | 6 => [] | 7 => [6, 2, 4] | 8 => [] | 9 => [8, 5, 7] | _ => [])
    (F := fun i v => match i with
      | 0 => v = .pointer (some ⟨R, 0, none⟩)
      | 1 => v = .int .u64 (hops : Nat)
      | 2 => v = .int .u8 (hops : Nat)
      | 3 => v = .pointer (some ⟨R, 0, none⟩)
      | 4 => v = .int .u64 (proto : Nat)
      | 5 => v = .int .u8 (proto : Nat)
      | 6 => v = .pointer (some ⟨Pb, 35, none⟩)
      | 8 => v = .pointer (some ⟨Pb, 34, none⟩)
      | _ => True)
    (G := fun D _ V => PS V Rv Pb M R b (pkC (adC 0 0 0 0) (adC 0 0 0 0) (if D 9 then proto else 0) (if D 7 then hops else 0) id m0 (.slice none 0 0)) mw (if D 4 then ([c1, c2, p, q, r, s, p', q', r', s'] ++ d) else if D 1 then ([proto, c1, c2, p, q, r, s, p', q', r', s'] ++ d) else ([hops, proto, c1, c2, p, q, r, s, p', q', r', s'] ++ d)) ∧ Kp R Pb M w V)
    tryz_fit.mixed (by kernel_rfl) rfl ⟨h5.below ⟨rfl, rfl, rfl, Nat.le_refl _, fun _ _ => rfl⟩, B5.below ⟨rfl, rfl, rfl, Nat.le_refl _, fun _ _ => rfl⟩⟩ ?op ?fin
  case op =>
    intro i o ho D val ρ V hc hf hDi hdep hclos hG hval hbase
    have t0 : ρ (.tmp 0) = .pointer (some ⟨Rv, 0, none⟩) := hbase 0 (by kernel_rfl)
    have t1 : ρ (.tmp 1) = .pointer (some ⟨Pb, 0, none⟩) := hbase 1 (by kernel_rfl)
    obtain ⟨hP, hB⟩ := hG
    have hc0 := hP.c0
    rcases i with _ | _ | _ | _ | _ | _ | _ | _ | _ | _ | i
    · obtain rfl := Option.some.inj ho
      refine .inl ⟨_, V, ?_, rfl, hP, hB⟩
      simp [execOp, go_sem, t0, hc0]
    · obtain rfl := Option.some.inj ho
      have d4 : D 4 = false := by
        cases h4 : D 4 with
        | false => rfl
        | true => rw [hclos 4 h4 1 (by simp)] at hDi; cases hDi
      have a0 : ρ (.tmp 11) = _ := (hval 0 (hdep 0 (by simp)) _ 11 rfl rfl).1.trans (hval 0 (hdep 0 (by simp)) _ 11 rfl rfl).2
      replace hDi : D 1 = false := hDi
      simp only [d4, hDi, Bool.false_eq_true, if_false] at hP
      refine .inr (.inr ⟨184, #[.pointer (some ⟨R, 0, none⟩), .int .i64 1], ?_, (rdNum R b _ 1 _ hP.rd (by decide) (by decide) (by simp)).mono ?_⟩)
      · simp [execOp, go_sem, a0, hc, hf]
      · rintro e V' ⟨rfl, hr, hg⟩
        refine ⟨_, rfl, by simp [beN], ?_, hB.grown hg⟩
        have hN := hP.next N (l' := ([proto, c1, c2, p, q, r, s, p', q', r', s'] ++ d)) hr hg
        have e4 : dn D 1 4 = false := d4
        have e1 : dn D 1 1 = true := rfl
        have e9 : dn D 1 9 = D 9 := rfl
        have e7 : dn D 1 7 = D 7 := rfl
        simp only [e4, e1, e9, e7, Bool.false_eq_true, if_false, if_true]
        exact hN
    · obtain rfl := Option.some.inj ho
      have a0 : ρ (.tmp 12) = _ := (hval 1 (hdep 1 (by simp)) _ 12 rfl rfl).1.trans (hval 1 (hdep 1 (by simp)) _ 12 rfl rfl).2
      refine .inl ⟨_, V, ?_, rfl, hP, hB⟩
      simp [execOp, go_sem, a0]
      exact hwh
    · obtain rfl := Option.some.inj ho
      refine .inl ⟨_, V, ?_, rfl, hP, hB⟩
      simp [execOp, go_sem, t0, hc0]
    · obtain rfl := Option.some.inj ho
      have d1 := hdep 1 (by simp)
      have a0 : ρ (.tmp 14) = _ := (hval 3 (hdep 3 (by simp)) _ 14 rfl rfl).1.trans (hval 3 (hdep 3 (by simp)) _ 14 rfl rfl).2
      replace hDi : D 4 = false := hDi
      simp only [d1, hDi, Bool.false_eq_true, if_false, if_true] at hP
      refine .inr (.inr ⟨184, #[.pointer (some ⟨R, 0, none⟩), .int .i64 1], ?_, (rdNum R b _ 1 _ hP.rd (by decide) (by decide) (by simp)).mono ?_⟩)
      · simp [execOp, go_sem, a0, hc, hf]
      · rintro e V' ⟨rfl, hr, hg⟩
        refine ⟨_, rfl, by simp [beN], ?_, hB.grown hg⟩
        have hN := hP.next N (l' := ([c1, c2, p, q, r, s, p', q', r', s'] ++ d)) hr hg
        have e4 : dn D 4 4 = true := rfl
        have e9 : dn D 4 9 = D 9 := rfl
        have e7 : dn D 4 7 = D 7 := rfl
        simp only [e4, e9, e7, if_true]
        exact hN
    · obtain rfl := Option.some.inj ho
      have a0 : ρ (.tmp 15) = _ := (hval 4 (hdep 4 (by simp)) _ 15 rfl rfl).1.trans (hval 4 (hdep 4 (by simp)) _ 15 rfl rfl).2
      refine .inl ⟨_, V, ?_, rfl, hP, hB⟩
      simp [execOp, go_sem, a0]
      exact hwp
    · obtain rfl := Option.some.inj ho
      refine .inl ⟨_, V, ?_, rfl, hP, hB⟩
      simp [execOp, go_sem, t1]
    · obtain rfl := Option.some.inj ho
      have d9 : D 9 = false := by
        cases h4 : D 9 with
        | false => rfl
        | true => rw [hclos 9 h4 7 (by simp)] at hDi; cases hDi
      have a0 : ρ (.tmp 17) = _ := (hval 6 (hdep 6 (by simp)) _ 17 rfl rfl).1.trans (hval 6 (hdep 6 (by simp)) _ 17 rfl rfl).2
      have a1 : ρ (.tmp 13) = _ := (hval 2 (hdep 2 (by simp)) _ 13 rfl rfl).1.trans (hval 2 (hdep 2 (by simp)) _ 13 rfl rfl).2
      replace hDi : D 7 = false := hDi
      simp only [d9, hDi, Bool.false_eq_true, if_false] at hP
      have f1 := hP.fp 35
      have f2 : V.cell? ⟨Pb, 35, none⟩ = some (.int .u8 0) := by rw [hP.cp]; exact pkAt rfl rfl 1 _ rfl
      have hS := hP.st1 N 35 (.int .u8 (hops : Nat))
      rw [show (pkC (adC 0 0 0 0) (adC 0 0 0 0) 0 0 id m0 (.slice none 0 0)).setIfInBounds 35 (.int .u8 (hops : Nat)) = pkC (adC 0 0 0 0) (adC 0 0 0 0) 0 hops id m0 (.slice none 0 0) from by simp [pkC]] at hS
      refine .inr (.inl ⟨V.setCell ⟨Pb, 35, none⟩ (.int .u8 (hops : Nat)), ?_, trivial, ?_, hB.setP _ _⟩)
      · simp [execOp, go_sem, a0, a1, f1, f2]
      · have e9 : dn D 7 9 = false := d9
        have e7 : dn D 7 7 = true := rfl
        have e4 : dn D 7 4 = D 4 := rfl
        have e1 : dn D 7 1 = D 1 := rfl
        simp only [e9, e7, e4, e1, Bool.false_eq_true, if_false, if_true]
        exact hS
    · obtain rfl := Option.some.inj ho
      refine .inl ⟨_, V, ?_, rfl, hP, hB⟩
      simp [execOp, go_sem, t1]
    · obtain rfl := Option.some.inj ho
      have d7 := hdep 7 (by simp)
      have a0 : ρ (.tmp 18) = _ := (hval 8 (hdep 8 (by simp)) _ 18 rfl rfl).1.trans (hval 8 (hdep 8 (by simp)) _ 18 rfl rfl).2
      have a1 : ρ (.tmp 16) = _ := (hval 5 (hdep 5 (by simp)) _ 16 rfl rfl).1.trans (hval 5 (hdep 5 (by simp)) _ 16 rfl rfl).2
      replace hDi : D 9 = false := hDi
      simp only [d7, hDi, Bool.false_eq_true, if_false, if_true] at hP
      have f1 := hP.fp 34
      have f2 : V.cell? ⟨Pb, 34, none⟩ = some (.int .u8 0) := by rw [hP.cp]; exact pkAt rfl rfl 0 _ rfl
      have hS := hP.st1 N 34 (.int .u8 (proto : Nat))
      rw [show (pkC (adC 0 0 0 0) (adC 0 0 0 0) 0 hops id m0 (.slice none 0 0)).setIfInBounds 34 (.int .u8 (proto : Nat)) = pkC (adC 0 0 0 0) (adC 0 0 0 0) proto hops id m0 (.slice none 0 0) from by simp [pkC]] at hS
      refine .inr (.inl ⟨V.setCell ⟨Pb, 34, none⟩ (.int .u8 (proto : Nat)), ?_, trivial, ?_, hB.setP _ _⟩)
      · simp [execOp, go_sem, a0, a1, f1, f2]
      · have e9 : dn D 9 9 = true := rfl
        have e7 : dn D 9 7 = true := d7
        have e4 : dn D 9 4 = D 4 := rfl
        have e1 : dn D 9 1 = D 1 := rfl
        simp only [e9, e7, e4, e1, if_true]
        exact hS
    · simp at ho
  case fin =>
    intro a V D val hG hall hsz hdf hF hbase
    obtain ⟨hP, hB⟩ := hG
    simp only [hall 9 (by decide), hall 7 (by decide), hall 4 (by decide), if_true] at hP
    have e := Go.Rg.tmps_all a
    rw [hsz] at e
    simp only [List.range, List.range.loop, List.map_cons, List.map_nil] at e
    have b0 := hbase 0 (by kernel_rfl)
    have b1 := hbase 1 (by kernel_rfl)
    have b2 := hbase 2 (by kernel_rfl)
    rw [b0, b1, b2] at e
    replace hdf : a.defers = [] := hdf
    have ea := Go.Rg.act_eq e hdf
    show K a V
    refine hK _ _ ?_
    rw [ea]
    clear ea e b0 b1 b2 hbase hF hall hK hdf
    generalize a.tmps.getD 3 undef = u3
    generalize a.tmps.getD 4 undef = u4
    generalize a.tmps.getD 5 undef = u5
    generalize a.tmps.getD 6 undef = u6
    generalize a.tmps.getD 7 undef = u7
    generalize a.tmps.getD 8 undef = u8
    generalize a.tmps.getD 9 undef = u9
    generalize a.tmps.getD 10 undef = u10
    generalize a.tmps.getD 11 undef = u11
    generalize a.tmps.getD 12 undef = u12
    generalize a.tmps.getD 13 undef = u13
    generalize a.tmps.getD 14 undef = u14
    generalize a.tmps.getD 15 undef = u15
    generalize a.tmps.getD 16 undef = u16
    generalize a.tmps.getD 17 undef = u17
    generalize a.tmps.getD 18 undef = u18
    generalize a.tmps.getD 19 undef = u19
    generalize a.tmps.getD 20 undef = u20
    generalize a.tmps.getD 21 undef = u21
    generalize a.tmps.getD 22 undef = u22
    generalize a.tmps.getD 23 undef = u23
    generalize a.tmps.getD 24 undef = u24
    generalize a.tmps.getD 25 undef = u25
    generalize a.tmps.getD 26 undef = u26
    generalize a.tmps.getD 27 undef = u27
    generalize a.tmps.getD 28 undef = u28
    generalize a.tmps.getD 29 undef = u29
    generalize a.tmps.getD 30 undef = u30
    generalize a.tmps.getD 31 undef = u31
    generalize a.tmps.getD 32 undef = u32
    generalize a.tmps.getD 33 undef = u33
    generalize a.tmps.getD 34 undef = u34
    clear hsz
    have q0 := hP.c0
    go_upto_region 5 with (first
      | (go_at_call 184; refine (rdNum R b _ 2 _ hP.rd (by decide) (by decide) (by simp)).mono ?_; rintro e W1 ⟨rfl, hr1, hg1⟩))
    have h1 := hP.next N (l' := ([p, q, r, s, p', q', r', s'] ++ d)) hr1 hg1
    have B1 : Kp R Pb M w W1 := hB.grown hg1
    clear hP hr1 hg1 hB q0
    have q0 := h1.c0
    go_upto_region 6 with (first
      | (go_at_call 178; refine (rdBytes R b _ 4 _ h1.rd (by decide) (by simp) (by decide)).mono ?_; rintro e W2 ⟨v2, rfl, hb2, hr2, hg2⟩)
      | (go_at_call 176; refine (addrOf v2 p q r s W2 hb2).mono ?_; rintro e W3 ⟨rfl, hb3⟩; have h3 := (h1.next N (l' := ([p', q', r', s'] ++ d)) hr2 hg2).below hb3; have hst := run_storeVar_at (P := Tryz.prog) W3 Pb 0 _ 32 _ (adC p q r s) h3.pb info17 (by simp [pkC]) (by simp [Value.oneCell']))
      | (refine wpList_store_agg rfl 32 _ _ rfl _ rfl _ rfl _ hst ?_))
    have h4 := h3.stP N (putL (adC p q r s).toList 0 (pkC (adC 0 0 0 0) (adC 0 0 0 0) proto hops id m0 (.slice none 0 0)))
    rw [show (putL (adC p q r s).toList 0 (pkC (adC 0 0 0 0) (adC 0 0 0 0) proto hops id m0 (.slice none 0 0))) = pkC (adC p q r s) (adC 0 0 0 0) proto hops id m0 (.slice none 0 0) from by simp [pkC, putL]] at h4 ⊢
    have B2 : Kp R Pb M w W2 := B1.grown hg2
    have B4 : Kp R Pb M w (W3.setRow Pb (pkC (adC p q r s) (adC 0 0 0 0) proto hops id m0 (.slice none 0 0))) := (B2.below hb3).rowP _
    generalize W3.setRow Pb (pkC (adC p q r s) (adC 0 0 0 0) proto hops id m0 (.slice none 0 0)) = V4 at h4 B4 ⊢
    clear h1 h3 hst hb2 hr2 hg2 hb3 B1 B2 q0
    have q0 := h4.c0
    go_wp2_with (first
      | (go_at_call 178; refine (rdBytes R b _ 4 _ h4.rd (by decide) (by simp; omega) (by decide)).mono ?_; rintro e W5 ⟨v5, rfl, hb5, hr5, hg5⟩)
      | (go_at_call 176; refine (addrOf v5 p' q' r' s' W5 hb5).mono ?_; rintro e W6 ⟨rfl, hb6⟩; have h6 := (h4.next N (l' := d) hr5 hg5).below hb6; have hst := run_storeVar_at (P := Tryz.prog) W6 Pb 17 _ 32 _ (adC p' q' r' s') h6.pb info17 (by simp [pkC]) (by simp [Value.oneCell']))
      | (refine wpList_store_agg rfl 32 _ _ rfl _ rfl _ rfl _ hst ?_))
    have h7 := h6.stP N (putL (adC p' q' r' s').toList 17 (pkC (adC p q r s) (adC 0 0 0 0) proto hops id m0 (.slice none 0 0)))
    rw [show (putL (adC p' q' r' s').toList 17 (pkC (adC p q r s) (adC 0 0 0 0) proto hops id m0 (.slice none 0 0))) = pkC (adC p q r s) (adC p' q' r' s') proto hops id m0 (.slice none 0 0) from by simp [pkC, putL]] at h7 ⊢
    have B5 : Kp R Pb M w W5 := B4.grown hg5
    have B7 : Kp R Pb M w (W6.setRow Pb (pkC (adC p q r s) (adC p' q' r' s') proto hops id m0 (.slice none 0 0))) := (B5.below hb6).rowP _
    go_end0
    exact ⟨rfl, by rw [HI.out, HM.out]; exact h7, B7⟩
end Go.Ch
