/- NetChances: ipfour.Parse. -/
import Derived.Test.YtecihapafnpgbaaGreatChP
import Derived.Test.YtecihapafnpgbaaGreatAmH
set_option linter.unusedSimpArgs false
set_option linter.unusedVariables false
set_option linter.constructorNameAsVariable false
set_option linter.unusedSectionVars false
namespace Go.Ch
open Go Go.Am Go.Hm Go.Proofs Go.RowKit Go.Rg
set_option maxRecDepth 100000
theorem and_gen (x y z : Nat) (hx : x < 18446744073709551616) (hy : y < 18446744073709551616) (hz : x &&& y = z) : intA .and .u64 x .u64 y = some (.int .u64 (z : Nat)) := by
  show vI .u64 (wrapN .u64 (Nat.land (Nat.mod x 18446744073709551616) (Nat.mod y 18446744073709551616))) = _
  have e1 : Nat.mod x 18446744073709551616 = x := Nat.mod_eq_of_lt hx
  have e2 : Nat.mod y 18446744073709551616 = y := Nat.mod_eq_of_lt hy
  have e3 : Nat.land x y = z := hz
  have hzl : z < 18446744073709551616 := by rw [← hz]; exact Nat.lt_of_le_of_lt Nat.and_le_left hx
  rw [e1, e2, e3, vI_eq]
  unfold wrapN
  have : Nat.ble (halfK .u64) z = false := by
    rw [Bool.eq_false_iff]; intro hb
    have := Nat.le_of_ble_eq_true hb
    have h9 : halfK .u64 = 18446744073709551616 := by rfl
    rw [h9] at this; omega
  rw [this]; rfl
theorem exec_binR {o : Oper} {ρ : Operand → Value} {w : World} {op : BinOp} {t ty : TypeId} {x y : Operand} (hop : o.op = Op.binOp op t x y ty) {k l : IntKind} {m n : Int} {r : Value} (hx : ρ x = .int k m) (hy : ρ y = .int l n)
    (hr : intA op k m l n = some r) : (execOp ρ o).run Tryz.prog w = .ok (.value r) w := by
  have h1 := (run_int Tryz.prog hr t w).1
  have h2 : (eqGuard op t x y (.int k m) (.int l n)).run Tryz.prog w = .ok () w := eqGuard_flat (by simp) (by simp) w
  simp [execOp, hop, hx, hy, h1, h2, Result.andThen]
theorem and_pow (x n : Nat) : x &&& 2 ^ n = if x / 2 ^ n % 2 = 1 then 2 ^ n else 0 := by
  apply Nat.eq_of_testBit_eq
  intro i
  rw [Nat.testBit_and, Nat.testBit_two_pow]
  by_cases hi : n = i
  · subst hi
    rw [Nat.testBit_eq_decide_div_mod_eq]
    by_cases h : x / 2 ^ n % 2 = 1
    · rw [if_pos h]; simp [h]
    · rw [if_neg h]; simp [h]
  · simp only [hi, decide_false, Bool.and_false]
    split
    · rw [Nat.testBit_two_pow]; simp [hi]
    · simp
/-- The marks of a word. -/
theorem word_wh (m : Mk) (h : m.off < 65536) : m.word &&& 16384 = if m.wh then 16384 else 0 := by
  have := and_pow m.word 14
  have e : (2 : Nat) ^ 14 = 16384 := by decide
  rw [e] at this
  rw [this]
  unfold Mk.word
  cases m.wh <;> cases m.mo <;> simp <;> omega
theorem word_mo (m : Mk) (h : m.off < 65536) : m.word &&& 8192 = if m.mo then 8192 else 0 := by
  have := and_pow m.word 13
  have e : (2 : Nat) ^ 13 = 8192 := by decide
  rw [e] at this
  rw [this]
  unfold Mk.word
  cases m.wh <;> cases m.mo <;> simp <;> omega
theorem word_odd (m : Mk) (h : m.off < 65536) : m.word &&& 32768 = 0 := by
  have := and_pow m.word 15
  have e : (2 : Nat) ^ 15 = 32768 := by decide
  rw [e] at this
  rw [this]
  unfold Mk.word
  cases m.wh <;> cases m.mo <;> simp <;> omega
theorem word_off (m : Mk) (h : m.off < 65536) : m.word &&& 8191 = m.off / 8 := by
  have := Nat.and_two_pow_sub_one_eq_mod m.word 13
  have e : (2 : Nat) ^ 13 = 8192 := by decide
  rw [e] at this
  show m.word &&& (8192 - 1) = _
  rw [this]
  unfold Mk.word
  cases m.wh <;> cases m.mo <;> simp <;> omega
theorem word_lt (m : Mk) (h : m.off < 65536) : m.word < 65536 := by
  unfold Mk.word
  cases m.wh <;> cases m.mo <;> simp <;> omega
theorem info41 (n : Nat) (hn : n = 41) : (Tryz.prog.info? 55).map (·.size) = some n := by subst hn; kernel_rfl
theorem OwnB.kept {n g l0 cap : Nat} {W W' : World} {l : List Nat} {r : Option Nat} (h : OwnB n W (.slice (some ⟨g, 0, none⟩) l0 cap) l) (hg : W.grownBy W' r) (hr : r ≠ some g) : OwnB n W' (.slice (some ⟨g, 0, none⟩) l0 cap) l := by
  refine ⟨⟨h.row.1, ?_⟩, h.lt⟩
  rcases h.row.2 with ⟨hn, _⟩ | ⟨g', cap', cur, he, hg', hh, hrr⟩
  · cases hn
  · refine .inr ⟨g', cap', cur, he, hg', ?_, hrr⟩
    cases he
    rw [hg.block _ (Array.getElem?_eq_some_iff.1 hh).1 (fun e => hr e.symm)]; exact hh
abbrev pkZ : Array Value := pkC (adC 0 0 0 0) (adC 0 0 0 0) 0 0 0 m0 (.slice none 0 0)
theorem try183 (cs : List Value) (w : World) (R : Ending → World → Prop) (hcall : Calls Tryz.prog 183 ⟨cs⟩ (w.alloc (.cells #[.int .i64 0] 34)) R)
    (hret : ∀ e w', R e w' → (∃ v, e = .returned v) ∧ w'.cell? ⟨w.heap.size, 0, none⟩ = some (.int .i64 0) ∧ w'.frozen? ⟨w.heap.size, 0, none⟩ = false) :
    Calls Tryz.prog 182 #[.func (.func 183) #[] ⟨cs⟩] w fun e W' => e = .returned (.int .i64 0) ∧ ∃ e', R e' W' :=
  try288 183 [] cs w R (fun args w => run_callFunc (fn := Tryz.f183) Tryz.func183 rfl (by kernel_rfl) w) hcall hret
set_option maxHeartbeats 1000000 in
theorem ipParse (p q r s p' q' r' s' proto hops id : Nat) (mk : Mk) (hA : okAd p q r s) (hB : okAd p' q' r' s') (hlA : p < 256 ∧ q < 256 ∧ r < 256 ∧ s < 256) (hlB : p' < 256 ∧ q' < 256 ∧ r' < 256 ∧ s' < 256) (hph : proto < 256 ∧ hops < 256) (hid : id ≤ 65535)
    (v : Value) (d : List Nat) (hmk : mk.ok d.length) (w : World) (hd : 0 < d.length) (hl : d.length ≤ 1500) (h : BytesAt w v (ipL [p, q, r, s] [p', q', r', s'] proto hops id mk.word d)) :
    Calls Tryz.prog 103 #[v] w fun e w' => ∃ dv', e = .returned (.tuple #[.agg (pkC (adC p q r s) (adC p' q' r' s') proto hops id mk dv'), .int .i64 0]) ∧ OwnB w.heap.size w' dv' d ∧ Below w.heap.size w w' := by
  obtain ⟨c1, c2, hL, hs⟩ := ipL_head p q r s p' q' r' s' proto hops id mk.word d
  rw [hL] at h
  have hoff : mk.off < 65536 := by have := hmk.end_; omega
  have hz := fun W hW => ipSize v _ d _ _ _ _ _ _ _ _ _ _ p q r s p' q' r' s' rfl (by omega) hs hl W hW
  obtain ⟨L, hLL⟩ : ∃ L, L = [69, 0, (20 + d.length) / 256, (20 + d.length) % 256, id / 256, id % 256, mk.word / 256, mk.word % 256, hops, proto, c1, c2, p, q, r, s, p', q', r', s'] ++ d := ⟨_, rfl⟩
  rw [← hLL] at h hz
  have hLl : L.length = 20 + d.length := by rw [hLL]; simp; omega
  have HLL := Lib.hid hLL
  clear hLL hL hs
  obtain ⟨Z, hZ⟩ : ∃ Z : Array Value, (#[.bool false, .int .u8 0, .int .u8 0, .int .u8 0, .int .u8 0, .int .u8 0, .int .u8 0, .int .u8 0, .int .u8 0, .int .u8 0, .int .u8 0, .int .u8 0, .int .u8 0, .int .u8 0, .int .u8 0, .int .u8 0, .int .u8 0, .bool false, .int .u8 0, .int .u8 0, .int .u8 0, .int .u8 0, .int .u8 0, .int .u8 0, .int .u8 0, .int .u8 0, .int .u8 0, .int .u8 0, .int .u8 0, .int .u8 0, .int .u8 0, .int .u8 0, .int .u8 0, .int .u8 0, .int .u8 0, .int .u8 0, .int .u32 0, .bool false, .bool false, .int .i64 0, .slice none 0 0] : Array Value) = Z := ⟨_, rfl⟩
  have HZ := Lib.hid (show Z = pkZ by rw [← hZ]; rfl)
  go_enter Tryz.func103, Tryz.ntmps103
  go_upto_region 1 with fail
  have hT := heap_alloc_new w (.cells Z 55)
  have Xb : Below w.heap.size w (w.alloc (.cells Z 55)) := (Below.refl _ _).alloc (Nat.le_refl _) _
  have hT1 : w.heap.size < (w.alloc (.cells Z 55)).heap.size := by simp
  generalize w.alloc (.cells Z 55) = W at hT hT1 Xb ⊢
  have hzW := hz W (h.below Xb)
  go_upto_region 4 with (first
    | (go_at_call 181; refine hzW.mono ?_; rintro e W1 ⟨rfl, hb1⟩))
  have Xb1 := Xb.trans (hb1.mono (by omega))
  have hT2 : W1.heap[w.heap.size]? = some (.cells Z 55) := by rw [hb1.block _ hT1]; exact hT
  have hs1 := hb1.size
  clear hzW hT Xb hb1 hz
  go_upto_region 6 with fail
  have hP2 : ((W1.alloc (.cells Z 55)).alloc (.cells #[.int .u64 0] 136)).heap[W1.heap.size]? = some (.cells Z 55) := by
    have h2 : Below (W1.heap.size + 1) (W1.alloc (.cells Z 55)) ((W1.alloc (.cells Z 55)).alloc (.cells #[.int .u64 0] 136)) := (Below.refl _ _).alloc (by simp) _
    rw [h2.block _ (by omega)]
    exact heap_alloc_new W1 _
  have hM2 : ((W1.alloc (.cells Z 55)).alloc (.cells #[.int .u64 0] 136)).heap[W1.heap.size + 1]? = some (.cells #[.int .u64 0] 136) := by
    have := heap_alloc_new (W1.alloc (.cells Z 55)) (.cells #[.int .u64 0] 136)
    simpa using this
  have hb2 : Below W1.heap.size W1 ((W1.alloc (.cells Z 55)).alloc (.cells #[.int .u64 0] 136)) := ((Below.refl _ _).alloc (Nat.le_refl _) _).alloc (by simp) _
  have hs2 : ((W1.alloc (.cells Z 55)).alloc (.cells #[.int .u64 0] 136)).heap.size = W1.heap.size + 2 := by simp
  generalize (W1.alloc (.cells Z 55)).alloc (.cells #[.int .u64 0] 136) = W2 at hP2 hM2 hb2 hs2 ⊢
  have h2 := h.below (Xb1.trans (hb2.mono (by omega)) |>.mono (Nat.le_refl _))
  have hRd := rdRead v L W2 h2 (by omega) (by omega)
  have hT3 : W2.heap[w.heap.size]? = some (.cells Z 55) := by rw [hb2.block _ (by omega)]; exact hT2
  clear hZ hT2
  go_upto_region 7 with (first
    | (go_at_call 175; refine hRd.mono ?_; rintro e W3 ⟨R, b, rfl, hR1, hb1, hr3, hb3⟩))
  have hP3 : W3.heap[W1.heap.size]? = some (.cells Z 55) := by rw [hb3.block _ (by omega)]; exact hP2
  have hM3 : W3.heap[W1.heap.size + 1]? = some (.cells #[.int .u64 0] 136) := by rw [hb3.block _ (by omega)]; exact hM2
  have hT4 : W3.heap[w.heap.size]? = some (.cells Z 55) := by rw [hb3.block _ (by omega)]; exact hT3
  have Xb3 : Below w.heap.size w W3 := (Xb1.trans (hb2.mono (by omega))).trans (hb3.mono (by omega))
  have hRl := hr3.lt
  have hbl : b < W3.heap.size := by
    obtain ⟨o, c, _, _, h5⟩ := hr3
    obtain ⟨b', o', c', e, _, _, h6⟩ := h5.open (by omega)
    cases e
    obtain ⟨z, hz⟩ : ∃ z, L[0]? = some z := ⟨_, List.getElem?_eq_getElem (by omega)⟩
    exact World.block_lt_of_cell? W3 _ (h6 0 z hz)
  have hs3 := hb3.size
  clear hRd hP2 hM2 hT3 hb2 h2
  have hv0 : Below W3.heap.size W3 (W3.alloc (.cells #[.pointer (some ⟨R, 0, none⟩)] 291)) := (Below.refl _ _).alloc (Nat.le_refl _) _
  have hPS : PS (W3.alloc (.cells #[.pointer (some ⟨R, 0, none⟩)] 291)) W3.heap.size W1.heap.size (W1.heap.size + 1) R b pkZ 0 L :=
    ⟨heap_alloc_new W3 _, by rw [hv0.block _ (by omega), ← HZ.out]; exact hP3, by rw [hv0.block _ (by omega)]; exact hM3, hr3.below hv0⟩
  have hTV : (W3.alloc (.cells #[.pointer (some ⟨R, 0, none⟩)] 291)).heap[w.heap.size]? = some (.cells Z 55) := by rw [hv0.block _ (by omega)]; exact hT4
  have hVs : (W3.alloc (.cells #[.pointer (some ⟨R, 0, none⟩)] 291)).heap.size = W3.heap.size + 1 := by simp
  have hVb := Xb3.trans (hv0.mono (by omega))
  generalize W3.alloc (.cells #[.pointer (some ⟨R, 0, none⟩)] 291) = V at hPS hTV hVs hVb ⊢
  have N : NE W3.heap.size W1.heap.size (W1.heap.size + 1) R b := ⟨by omega, by omega, by omega, by omega, by omega, by omega, by omega, by omega, by omega⟩
  have hE : Below V.heap.size V (V.alloc (.cells #[.int .i64 0] 34)) := (Below.refl _ _).alloc (Nat.le_refl _) _
  have hEs : (V.alloc (.cells #[.int .i64 0] 34)).heap.size = V.heap.size + 1 := by simp
  have hEc := heap_alloc_new V (.cells #[.int .i64 0] 34)
  have hPE := hPS.below hE
  rw [HLL.out] at hPE
  have hcall := parse1 W3.heap.size W1.heap.size (W1.heap.size + 1) R b N _ _ _ _ _ _ _ _ _ _ _ _ _ _ _ _ _ _ _ _ d hd ⟨by omega, by omega, hph.2, hph.1⟩ (V.alloc (.cells #[.int .i64 0] 34)) hPE
  have e1 : id / 256 * 256 + id % 256 = id := by omega
  have e2 : mk.word / 256 * 256 + mk.word % 256 = mk.word := by omega
  rw [e1, e2] at hcall
  have hTry := try183 [.pointer (some ⟨W3.heap.size, 0, none⟩), .pointer (some ⟨W1.heap.size, 0, none⟩), .pointer (some ⟨W1.heap.size + 1, 0, none⟩)] V _ hcall (by
    rintro e w' ⟨rfl, _, hk⟩
    have hb := hk.block V.heap.size (by omega) (by omega) (by omega) (by omega)
    rw [hEc] at hb
    refine ⟨⟨_, rfl⟩, ?_, by simp [World.frozen?, hb]⟩
    rw [cell_of_row _ _ _ _ _ _ hb]; rfl)
  clear hP3 hM3 hT4 hr3 hPS hPE hcall hEc hv0
  go_upto_region 8 with (first
    | (go_at_call 182; refine hTry.mono ?_; rintro e W4 ⟨rfl, e', -, hP4, hK4⟩))
  have hT5 : W4.heap[w.heap.size]? = some (.cells Z 55) := by rw [hK4.block _ (by omega) (by omega) (by omega) (by omega), hE.block _ (by omega)]; exact hTV
  have hB4 : Below w.heap.size w W4 := ⟨hK4.os.trans (hE.os.trans hVb.os), hK4.tape.trans (hE.tape.trans hVb.tape), hK4.output.trans (hE.output.trans hVb.output), by have := hK4.size; have := hVb.size; omega, fun k hk => by
    rw [hK4.block k (by omega) (by omega) (by omega) (by omega), hE.block k (by omega)]; exact hVb.block k hk⟩
  have hPb := hP4.pb
  have hMm := hP4.mks
  have hsz4 : W1.heap.size + 1 < W4.heap.size := by have := hK4.size; omega
  clear hTry hP4 hK4 hTV hVb hE hEs N hR1 hb1 hRl hbl
  rename_i K hK
  have hwl := word_lt mk hoff
  have hwh := word_wh mk hoff
  have hmo := word_mo mk hoff
  have hof := word_off mk hoff
  have hI1 : intA .and .u64 (mk.word : Nat) .u64 16384 = some (.int .u64 (if mk.wh then 16384 else 0 : Nat)) := and_gen mk.word 16384 _ (by omega) (by omega) hwh
  have hI2 : intA .and .u64 (mk.word : Nat) .u64 8192 = some (.int .u64 (if mk.mo then 8192 else 0 : Nat)) := and_gen mk.word 8192 _ (by omega) (by omega) hmo
  have hI3 : intA .and .u64 (mk.word : Nat) .u64 8191 = some (.int .u64 (mk.off / 8 : Nat)) := and_gen mk.word 8191 _ (by omega) (by omega) hof
  have hN1 : intA .neq .u64 ((if mk.wh then 16384 else 0 : Nat) : Int) .u64 0 = some (.bool mk.wh) := by cases mk.wh <;> rfl
  have hN2 : intA .neq .u64 ((if mk.mo then 8192 else 0 : Nat) : Int) .u64 0 = some (.bool mk.mo) := by cases mk.mo <;> rfl
  have hw1 : IntKind.i64.wrap ((mk.off : Int) / 8) = ((mk.off : Int) / 8) := wrap_i64 _ (by omega) (by omega)
  have hw2 : IntKind.i64.wrap ((mk.off : Int) / 8 * 8) = (mk.off : Int) := by
    have := hmk.oct
    rw [show (mk.off : Int) / 8 * 8 = mk.off from by omega]
    exact wrap_i64 _ (by omega) (by omega)
  refine Go.Rg.region_inv (nt := 53) (deps := fun i => match i with | 1 => [0] | 2 => [1] | 4 => [3] | 5 => [4] | 7 => [6] | 8 => [7] | 9 => [8] | 11 => [10, 2] | 13 => [12, 5, 11] | 15 => [14, 9, 13] | _ => [])
    (F := fun i v => match i with
      | 0 => v = .int .u64 (mk.word : Nat)
      | 1 => v = .int .u64 (if mk.wh then 16384 else 0 : Nat)
      | 2 => v = .bool mk.wh
      | 3 => v = .int .u64 (mk.word : Nat)
      | 4 => v = .int .u64 (if mk.mo then 8192 else 0 : Nat)
      | 5 => v = .bool mk.mo
      | 6 => v = .int .u64 (mk.word : Nat)
      | 7 => v = .int .u64 (mk.off / 8 : Nat)
      | 8 => v = .int .i64 ((mk.off : Int) / 8)
      | 9 => v = .int .i64 (mk.off : Nat)
      | 10 => v = .pointer (some ⟨W1.heap.size, 37, none⟩)
      | 12 => v = .pointer (some ⟨W1.heap.size, 38, none⟩)
      | 14 => v = .pointer (some ⟨W1.heap.size, 39, none⟩)
      | _ => True)
    (G := fun D _ V => V.heap[W1.heap.size]? = some (.cells (pkC (adC p q r s) (adC p' q' r' s') proto hops id ⟨if D 11 then mk.wh else false, if D 13 then mk.mo else false, if D 15 then mk.off else 0⟩ (.slice none 0 0)) 55) ∧ V.heap[W1.heap.size + 1]? = some (.cells #[.int .u64 mk.word] 136) ∧
      V.heap[w.heap.size]? = some (.cells Z 55) ∧ Below w.heap.size w V ∧ W1.heap.size + 1 < V.heap.size)
    tryz_fit.mixed (by kernel_rfl) rfl ⟨hPb, hMm, hT5, hB4.trans ⟨rfl, rfl, rfl, Nat.le_refl _, fun _ _ => rfl⟩, hsz4⟩ ?op ?fin
  case op =>
    intro i o ho D val ρ V hc hf hDi hdep hclos hG hval hbase
    have t7 : ρ (.tmp 7) = .pointer (some ⟨W1.heap.size, 0, none⟩) := hbase 7 (by kernel_rfl)
    have t8 : ρ (.tmp 8) = .pointer (some ⟨W1.heap.size + 1, 0, none⟩) := hbase 8 (by kernel_rfl)
    obtain ⟨g1, g2, g3, g4, g5⟩ := hG
    have cM : V.cell? ⟨W1.heap.size + 1, 0, none⟩ = some (.int .u64 mk.word) := by rw [cell_of_row _ _ _ _ _ _ g2]; rfl
    rcases i with _ | _ | _ | _ | _ | _ | _ | _ | _ | _ | _ | _ | _ | _ | _ | _ | i
    · obtain rfl := Option.some.inj ho
      refine .inl ⟨_, V, ?_, rfl, g1, g2, g3, g4, g5⟩
      simp [execOp, go_sem, t8, cM]
    · obtain rfl := Option.some.inj ho
      have a0 : ρ (.tmp 24) = _ := (hval 0 (hdep 0 (by simp)) _ 24 rfl rfl).1.trans (hval 0 (hdep 0 (by simp)) _ 24 rfl rfl).2
      exact .inl ⟨_, V, exec_binR rfl a0 (hc _) hI1, rfl, g1, g2, g3, g4, g5⟩
    · obtain rfl := Option.some.inj ho
      have a0 : ρ (.tmp 25) = _ := (hval 1 (hdep 1 (by simp)) _ 25 rfl rfl).1.trans (hval 1 (hdep 1 (by simp)) _ 25 rfl rfl).2
      exact .inl ⟨_, V, exec_binR rfl a0 (hc _) hN1, rfl, g1, g2, g3, g4, g5⟩
    · obtain rfl := Option.some.inj ho
      refine .inl ⟨_, V, ?_, rfl, g1, g2, g3, g4, g5⟩
      simp [execOp, go_sem, t8, cM]
    · obtain rfl := Option.some.inj ho
      have a0 : ρ (.tmp 27) = _ := (hval 3 (hdep 3 (by simp)) _ 27 rfl rfl).1.trans (hval 3 (hdep 3 (by simp)) _ 27 rfl rfl).2
      exact .inl ⟨_, V, exec_binR rfl a0 (hc _) hI2, rfl, g1, g2, g3, g4, g5⟩
    · obtain rfl := Option.some.inj ho
      have a0 : ρ (.tmp 28) = _ := (hval 4 (hdep 4 (by simp)) _ 28 rfl rfl).1.trans (hval 4 (hdep 4 (by simp)) _ 28 rfl rfl).2
      exact .inl ⟨_, V, exec_binR rfl a0 (hc _) hN2, rfl, g1, g2, g3, g4, g5⟩
    · obtain rfl := Option.some.inj ho
      refine .inl ⟨_, V, ?_, rfl, g1, g2, g3, g4, g5⟩
      simp [execOp, go_sem, t8, cM]
    · obtain rfl := Option.some.inj ho
      have a0 : ρ (.tmp 30) = _ := (hval 6 (hdep 6 (by simp)) _ 30 rfl rfl).1.trans (hval 6 (hdep 6 (by simp)) _ 30 rfl rfl).2
      exact .inl ⟨_, V, exec_binR rfl a0 (hc _) hI3, rfl, g1, g2, g3, g4, g5⟩
    · obtain rfl := Option.some.inj ho
      have a0 : ρ (.tmp 31) = _ := (hval 7 (hdep 7 (by simp)) _ 31 rfl rfl).1.trans (hval 7 (hdep 7 (by simp)) _ 31 rfl rfl).2
      refine .inl ⟨_, V, ?_, rfl, g1, g2, g3, g4, g5⟩
      simp [execOp, go_sem, a0]
      exact hw1
    · obtain rfl := Option.some.inj ho
      have a0 : ρ (.tmp 32) = _ := (hval 8 (hdep 8 (by simp)) _ 32 rfl rfl).1.trans (hval 8 (hdep 8 (by simp)) _ 32 rfl rfl).2
      refine .inl ⟨_, V, ?_, rfl, g1, g2, g3, g4, g5⟩
      simp [execOp, go_sem, a0, hc]
      exact hw2
    · obtain rfl := Option.some.inj ho
      refine .inl ⟨_, V, ?_, rfl, g1, g2, g3, g4, g5⟩
      simp [execOp, go_sem, t7]
    · obtain rfl := Option.some.inj ho
      have d13 : D 13 = false := by
        cases h4 : D 13 with
        | false => rfl
        | true => exact absurd (hclos 13 h4 11 (by simp)) (by rw [show D 11 = false from hDi]; simp)
      have d15 : D 15 = false := by
        cases h4 : D 15 with
        | false => rfl
        | true => exact absurd (hclos 13 (hclos 15 h4 13 (by simp)) 11 (by simp)) (by rw [show D 11 = false from hDi]; simp)
      have a0 : ρ (.tmp 34) = _ := (hval 10 (hdep 10 (by simp)) _ 34 rfl rfl).1.trans (hval 10 (hdep 10 (by simp)) _ 34 rfl rfl).2
      have a1 : ρ (.tmp 26) = _ := (hval 2 (hdep 2 (by simp)) _ 26 rfl rfl).1.trans (hval 2 (hdep 2 (by simp)) _ 26 rfl rfl).2
      replace hDi : D 11 = false := hDi
      simp only [hDi, d13, d15, Bool.false_eq_true, if_false, if_true] at g1
      have f1 : V.frozen? ⟨W1.heap.size, 37, none⟩ = false := by simp [World.frozen?, g1]
      have f2 : V.cell? ⟨W1.heap.size, 37, none⟩ = some (.bool false) := by rw [cell_of_row _ _ _ _ _ _ g1]; exact pkAt rfl rfl 3 _ rfl
      have s1 := setCell_at g1 37 (.bool mk.wh)
      rw [show (pkC (adC p q r s) (adC p' q' r' s') proto hops id ⟨false, false, 0⟩ (.slice none 0 0)).setIfInBounds 37 (.bool mk.wh) = pkC (adC p q r s) (adC p' q' r' s') proto hops id ⟨mk.wh, false, 0⟩ (.slice none 0 0) from by simp [pkC]] at s1
      have hg := grown_setCell V W1.heap.size 37 (.bool mk.wh)
      refine .inr (.inl ⟨V.setCell ⟨W1.heap.size, 37, none⟩ (.bool mk.wh), ?_, trivial, ?_, by rw [hg.block (W1.heap.size + 1) (by omega) (by intro e; have := Option.some.inj e; omega)]; exact g2, by rw [hg.block w.heap.size (by omega) (by intro e; have := Option.some.inj e; omega)]; exact g3, g4.setCell (show w.heap.size ≤ W1.heap.size by omega) _, Nat.lt_of_lt_of_le g5 hg.size⟩)
      · simp [execOp, go_sem, a0, a1, f1, f2]
      · have e11 : dn D 11 11 = true := rfl
        have e13 : dn D 11 13 = false := d13
        have e15 : dn D 11 15 = false := d15
        simp only [e11, e13, e15, Bool.false_eq_true, if_false, if_true]
        exact s1
    · obtain rfl := Option.some.inj ho
      refine .inl ⟨_, V, ?_, rfl, g1, g2, g3, g4, g5⟩
      simp [execOp, go_sem, t7]
    · obtain rfl := Option.some.inj ho
      have d15 : D 15 = false := by
        cases h4 : D 15 with
        | false => rfl
        | true => exact absurd (hclos 15 h4 13 (by simp)) (by rw [show D 13 = false from hDi]; simp)
      have a0 : ρ (.tmp 35) = _ := (hval 12 (hdep 12 (by simp)) _ 35 rfl rfl).1.trans (hval 12 (hdep 12 (by simp)) _ 35 rfl rfl).2
      have a1 : ρ (.tmp 29) = _ := (hval 5 (hdep 5 (by simp)) _ 29 rfl rfl).1.trans (hval 5 (hdep 5 (by simp)) _ 29 rfl rfl).2
      replace hDi : D 13 = false := hDi
      have d11 := hdep 11 (by simp)
      simp only [hDi, d11, d15, Bool.false_eq_true, if_false, if_true] at g1
      have f1 : V.frozen? ⟨W1.heap.size, 38, none⟩ = false := by simp [World.frozen?, g1]
      have f2 : V.cell? ⟨W1.heap.size, 38, none⟩ = some (.bool false) := by rw [cell_of_row _ _ _ _ _ _ g1]; exact pkAt rfl rfl 4 _ rfl
      have s1 := setCell_at g1 38 (.bool mk.mo)
      rw [show (pkC (adC p q r s) (adC p' q' r' s') proto hops id ⟨mk.wh, false, 0⟩ (.slice none 0 0)).setIfInBounds 38 (.bool mk.mo) = pkC (adC p q r s) (adC p' q' r' s') proto hops id ⟨mk.wh, mk.mo, 0⟩ (.slice none 0 0) from by simp [pkC]] at s1
      have hg := grown_setCell V W1.heap.size 38 (.bool mk.mo)
      refine .inr (.inl ⟨V.setCell ⟨W1.heap.size, 38, none⟩ (.bool mk.mo), ?_, trivial, ?_, by rw [hg.block (W1.heap.size + 1) (by omega) (by intro e; have := Option.some.inj e; omega)]; exact g2, by rw [hg.block w.heap.size (by omega) (by intro e; have := Option.some.inj e; omega)]; exact g3, g4.setCell (show w.heap.size ≤ W1.heap.size by omega) _, Nat.lt_of_lt_of_le g5 hg.size⟩)
      · simp [execOp, go_sem, a0, a1, f1, f2]
      · have e11 : dn D 13 11 = true := d11
        have e13 : dn D 13 13 = true := rfl
        have e15 : dn D 13 15 = false := d15
        simp only [e11, e13, e15, Bool.false_eq_true, if_false, if_true]
        exact s1
    · obtain rfl := Option.some.inj ho
      refine .inl ⟨_, V, ?_, rfl, g1, g2, g3, g4, g5⟩
      simp [execOp, go_sem, t7]
    · obtain rfl := Option.some.inj ho
      have a0 : ρ (.tmp 36) = _ := (hval 14 (hdep 14 (by simp)) _ 36 rfl rfl).1.trans (hval 14 (hdep 14 (by simp)) _ 36 rfl rfl).2
      have a1 : ρ (.tmp 33) = _ := (hval 9 (hdep 9 (by simp)) _ 33 rfl rfl).1.trans (hval 9 (hdep 9 (by simp)) _ 33 rfl rfl).2
      replace hDi : D 15 = false := hDi
      have d13 := hdep 13 (by simp)
      have d11 := hclos 13 d13 11 (by simp)
      simp only [hDi, d13, d11, Bool.false_eq_true, if_false, if_true] at g1
      have f1 : V.frozen? ⟨W1.heap.size, 39, none⟩ = false := by simp [World.frozen?, g1]
      have f2 : V.cell? ⟨W1.heap.size, 39, none⟩ = some (.int .i64 0) := by rw [cell_of_row _ _ _ _ _ _ g1]; exact pkAt rfl rfl 5 _ rfl
      have s1 := setCell_at g1 39 (.int .i64 (mk.off : Nat))
      rw [show (pkC (adC p q r s) (adC p' q' r' s') proto hops id ⟨mk.wh, mk.mo, 0⟩ (.slice none 0 0)).setIfInBounds 39 (.int .i64 (mk.off : Nat)) = pkC (adC p q r s) (adC p' q' r' s') proto hops id mk (.slice none 0 0) from by simp [pkC]] at s1
      have hg := grown_setCell V W1.heap.size 39 (.int .i64 (mk.off : Nat))
      refine .inr (.inl ⟨V.setCell ⟨W1.heap.size, 39, none⟩ (.int .i64 (mk.off : Nat)), ?_, trivial, ?_, by rw [hg.block (W1.heap.size + 1) (by omega) (by intro e; have := Option.some.inj e; omega)]; exact g2, by rw [hg.block w.heap.size (by omega) (by intro e; have := Option.some.inj e; omega)]; exact g3, g4.setCell (show w.heap.size ≤ W1.heap.size by omega) _, Nat.lt_of_lt_of_le g5 hg.size⟩)
      · simp [execOp, go_sem, a0, a1, f1, f2]
      · have e11 : dn D 15 11 = true := d11
        have e13 : dn D 15 13 = true := d13
        have e15 : dn D 15 15 = true := rfl
        simp only [e11, e13, e15, Bool.false_eq_true, if_false, if_true]
        exact s1
    · simp at ho
  case fin =>
    intro a V D val hG hall hsz hdf hF hbase
    obtain ⟨g1, g2, g3, g4, g5⟩ := hG
    simp only [hall 11 (by decide), hall 13 (by decide), hall 15 (by decide), if_true] at g1
    have e := Go.Rg.tmps_all a
    rw [hsz] at e
    simp only [List.range, List.range.loop, List.map_cons, List.map_nil] at e
    have b0 := hbase 0 (by kernel_rfl)
    have b2 := hbase 2 (by kernel_rfl)
    have b3 := hbase 3 (by kernel_rfl)
    have b4 := hbase 4 (by kernel_rfl)
    have b5 := hbase 5 (by kernel_rfl)
    have b7 := hbase 7 (by kernel_rfl)
    have b8 := hbase 8 (by kernel_rfl)
    rw [b0, b2, b3, b4, b5, b7, b8] at e
    replace hdf : a.defers = [] := hdf
    have ea := Go.Rg.act_eq e hdf
    show K a V
    refine hK _ _ ?_
    rw [ea]
    clear ea e b0 b2 b3 b4 b5 b7 b8 hbase hF hall hK hdf
    generalize a.tmps.getD 1 undef = u1
    generalize a.tmps.getD 6 undef = u6
    generalize a.tmps.getD 9 undef = u9
    generalize a.tmps.getD 10 undef = u10
    generalize a.tmps.getD 11 undef = u11
    generalize a.tmps.getD 12 undef = u12
    generalize a.tmps.getD 13 undef = u13
    generalize a.tmps.getD 14 undef = u14
    generalize a.tmps.getD 15 undef = u15
    generalize a.tmps.getD 16 undef = u16
    generalize a.tmps.getD 17 undef = u17
    generalize a.tmps.getD 18 undef = u18
    generalize a.tmps.getD 19 undef = u19
    generalize a.tmps.getD 20 undef = u20
    generalize a.tmps.getD 21 undef = u21
    generalize a.tmps.getD 22 undef = u22
    generalize a.tmps.getD 23 undef = u23
    generalize a.tmps.getD 24 undef = u24
    generalize a.tmps.getD 25 undef = u25
    generalize a.tmps.getD 26 undef = u26
    generalize a.tmps.getD 27 undef = u27
    generalize a.tmps.getD 28 undef = u28
    generalize a.tmps.getD 29 undef = u29
    generalize a.tmps.getD 30 undef = u30
    generalize a.tmps.getD 31 undef = u31
    generalize a.tmps.getD 32 undef = u32
    generalize a.tmps.getD 33 undef = u33
    generalize a.tmps.getD 34 undef = u34
    generalize a.tmps.getD 35 undef = u35
    generalize a.tmps.getD 36 undef = u36
    generalize a.tmps.getD 37 undef = u37
    generalize a.tmps.getD 38 undef = u38
    generalize a.tmps.getD 39 undef = u39
    generalize a.tmps.getD 40 undef = u40
    generalize a.tmps.getD 41 undef = u41
    generalize a.tmps.getD 42 undef = u42
    generalize a.tmps.getD 43 undef = u43
    generalize a.tmps.getD 44 undef = u44
    generalize a.tmps.getD 45 undef = u45
    generalize a.tmps.getD 46 undef = u46
    generalize a.tmps.getD 47 undef = u47
    generalize a.tmps.getD 48 undef = u48
    generalize a.tmps.getD 49 undef = u49
    generalize a.tmps.getD 50 undef = u50
    generalize a.tmps.getD 51 undef = u51
    generalize a.tmps.getD 52 undef = u52
    clear hsz hI1 hI2 hI3 hN1 hN2 hw1 hw2 hPb hMm hT5 hB4 hsz4
    have hvV := h.below g4
    obtain ⟨bb, oo, cc, rfl, hc1, hc2, _⟩ := hvV.open (by omega)
    have hsub : BytesAt V (.slice (some ⟨bb, oo + 20, none⟩) d.length (cc - 20)) d := by
      have := hvV.sub 20 d.length (cc - 20) (by omega) (by omega) (by omega)
      rw [HLL.out] at this
      have e5 : (List.drop 20 ([69, 0, (20 + d.length) / 256, (20 + d.length) % 256, id / 256, id % 256, mk.word / 256, mk.word % 256, hops, proto, c1, c2, p, q, r, s, p', q', r', s'] ++ d)).take d.length = d := List.take_of_length_le (by simp)
      rw [e5] at this; exact this
    have hcl := clone _ d V hsub (by omega)
    have f1 : V.frozen? ⟨W1.heap.size, 40, none⟩ = false := by simp [World.frozen?, g1]
    have f2 : V.cell? ⟨W1.heap.size, 40, none⟩ = some (.slice none 0 0) := by rw [cell_of_row _ _ _ _ _ _ g1]; exact pkAt rfl rfl 6 _ rfl
    have hLi : (L.length : Int) = 20 + d.length := by omega
    clear hsub hvV
    go_upto_region 10 with (first
      | (go_at_call 113; refine hcl.mono ?_; rintro e W5 ⟨v5, rfl, ho5, hb5⟩; obtain ⟨g, cap, rfl, hg1, hg2⟩ := ho5.open hd; have f1 : W5.frozen? ⟨W1.heap.size, 40, none⟩ = false := (by simp [World.frozen?, hb5.block W1.heap.size (by omega), g1]); have f2 : W5.cell? ⟨W1.heap.size, 40, none⟩ = some (.slice none 0 0) := (by rw [cell_of_row _ W1.heap.size _ _ _ _ (by rw [hb5.block W1.heap.size (by omega)]; exact g1)]; exact pkAt rfl rfl 6 _ rfl)))
    have k1 := setCell_at (show W5.heap[W1.heap.size]? = _ by rw [hb5.block W1.heap.size (by omega)]; exact g1) 40 (.slice (some ⟨g, 0, none⟩) d.length cap)
    rw [show (pkC (adC p q r s) (adC p' q' r' s') proto hops id mk (.slice none 0 0)).setIfInBounds 40 (.slice (some ⟨g, 0, none⟩) d.length cap) = (pkC (adC p q r s) (adC p' q' r' s') proto hops id mk (.slice (some ⟨g, 0, none⟩) d.length cap)) from by simp [pkC]] at k1
    have hgr := grown_setCell W5 W1.heap.size 40 (.slice (some ⟨g, 0, none⟩) d.length cap)
    have k2 : (W5.setCell ⟨W1.heap.size, 40, none⟩ (.slice (some ⟨g, 0, none⟩) d.length cap)).heap[W1.heap.size + 1]? = some (.cells #[.int .u64 mk.word] 136) := by
      rw [hgr.block (W1.heap.size + 1) (by have := hb5.size; omega) (by intro e; have := Option.some.inj e; omega), hb5.block _ (by omega)]; exact g2
    have k3 : (W5.setCell ⟨W1.heap.size, 40, none⟩ (.slice (some ⟨g, 0, none⟩) d.length cap)).heap[w.heap.size]? = some (.cells Z 55) := by
      rw [hgr.block w.heap.size (by have := hb5.size; omega) (by intro e; have := Option.some.inj e; omega), hb5.block _ (by omega)]; exact g3
    have k4 : Below w.heap.size w (W5.setCell ⟨W1.heap.size, 40, none⟩ (.slice (some ⟨g, 0, none⟩) d.length cap)) := (g4.trans (hb5.mono (by omega))).setCell (show w.heap.size ≤ W1.heap.size by omega) _
    have k5 := ho5.kept hgr (by intro e; have := Option.some.inj e; omega)
    have k6 : W1.heap.size + 1 < (W5.setCell ⟨W1.heap.size, 40, none⟩ (.slice (some ⟨g, 0, none⟩) d.length cap)).heap.size := by have := hgr.size; have := hb5.size; omega
    have hVs6 : V.heap.size ≤ (W5.setCell ⟨W1.heap.size, 40, none⟩ (.slice (some ⟨g, 0, none⟩) d.length cap)).heap.size := by have := hgr.size; have := hb5.size; omega
    generalize W5.setCell ⟨W1.heap.size, 40, none⟩ (.slice (some ⟨g, 0, none⟩) d.length cap) = W6 at k1 k2 k3 k4 k5 k6 hVs6 ⊢
    clear f1 f2 hgr hb5 ho5 g1 g2 g3 hcl
    have hI : intA .and .u64 (mk.word : Nat) .u64 32768 = some (.int .u64 (0 : Nat)) := and_gen mk.word 32768 _ (by omega) (by omega) (word_odd mk hoff)
    have cM : W6.cell? ⟨W1.heap.size + 1, 0, none⟩ = some (.int .u64 mk.word) := by rw [cell_of_row _ _ _ _ _ _ k2]; rfl
    have hLd : (loadVar 55 ⟨W1.heap.size, 0, none⟩).run Tryz.prog W6 = .ok (.agg (pkC (adC p q r s) (adC p' q' r' s') proto hops id mk (.slice (some ⟨g, 0, none⟩) d.length cap))) W6 :=
      run_loadVar_row _ _ 55 55 _ (0, 0) _ k1 Tryz.underlying55 rfl (info41 _ (by simp [pkC]))
    have hMay := pmay p q r s p' q' r' s' proto hops id mk hA hB hid (.slice (some ⟨g, 0, none⟩) d.length cap) d hmk W6 k5.at (by omega)
    go_upto_region 12 with (first
      | (refine Go.Hm.wpList_exec rfl (exec_bin rfl rfl rfl hI) ?_)
      | (refine wpList_load_aggG rfl 55 _ rfl _ rfl (pkC (adC p q r s) (adC p' q' r' s') proto hops id mk (.slice (some ⟨g, 0, none⟩) d.length cap)) hLd ?_)
      | (go_at_call 185; refine hMay.mono ?_; rintro e W7 ⟨rfl, hb7⟩))
    have l1 : W7.heap[W1.heap.size]? = some (.cells (pkC (adC p q r s) (adC p' q' r' s') proto hops id mk (.slice (some ⟨g, 0, none⟩) d.length cap)) 55) := by rw [hb7.block _ (by omega)]; exact k1
    have l3 : W7.heap[w.heap.size]? = some (.cells Z 55) := by rw [hb7.block _ (by omega)]; exact k3
    have hLd7 : (loadVar 55 ⟨W1.heap.size, 0, none⟩).run Tryz.prog W7 = .ok (.agg (pkC (adC p q r s) (adC p' q' r' s') proto hops id mk (.slice (some ⟨g, 0, none⟩) d.length cap))) W7 :=
      run_loadVar_row _ _ 55 55 _ (0, 0) _ l1 Tryz.underlying55 rfl (info41 _ (by simp [pkC]))
    have hZs : Z.size = 41 := by rw [HZ.out]; simp [pkC]
    have hst : (storeVar 55 ⟨w.heap.size, 0, none⟩ (.agg (pkC (adC p q r s) (adC p' q' r' s') proto hops id mk (.slice (some ⟨g, 0, none⟩) d.length cap)))).run Tryz.prog W7 = .ok () (W7.setRow w.heap.size (pkC (adC p q r s) (adC p' q' r' s') proto hops id mk (.slice (some ⟨g, 0, none⟩) d.length cap))) :=
      run_storeVar_row W7 w.heap.size _ 55 _ _ l3 (info41 _ (by simp [pkC])) (by rw [hZs]; simp [pkC]) (by simp [pkC, Value.oneCell'])
    have hl2 : (loadVar 55 ⟨w.heap.size, 0, none⟩).run Tryz.prog (W7.setRow w.heap.size (pkC (adC p q r s) (adC p' q' r' s') proto hops id mk (.slice (some ⟨g, 0, none⟩) d.length cap))) = .ok (.agg (pkC (adC p q r s) (adC p' q' r' s') proto hops id mk (.slice (some ⟨g, 0, none⟩) d.length cap))) (W7.setRow w.heap.size (pkC (adC p q r s) (adC p' q' r' s') proto hops id mk (.slice (some ⟨g, 0, none⟩) d.length cap))) :=
      run_loadVar_row _ _ 55 55 _ (0, 0) _ (setRow_heap _ _ _ _ _ _ l3) Tryz.underlying55 rfl (info41 _ (by simp [pkC]))
    have k7 := (k5.below hb7).kept (grown_setRow W7 w.heap.size (pkC (adC p q r s) (adC p' q' r' s') proto hops id mk (.slice (some ⟨g, 0, none⟩) d.length cap))) (by intro e; have := Option.some.inj e; omega)
    have k8 : Below w.heap.size w (W7.setRow w.heap.size (pkC (adC p q r s) (adC p' q' r' s') proto hops id mk (.slice (some ⟨g, 0, none⟩) d.length cap))) := (k4.trans (hb7.mono (by omega))).trans (setRow_below _ _ _ _ (Nat.le_refl _))
    go_wp2_with (first
      | (refine wpList_load_agg rfl 55 _ rfl _ rfl (pkC (adC p q r s) (adC p' q' r' s') proto hops id mk (.slice (some ⟨g, 0, none⟩) d.length cap)) hLd7 ?_)
      | (refine wpList_store_agg rfl 55 _ _ rfl ⟨w.heap.size, 0, none⟩ rfl (.agg (pkC (adC p q r s) (adC p' q' r' s') proto hops id mk (.slice (some ⟨g, 0, none⟩) d.length cap))) rfl (W7.setRow w.heap.size (pkC (adC p q r s) (adC p' q' r' s') proto hops id mk (.slice (some ⟨g, 0, none⟩) d.length cap))) hst ?_))
    exact bodyPost_ret (results_cell_tmp (p := ⟨w.heap.size, 0, none⟩) (c := (pkC (adC p q r s) (adC p' q' r' s') proto hops id mk (.slice (some ⟨g, 0, none⟩) d.length cap))) (v := .int .i64 0) Tryz.results103 (by simp) hl2 (by simp)) rfl ⟨_, rfl, k7.mono (by omega), k8⟩
end Go.Ch
