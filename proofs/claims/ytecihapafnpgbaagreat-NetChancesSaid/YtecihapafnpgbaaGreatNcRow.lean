/- NetChances: what comes in: three floats; a row of bytes. · NetChances: the row's closed facts, together. · 'NetChances' is true at every input: three chances, any float whatever, a double's chance and bytes; of a chance that is one each arrival is lost, altered or doubled, of one that is none none is (P30.2, P30.3, P30.9). No condition beyond the row's own. -/
import Derived.Test.YtecihapafnpgbaaGreatChA
import Derived.Test.YtecihapafnpgbaaGreatHmI
import Derived.Deep.Slices
import Derived.OpenShut
import Derived.Laws.Cover2
import Derived.Test.YtecihapafnpgbaaGreatNcJF
import Derived.Test.YtecihapafnpgbaaGreatNc
import Derived.Test.YtecihapafnpgbaaGreatRows
import Derived.WalkKit
import Derived.ProofKit
import Derived.ShutString
import Derived.ChangeOld
import Derived.Below
set_option linter.unusedSimpArgs false
set_option linter.unusedVariables false
set_option linter.constructorNameAsVariable false
set_option linter.unusedSectionVars false
namespace Go.Ch
set_option maxRecDepth 100000
open Go Go.Proofs Go.RowKit Go.ChangeShapes Go.WideShapes Go.Deep
section
variable {H : Type} {enc : TypeId × Value → H} {w : World} {base : Nat} {spare : Nat → Bool} {held : Bool}
theorem cells66 : Tryz.prog.cellsOf 66 = 3 := by kernel_rfl
theorem cells67 : Tryz.prog.cellsOf 65 = 1 := by kernel_rfl
theorem cells5u : Tryz.prog.cellsOf 5 = 1 := by kernel_rfl
theorem trod_f64 {t : TypeId} {fuel : Nat} {cs : List Value} {x : DataW H × List MemPlace} (ht : Tryz.prog.underlying t = some (.float .f64)) (h : DataW.trod enc Tryz.prog w base spare held fuel t cs = some x) :
    ∃ b, cs = [.float .f64 b] ∧ b < 18446744073709551616 := by
  cases fuel with
  | zero => simp [DataW.trod] at h
  | succ n =>
    unfold DataW.trod at h
    rw [ht] at h
    split at h <;> first | (cases h; done) | skip
    all_goals first
      | (rename_i heq; cases heq; done)
      | skip
    rename_i heq
    cases heq
    split at h
    · rename_i hkw
      obtain ⟨rfl, hw⟩ := hkw
      exact ⟨_, rfl, by simpa [Lit.wf] using hw⟩
    · cases h
theorem agg_of {n : Nat} {e t : TypeId} {r : Reach} {b0 : Nat} {v : Value} (ht : Tryz.prog.underlying t = some (.array n e)) (h : Value.okWide Tryz.prog w r b0 t v) : ∃ cs, v = .agg cs ∧ cs.size = Tryz.prog.cellsOf t := by
  simp only [Value.okWide, ht] at h
  obtain ⟨cs, h1, h2, _⟩ := h
  exact ⟨cs, h1, h2⟩
theorem three {cs : List Value} (h : cs.length = 3) : ∃ c1 c2 c3, cs = [c1, c2, c3] := by
  match cs, h with
  | [c1, c2, c3], _ => exact ⟨c1, c2, c3, rfl⟩
theorem open_floats {fuel : Nat} {cs : List Value} {x : DataW H × List MemPlace} (h : DataW.trod enc Tryz.prog w base spare held fuel 66 cs = some x) :
    ∃ f1 f2 f3, cs = [.float .f64 f1, .float .f64 f2, .float .f64 f3] ∧ f1 < 18446744073709551616 ∧ f2 < 18446744073709551616 ∧ f3 < 18446744073709551616 := by
  obtain ⟨ys, m, _, _, hl, hyl, hg⟩ := DataW.trod_array Tryz.underlying66 h
  rw [cells66] at hl
  obtain ⟨c1, c2, c3, rfl⟩ := three hl
  · have h0 := hg 0 (by omega)
    have h1 := hg 1 (by omega)
    have h2 := hg 2 (by omega)
    rw [cells67] at h0 h1 h2
    obtain ⟨f1, e1, l1⟩ := trod_f64 Tryz.underlying65 (h0.trans (List.getElem?_eq_getElem (by omega)))
    obtain ⟨f2, e2, l2⟩ := trod_f64 Tryz.underlying65 (h1.trans (List.getElem?_eq_getElem (by omega)))
    obtain ⟨f3, e3, l3⟩ := trod_f64 Tryz.underlying65 (h2.trans (List.getElem?_eq_getElem (by omega)))
    simp at e1 e2 e3
    subst e1; subst e2; subst e3
    exact ⟨f1, f2, f3, rfl, l1, l2, l3⟩
/-- A row of bytes that came in. -/
theorem open_row {fuel : Nat} {a : Option Addr} {len cap : Nat} {x : DataW H × List MemPlace} (h : DataW.trod enc Tryz.prog w base spare held fuel 26 [.slice a len cap] = some x) :
    ∃ l : List Nat, l.length = len ∧ BytesAt w (.slice a len cap) l := by
  rcases open_ints Tryz.underlying26 Tryz.underlying5 cells5u h with ⟨hcs, _⟩ | ⟨a', len', cap', zs, hcs, _, hl, hm, hz, _, hcell, hwz⟩
  · simp at hcs
    obtain ⟨rfl, rfl, rfl⟩ := hcs
    exact ⟨[], rfl, by simp, none, 0, rfl, by simp, by simp [maxLen], by simp⟩
  · simp at hcs
    obtain ⟨rfl, rfl, rfl⟩ := hcs
    have hzl : len ≤ zs.length := by rw [hz]; split <;> omega
    have hlen : ((zs.take len).map Int.toNat).length = len := by simp; omega
    refine ⟨(zs.take len).map Int.toNat, hlen, ?_, some a', cap, by rw [hlen], by omega, hm, fun i x hx => ?_⟩
    · intro b hb
      simp only [List.mem_map] at hb
      obtain ⟨n, hn, rfl⟩ := hb
      have := bounds_u8 (hwz n (List.mem_of_mem_take hn))
      omega
    · have hi : i < len := by
        have := (List.getElem?_eq_some_iff.1 hx).1
        omega
      have hci := hcell i (by omega)
      have hc0 := hcell 0 (by omega)
      obtain ⟨ab, ao, spot⟩ := a'
      have hspot : spot = none := by simpa [Addr.add] using World.cell?_spot hc0
      subst hspot
      refine ⟨ab, ao, rfl, ?_⟩
      rw [Addr.add_lit] at hci
      rw [hci]
      have hb := range_u8 hwz i
      simp only [List.getElem?_map, List.getElem?_take_of_lt hi] at hx
      rw [List.getElem?_eq_getElem (by omega)] at hx
      simp at hx
      subst hx
      rw [List.getD_eq_getElem?_getD, List.getElem?_eq_getElem (by omega)] 
      rw [List.getElem?_eq_getElem (by omega)] at hb
      simp at hb ⊢
      omega
end
end Go.Ch
namespace Go.Proofs.YtecihapafnpgbaaGreat.lawNetChances
theorem closed : joinedFacts Tryz.prog 4 Tryz.f4 Rows.netChancesSpec Rows.netChancesRow = true := by
  unfold joinedFacts
  rw [j0, j1, j2, j3, j4, j5, j6, j7, j8, j9, j10, j11, j12, j13, j14, j15, j16, j17, j18, j19, j20, j21, j22, j23, j24, j25, j26, j27, j29, j30, j31]
  simp only [Bool.true_and, Bool.and_true]
  kernel_rfl
end Go.Proofs.YtecihapafnpgbaaGreat.lawNetChances
namespace Go.Proofs.YtecihapafnpgbaaGreat.lawNetChances
open Go.ChangeShapes Go.WideShapes Go.ChangeAt Go.RowKit
open Go.ChangeMaps (open_string shut_string)
set_option linter.unusedVariables false
theorem own : ownKnob Tryz.prog.godebug = none := by kernel_rfl
theorem laidOut : laidOutB Tryz.prog = true := by kernel_rfl
theorem walk (f1 f2 f3 dbl : Nat) (hf : f1 < 18446744073709551616 ∧ f2 < 18446744073709551616 ∧ f3 < 18446744073709551616 ∧ dbl < 18446744073709551616) (a : Option Addr) (n c : Nat) (l : List Nat) (hn : l.length = n) (w : World) (hB : Go.Ch.BytesAt w (.slice a n c) l) :
    Calls Tryz.prog 4 #[.agg #[.float .f64 f1, .float .f64 f2, .float .f64 f3], .float .f64 dbl, .slice a n c] w fun e w' => e = .returned (.bool true) ∧ Below w.heap.size w w' := by
  rcases Nat.lt_or_ge 1000 n with h | h
  · exact Go.Ch.law_long f1 f2 f3 dbl a n c h w
  · exact Go.Ch.law_short f1 f2 f3 dbl hf l (by omega) _ w hB
set_option maxRecDepth 100000 in
theorem lifted (os : Os) (started : os.Started) (H : Type) (enc : TypeId × Value → H) :
    ReturnsInHanded {} Tryz.checked os 4 .any (Rows.netChancesSpec.pre6 enc Tryz.prog Tryz.f4 Rows.netChancesRow.domain false) (Rows.netChancesSpec.post enc Tryz.prog Tryz.f4 false true false false) := by
  refine returnsInHanded_of_change (C := Tryz.checked) own started (by kernel_rfl) Tryz.func4
    (ChangeSpec.witness6 (enc := enc) (C := Tryz.checked) false ⟨#[], #[.agg #[.float .f64 0, .float .f64 0, .float .f64 0], .float .f64 0, .slice none 0 0], []⟩ 8 (by kernel_rfl) (by kernel_rfl) (by kernel_rfl) (by kernel_rfl)) ?_
  intro W base args ds gs before hval0 hW hcnd _
  have hval : ∀ (j : Nat) t v, Tryz.f4.params[j]? = some t → args[j]? = some v → Value.okWide Tryz.prog W .any base t v := hval0
  have hW' := hW
  obtain ⟨p, q, hA0, hV, rfl, hfz, hnd⟩ := hW
  have hA : DataW.TrodAll enc Tryz.prog W 0 (fun _ => true) true Tryz.f4.params.toList args.toList ds p := hA0
  rw [Tryz.params4] at hA hval
  obtain ⟨v0, vs0, d0, ds0, p0, q0, hargs, rfl, rfl, h0, r0⟩ := trodAll_cons hA
  obtain ⟨v1, vs1, d1, ds1, p1, q1, rfl, rfl, rfl, h1, r1⟩ := trodAll_cons r0
  obtain ⟨v2, vs2, d2, ds2, p2, q2, rfl, rfl, rfl, h2, r2⟩ := trodAll_cons r1
  obtain ⟨rfl, rfl, rfl⟩ := trodAll_nil r2
  obtain rfl : args = #[v0, v1, v2] := by cases args; simp_all
  obtain ⟨rfl, rfl⟩ := trodVars_none hV
  obtain ⟨cs, rfl, hsz⟩ := Go.Ch.agg_of Tryz.underlying66 (hval 0 66 v0 rfl rfl)
  have k0 := h0
  have lt0 : ∀ x ∈ p0, x.block < W.heap.size := by obtain ⟨m, hm⟩ := k0; exact DataW.trod_lt m _ _ _ hm
  obtain ⟨f1, f2, f3, rfl, l1, l2, l3⟩ : ∃ f1 f2 f3, cs = #[.float .f64 f1, .float .f64 f2, .float .f64 f3] ∧ f1 < 18446744073709551616 ∧ f2 < 18446744073709551616 ∧ f3 < 18446744073709551616 := by
    obtain ⟨fuel, hf⟩ := h0
    obtain ⟨f1, f2, f3, e, r⟩ := Go.Ch.open_floats hf
    refine ⟨f1, f2, f3, ?_, r⟩
    cases cs
    simpa [Value.cells] using e
  obtain ⟨dbl, rfl, rfl, rfl, wd⟩ := open_float Tryz.underlying65 (hval 1 65 v1 rfl rfl) h1
  obtain ⟨a2, len2, cap2, rfl⟩ := okWide_slice Tryz.underlying26 (hval 2 26 v2 rfl rfl)
  have k2 := h2
  have lt2 : ∀ x ∈ p2, x.block < W.heap.size := by obtain ⟨m, hm⟩ := k2; exact DataW.trod_lt m _ _ _ hm
  obtain ⟨l, hll, hB⟩ : ∃ l : List Nat, l.length = len2 ∧ Go.Ch.BytesAt W (.slice a2 len2 cap2) l := by
    obtain ⟨fuel, hf⟩ := h2
    exact Go.Ch.open_row hf
  clear hA0 hval0
  refine (walk f1 f2 f3 dbl ⟨l1, l2, l3, by simpa [Lit.wf] using wd⟩ a2 len2 cap2 l hll W hB).mono fun e W' ⟨he, bel⟩ => ?_
  subst he
  exact ⟨_, rfl, _, _, _, [], _, [], hW', trodAll_mk1 (shut_bool Tryz.underlying4 _), (trodAll_cons_mk (Below.trod laidOut (by kernel_rfl) (of_decide_eq_true (by kernel_rfl)) k0 bel lt0) (trodAll_cons_mk (shut_float Tryz.underlying65 wd) (trodAll_cons_mk (Below.trod laidOut (by kernel_rfl) (of_decide_eq_true (by kernel_rfl)) k2 bel lt2) trodAll_mk0))), rfl, bel.frame _, fun h => by cases h⟩
theorem over : Rows.netChancesRow.holds Tryz.pinned (OpenSpec.ofChange Rows.netChancesSpec) :=
  OpenClaim.holds_of_wide 4 Tryz.f4 rfl rfl rfl rfl rfl rfl rfl ⟨rfl, rfl, rfl, rfl, rfl⟩ rfl rfl rfl rfl rfl (by kernel_rfl) Tryz.func4 closed
    (of_decide_eq_true (by kernel_rfl)) (by unfold Func.isWrapper; first | (rw [if_pos (by decide +kernel)]; kernel_rfl) | (rw [if_neg (by decide +kernel)]; exact ⟨rfl, rfl⟩))
    (fun os started H enc _ => lifted os started H enc)
/-- The statement. -/
theorem proved : Rows.NetChancesSaid := over
end Go.Proofs.YtecihapafnpgbaaGreat.lawNetChances
