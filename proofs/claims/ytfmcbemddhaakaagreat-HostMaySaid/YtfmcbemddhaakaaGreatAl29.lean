/- alive29: its hooks are right. · alive29: what it does. · 'alive' of law 29 answers true, and leaves all that was there as it was. -/
import Derived.Test.YtfmcbemddhaakaaGreatAl29T
import Derived.Test.YtfmcbemddhaakaaGreatAmH
import Derived.Test.YtfmcbemddhaakaaGreatAl29R
set_option linter.unusedSimpArgs false
set_option linter.unusedVariables false
set_option linter.constructorNameAsVariable false
namespace Go.Am
open Go Go.Proofs
theorem hk29b_ok (base : Nat) : HooksOk base hk29b :=
  hooksOk_put (hooksOk_put (hooksOk_put (hooksOk_put (hooksOk_put (hooksOk_lf base) (hAppendSeq_ok base)) (hNew_ok base)) (hEnc_ok base)) (hDouble_ok base)) (hMask_ok base)
theorem hk29_ok (base : Nat) : HooksOk base hk29 :=
  hooksOk_put (hk29b_ok base) (hTry_ok base fun b g => hooked_ok (hk29b_ok b) g)
theorem hk29_call (base f : Nat) : CallOk Tryz.prog base f (callA Tryz.prog fns hk29 100000 100 f) := hooked_ok (hk29_ok base) f
end Go.Am
namespace Go.Am
open Go Go.Proofs
set_option maxRecDepth 100000
theorem hCutArrive_ok (base : Nat) : CallOk Tryz.prog base 58 hCutArrive :=
  hAt_ok (g := callA Tryz.prog fns hk29 100000 100 58) (hk29_call base 58) (
  hAt_ok (g := callA Tryz.prog fns hk29 100000 100 58) (hk29_call base 58) (
  hAt_ok (g := callA Tryz.prog fns hk29 100000 100 58) (hk29_call base 58) (
  hAt_ok (g := callA Tryz.prog fns hk29 100000 100 58) (hk29_call base 58) (
  hNo_ok 58
  ) cut5_ok
  ) cut3_ok
  ) cut2_ok
  ) cut1_ok
theorem hCutConnect_ok (base : Nat) : CallOk Tryz.prog base 38 hCutConnect :=
  hAt_ok (g := callA Tryz.prog fns hk29 100000 100 38) (hk29_call base 38) (
  hNo_ok 38
  ) cut0_ok
theorem hCutWrite_ok (base : Nat) : CallOk Tryz.prog base 41 hCutWrite :=
  hAt_ok (g := callA Tryz.prog fns hk29 100000 100 41) (hk29_call base 41) (
  hNo_ok 41
  ) cut4_ok
end Go.Am
namespace Go.Am
open Go Go.Proofs Go.RowKit
theorem hkC29_ok (base : Nat) : HooksOk base hkC29 :=
  hooksOk_put (hooksOk_put (hooksOk_put (hk29_ok base) (hCutArrive_ok base)) (hCutConnect_ok base)) (hCutWrite_ok base)
theorem alive29 (w : World) : Calls Tryz.prog 7 #[] w fun e w' => e = .returned (.bool true) ∧ Below w.heap.size w w' := by
  obtain ⟨m, hm⟩ := isTrueR_some alive29_run
  obtain ⟨_, h⟩ := hooked_ok (hkC29_ok w.heap.size) 7 [] (.mk .lf 0) _ hm noSg w [] (rel_empty Tryz.prog w 0) LRel.nil
  refine h.mono fun e w' he => ?_
  obtain ⟨σ', _, hb, _, v', rfl, hv⟩ := he
  cases hv
  exact ⟨rfl, hb⟩
end Go.Am
