/- 'alive' of law 30 answers true, and leaves all that was there as it was. -/
import Derived.Test.YtecihapafnpgbaaGreatAmH
import Derived.Test.YtecihapafnpgbaaGreatDrA
set_option linter.unusedSimpArgs false
set_option linter.unusedVariables false
set_option linter.constructorNameAsVariable false
set_option linter.unusedSectionVars false
namespace Go.Am
open Go Go.Proofs Go.RowKit
set_option maxRecDepth 100000
/-- A call at flat arguments that is known by a walk. -/
theorem hFlatC_ok {base : Nat} {f : FuncId} {k : Hook} {args1 : List Value} {v2 : Value} (hf : ∃ fn, Tryz.prog.funcs[f]? = some fn ∧ fn.body.isSome = true ∧ (fn.name == "runtime.NumGoroutine") = false)
    (ha1 : (List.all args1 (isFlat 10)) = true) (hv1 : isFlat 10 v2 = true) (hc : ∀ w, Calls Tryz.prog f ⟨args1⟩ w fun e w' => e = .returned v2 ∧ w = w')
    (hk : CallOk Tryz.prog base f k) : CallOk Tryz.prog base f (hFlat args1 v2 k) := by
  intro args m r hr σ w args' rel ha
  replace hr : bC (eqList eqV args args1) (some (.ret v2 m)) (k args m) = some r := hr
  cases hb : eqList eqV args args1 with
  | false => rw [hb] at hr; exact hk args m r hr σ w args' rel ha
  | true =>
    rw [hb] at hr
    have := eqList_eq (fun _ _ => eqV_eq) _ _ hb; subst this
    injection (show some (Ro.ret v2 m) = some r from hr) with hr; subst hr
    have hfa : ∀ v ∈ args, Flat v := fun v hv => isFlat_flat _ _ (List.all_eq_true.1 ha1 v hv)
    have hfv := isFlat_flat _ _ hv1
    have hargs := ha.flat_eq hfa; subst hargs
    refine ⟨?_, (hc w).mono fun e w' he => ?_⟩
    · exact hf
    · obtain ⟨rfl, rfl⟩ := he
      exact ⟨σ, Ext.refl σ m, Below.refl _ w, rel, v2, rfl, hfv.rel⟩
noncomputable def hHit0 : Hook := hFlat [.float .f64 0, .float .f64 0] (.bool false) hNo
noncomputable def hDelay0 : Hook := hFlat [.float .f64 0, .int .i64 1, .float .f64 0] (.int .i64 0) hNo
theorem hHit0_ok (base : Nat) : CallOk Tryz.prog base 235 hHit0 :=
  hFlatC_ok ⟨_, Tryz.func235, by kernel_rfl, by kernel_rfl⟩ (by kernel_rfl) (by kernel_rfl) (fun w => by
    have h := Go.Dr.hit 0 0 (by decide) (by decide) w
    rw [show Go.Dr.hitF 0 0 = false from by kernel_rfl] at h
    exact h) (hNo_ok _)
theorem hDelay0_ok (base : Nat) : CallOk Tryz.prog base 236 hDelay0 :=
  hFlatC_ok ⟨_, Tryz.func236, by kernel_rfl, by kernel_rfl⟩ (by kernel_rfl) (by kernel_rfl) (fun w => Go.Dr.delay0 0 1 0 (by kernel_rfl) (by decide) w) (hNo_ok _)
noncomputable def hk30 : Tr Hook := putH (putH .lf 235 hHit0) 236 hDelay0
theorem hk30_ok (base : Nat) : HooksOk base hk30 := hooksOk_put (hooksOk_put (hooksOk_lf base) (hHit0_ok base)) (hDelay0_ok base)
noncomputable def hkT30 : Tr Hook := putH hk30 182 (hTry (callA Tryz.prog fns hk30 100000 100))
theorem hkT30_ok (base : Nat) : HooksOk base hkT30 := hooksOk_put (hk30_ok base) (hTry_ok base fun b g => hooked_ok (hk30_ok b) g)
theorem alive30_run : isTrueR (callA Tryz.prog fns hkT30 100000 100 15 [] (.mk .lf 0)) = true := by kernel_rfl
theorem alive30 (w : World) : Calls Tryz.prog 15 #[] w fun e w' => e = .returned (.bool true) ∧ Below w.heap.size w w' := by
  obtain ⟨m, hm⟩ := isTrueR_some alive30_run
  obtain ⟨_, h⟩ := hooked_ok (hkT30_ok w.heap.size) 15 [] (.mk .lf 0) _ hm noSg w [] (rel_empty Tryz.prog w 0) LRel.nil
  refine h.mono fun e w' he => ?_
  obtain ⟨σ', _, hb, _, v', rfl, hv⟩ := he
  cases hv
  exact ⟨rfl, hb⟩
end Go.Am
