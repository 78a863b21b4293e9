/- NetChances: the hooks are sound. -/
import Derived.Test.YtecihapafnpgbaaGreatChS
set_option linter.unusedSimpArgs false
set_option linter.unusedVariables false
set_option linter.constructorNameAsVariable false
set_option linter.unusedSectionVars false
namespace Go.Ch
open Go Go.Am Go.Hm Go.Proofs Go.RowKit
set_option maxRecDepth 100000
section
variable {base : Nat} (d : List Nat) (hd : ∀ b ∈ d, b < 256) (hl : d.length ≤ 1000) (f : Nat → Nat)
theorem out1_rel [Env] (σ : Sg) (v v' : Value) (h : VRel σ v v') : VRel σ (out1 v) (out1 v') := (LRel.cons h (LRel.cons (.int _ _) .nil)).tuple
theorem flat_rel [Env] (σ : Sg) (a b : List Value) (ha : a.all (isFlat 10) = true) (hb : b.all (isFlat 10) = true) (v v' : Value) (h : VRel σ v v') : LRel σ (a ++ v :: b) (a ++ v' :: b) :=
  (LRel.flat fun x hx => isFlat_flat _ _ (List.all_eq_true.1 ha x hx)).append (.cons h (LRel.flat fun x hx => isFlat_flat _ _ (List.all_eq_true.1 hb x hx)))
theorem outM_rel [Env] (k : Nat) (σ : Sg) (v v' : Value) (h : VRel σ v v') : VRel σ (outM k v) (outM k v') :=
  (LRel.cons (flat_rel σ [i k, u 0, uh 1, uh 1, uw 0] [] rfl rfl v v' h).agg (LRel.cons (.int _ _) .nil)).tuple
theorem outP_rel [Env] (s d n : Nat) (σ : Sg) (v v' : Value) (h : VRel σ v v') : VRel σ (outP s d n v) (outP s d n v') :=
  (LRel.cons (flat_rel σ (adv s ++ adv d ++ [u 1, u 64, uw n, ff, ff, i 0]) [] (by simp [adv, isFlat]) rfl v v' h).agg (LRel.cons (.int _ _) .nil)).tuple
theorem hkLay_ok : @CallOk (envN d hd hl f) Tryz.prog base 32 hkLay := by
  letI : Env := envN d hd hl f
  refine hPat_ok ⟨_, Tryz.func32, by kernel_rfl, by kernel_rfl⟩ (by kernel_rfl) (fun σ v v' h => out1_rel σ v v' h) (fun w x' hx => lay 1 1 1 10 0 0 1 10 0 0 2 (.inl rfl) (by omega) (by omega) x' d w hx (by omega)) ?_
  exact hPat_ok ⟨_, Tryz.func32, by kernel_rfl, by kernel_rfl⟩ (by kernel_rfl) (fun σ v v' h => out1_rel σ v v' h) (fun w x' hx => lay 2 1 1 10 0 0 2 10 0 0 1 (.inr rfl) (by omega) (by omega) x' d w hx (by omega)) (hNo_ok _)
theorem hkPar_ok : @CallOk (envN d hd hl f) Tryz.prog base 116 hkPar := by
  letI : Env := envN d hd hl f
  refine hPat_ok ⟨_, Tryz.func116, by kernel_rfl, by kernel_rfl⟩ (by kernel_rfl) (fun σ v v' h => outM_rel 1 σ v v' h) (fun w x' hx => icmpParse 1 1 1 10 0 0 1 10 0 0 2 (.inl rfl) (by omega) (by omega) x' d w (by omega) hx) ?_
  exact hPat_ok ⟨_, Tryz.func116, by kernel_rfl, by kernel_rfl⟩ (by kernel_rfl) (fun σ v v' h => outM_rel 2 σ v v' h) (fun w x' hx => icmpParse 2 1 1 10 0 0 2 10 0 0 1 (.inr rfl) (by omega) (by omega) x' d w (by omega) hx) (hNo_ok _)
theorem ok0 (n : Nat) (h : n ≤ 65515) : Mk.ok m0 n := ⟨rfl, (by show 0 + n ≤ 65515; omega), (fun h => by cases h), (fun h => by cases h)⟩
theorem hkIpL_ok : @CallOk (envN d hd hl f) Tryz.prog base 167 hkIpL := by
  letI : Env := envN d hd hl f
  have hn1 := layL_len 1 1 1 d
  have hn2 := layL_len 2 1 1 d
  refine hPat_ok ⟨_, Tryz.func167, by kernel_rfl, by kernel_rfl⟩ (by kernel_rfl) (fun σ v v' h => out1_rel σ v v' h) (fun w x' hx => ipLay 10 0 0 1 10 0 0 2 1 64 1 m0 (by decide) (by decide) (by decide) (by decide) (by decide) (by decide) x' (layL 1 1 1 d) (ok0 _ (by omega)) w hx (by omega)) ?_
  refine hPat_ok ⟨_, Tryz.func167, by kernel_rfl, by kernel_rfl⟩ (by kernel_rfl) (fun σ v v' h => out1_rel σ v v' h) (fun w x' hx => ipLay 10 0 0 2 10 0 0 1 1 64 1 m0 (by decide) (by decide) (by decide) (by decide) (by decide) (by decide) x' (layL 2 1 1 d) (ok0 _ (by omega)) w hx (by omega)) ?_
  exact hPat_ok ⟨_, Tryz.func167, by kernel_rfl, by kernel_rfl⟩ (by kernel_rfl) (fun σ v v' h => out1_rel σ v v' h) (fun w x' hx => ipLay 10 0 0 2 10 0 0 1 1 64 2 m0 (by decide) (by decide) (by decide) (by decide) (by decide) (by decide) x' (layL 2 1 1 d) (ok0 _ (by omega)) w hx (by omega)) (hNo_ok _)
theorem hkIpP_ok : @CallOk (envN d hd hl f) Tryz.prog base 103 hkIpP := by
  letI : Env := envN d hd hl f
  have hn1 := layL_len 1 1 1 d
  have hn2 := layL_len 2 1 1 d
  refine hPat_ok ⟨_, Tryz.func103, by kernel_rfl, by kernel_rfl⟩ (by kernel_rfl) (fun σ v v' h => outP_rel 1 2 1 σ v v' h) (fun w x' hx => ipParse 10 0 0 1 10 0 0 2 1 64 1 m0 (by decide) (by decide) (by decide) (by decide) (by decide) (by decide) x' (layL 1 1 1 d) (ok0 _ (by omega)) w (by omega) (by omega) hx) ?_
  refine hPat_ok ⟨_, Tryz.func103, by kernel_rfl, by kernel_rfl⟩ (by kernel_rfl) (fun σ v v' h => outP_rel 2 1 1 σ v v' h) (fun w x' hx => ipParse 10 0 0 2 10 0 0 1 1 64 1 m0 (by decide) (by decide) (by decide) (by decide) (by decide) (by decide) x' (layL 2 1 1 d) (ok0 _ (by omega)) w (by omega) (by omega) hx) ?_
  exact hPat_ok ⟨_, Tryz.func103, by kernel_rfl, by kernel_rfl⟩ (by kernel_rfl) (fun σ v v' h => outP_rel 2 1 2 σ v v' h) (fun w x' hx => ipParse 10 0 0 2 10 0 0 1 1 64 2 m0 (by decide) (by decide) (by decide) (by decide) (by decide) (by decide) x' (layL 2 1 1 d) (ok0 _ (by omega)) w (by omega) (by omega) hx) (hNo_ok _)
theorem hkCl_ok : @CallOk (envN d hd hl f) Tryz.prog base 113 hkCl := by
  letI : Env := envN d hd hl f
  exact hPat_ok ⟨_, Tryz.func113, by kernel_rfl, by kernel_rfl⟩ (by kernel_rfl) (fun σ v v' h => h) (fun w x' hx => clone x' d w hx (by omega)) (leaf_ok _ _)
theorem hkN_ok {t : List (Nat × Nat × Bool)} (ht : ∀ e ∈ t, f e.1 < 18446744073709551616 ∧ f e.2.1 < 18446744073709551616 ∧ Go.Dr.hitF (f e.1) (f e.2.1) = e.2.2) : @HooksOk (envN d hd hl f) base (hkN t) := by
  letI : Env := envN d hd hl f
  exact hooksOk_put (hooksOk_put (hooksOk_put (hooksOk_put (hooksOk_put (hooksOk_put (hooksOk_put (hooksOk_lf base) (hHits_ok ht)) (hDel_ok (by omega))) (hkLay_ok d hd hl f)) (hkPar_ok d hd hl f)) (hkIpL_ok d hd hl f)) (hkIpP_ok d hd hl f)) (hkCl_ok d hd hl f)
end
end Go.Ch
