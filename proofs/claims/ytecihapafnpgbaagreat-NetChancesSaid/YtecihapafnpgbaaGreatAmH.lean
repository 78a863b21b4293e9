/- octets.Try where nothing panics. -/
import Derived.Test.YtecihapafnpgbaaGreatAmG
import Derived.ProofKit
import Derived.Tactics2
import Derived.Recover
set_option linter.unusedSimpArgs false
set_option linter.unusedVariables false
set_option linter.constructorNameAsVariable false
set_option linter.unusedSectionVars false
namespace Go.Am
open Go Go.Proofs Go.RowKit
theorem setCell_same_self {w : World} {b o : Nat} {v : Value} (h : w.cell? ⟨b, o, none⟩ = some v) : w.setCell ⟨b, o, none⟩ v = w := by
  unfold World.setCell
  have : (w.heap.modify b fun x => match x with
      | .cells c elem frozen => .cells (if (none : Option Nat).isSome then c else c.setIfInBounds o v) elem frozen
      | x => x) = w.heap := by
    apply Array.ext
    · simp
    · intro i h1 h2
      rw [Array.getElem_modify]
      split
      · rename_i e
        subst e
        unfold World.cell? at h
        rw [Array.getElem?_eq_getElem h2] at h
        cases hx : w.heap[b] with
        | cells c e f =>
          rw [hx] at h
          have h : c[o]? = some v := by simpa using h
          obtain ⟨h3, h4⟩ := Array.getElem?_eq_some_iff.1 h
          have : c.setIfInBounds o v = c := by
            apply Array.ext
            · simp
            · intro j j1 j2
              rw [Array.getElem_setIfInBounds]
              split
              · rename_i e2; subst e2; exact h4.symm
              · rfl
          simp [this]
        | _ => rfl
      · rfl
  exact congrArg (fun h => ({ w with heap := h } : World)) this
theorem idle386 (p : Addr) (w : World) :
    CallsD Tryz.prog 271 #[.pointer (some p)] .returning w fun e u' w' => e = .returned (.tuple #[]) ∧ u' = .returning ∧ w' = w := by
  have hnn : ∀ w, (binOp .eql 20 .nilIface .nilIface).run Tryz.prog w = .ok (.bool true) w := fun w => by simp [go_sem, Tryz.underlying20]
  refine callsD_of_wpS Tryz.func271 rfl fun c₀ cs hu => ?_
  apply wpS_seq
  apply wpS_region
  simp [wpOpsS, go_sem, recoverD, hu, Tryz.ntmps271, Exit.thenS]
  apply wpS_seq
  apply wpS_seq
  apply wpS_region
  simp [wpOpsS, go_sem, hnn, Exit.thenS]
  refine wpS_cond (t := true) (by simp [Act.eval, Array.replicate]) ?_
  simp only [if_true]
  refine wpS_of_wp (wp_ret ?_)
  cases c₀
  simp_all [bodyPostS, Exit.thenS, results, Tryz.f271]
set_option maxRecDepth 100000 in
set_option maxHeartbeats 1000000 in
theorem try288 (g : Nat) (first cap : List Value) (W : World) (R : Ending → World → Prop)
    (hen : ∀ args w, (callFunc g args).run Tryz.prog w = .ok (.enter g args) w)
    (hcall : Calls Tryz.prog g ⟨first ++ cap⟩ (W.alloc (.cells #[.int .i64 0] 34)) R)
    (hret : ∀ e w', R e w' → (∃ v, e = .returned v) ∧ w'.cell? ⟨W.heap.size, 0, none⟩ = some (.int .i64 0) ∧ w'.frozen? ⟨W.heap.size, 0, none⟩ = false) :
    Calls Tryz.prog 182 #[.func (.func g) ⟨first⟩ ⟨cap⟩] W fun e W' => e = .returned (.int .i64 0) ∧ ∃ e', R e' W' := by
  go_enter_defers Tryz.func182, Tryz.ntmps182
  have hmf : ∀ (fn : Fn) (first cap : Array Value) (w : World), (Instr.makeFunc fn first cap).run Tryz.prog w = .ok (.func fn first cap) w := fun _ _ _ _ => rfl
  go_wp2
  rename_i K1 hK1 K hK
  refine hcall.mono fun e w' he => ?_
  obtain ⟨⟨v, rfl⟩, hc, hfz⟩ := hret e w' he
  show K _ _
  refine hK _ _ ?_
  go_wp2
  refine leaves_cons (f := 271) (args := #[.pointer (some ⟨W.heap.size, 0, none⟩)]) (by simp) (by simp [go_sem]) ?_
  refine (idle386 ⟨W.heap.size, 0, none⟩ _).mono ?_
  rintro e u' w'' ⟨rfl, rfl, rfl⟩
  rw [setCell_same_self hc]
  refine ⟨.int .i64 0, ?_, rfl, _, he⟩
  simp [results, Tryz.f182, go_sem, hc]

theorem hTry_ok (base : Nat) {call : Nat → Hook} (hcall : ∀ base g, CallOk Tryz.prog base g (call g)) : CallOk Tryz.prog base 182 (hTry call) := by
  intro args m r hr σ w args' rel ha
  unfold hTry at hr
  split at hr
  · rename_i g first cap
    obtain ⟨⟨b, m1⟩, hn, hr⟩ := b_some.1 hr
    have hr : (match call g (first ++ cap) m1 with
      | some (.ret _ m') => (m'.get b).b fun y => bC (eqBlk y (.cells true 34 [.int .i64 0])) (some (Ro.ret (.int .i64 0) m')) none
      | _ => none) = some r := hr
    split at hr
    · rename_i v0 m' hcl
      obtain ⟨y, hy, hr⟩ := b_some.1 hr
      cases hq : eqBlk y (.cells true 34 [.int .i64 0]) with
      | false => rw [hq] at hr; cases hr
      | true =>
        rw [hq] at hr
        have := eqBlk_eq hq; subst this
        injection (show some (Ro.ret (.int .i64 0) m') = some r from hr) with hr; subst hr
        obtain ⟨v1, t1, rfl, k1, ha1⟩ := ha.head
        obtain rfl := ha1.nil_inv
        cases k1 with
        | func _ h1 h2 h3 h4 =>
          rename_i as' bs'
          obtain ⟨r1, r2, r3⟩ := rel.newRow hn (l' := [.int .i64 0]) (LRel.cons (VRel.int _ _) LRel.nil) 1 1 0 (by kernel_rfl) (arr := #[.int .i64 0]) rfl (by simp) (by simp) (0, 0) (.inl rfl)
          obtain ⟨hf, hc⟩ := hcall base g (first ++ cap) m1 _ hcl _ _ (as' ++ bs') r1 (LRel.append (LRel.mono r2.sub ⟨h1, h2⟩) (LRel.mono r2.sub ⟨h3, h4⟩))
          refine ⟨⟨Tryz.f182, Tryz.func182, rfl, by kernel_rfl⟩, ?_⟩
          obtain ⟨fn, hf1, hf2, hf3⟩ := hf
          refine (try288 g as' bs' w _ (fun args w => run_callFunc hf1 hf2 hf3 w) hc ?_).mono fun e W' he => ?_
          · rintro e w' ⟨σ', e1, e2, e3, v', rfl, e4⟩
            refine ⟨⟨v', rfl⟩, ?_⟩
            obtain ⟨_, _, _, _, arr, fz, g4, g5, g6, g7⟩ := e3.cells b true 34 _ hy _ (e1.sub _ _ (place_same b _))
            obtain ⟨u, hu, hur⟩ := g7 0 _ rfl
            cases hur
            refine ⟨by rw [cell_of g4]; exact hu, ?_⟩
            have hsz : 0 < arr.size := by
              have := (Array.getElem?_eq_some_iff.1 hu).1; omega
            simp only [World.frozen?, g4]
            rcases g6 with h | ⟨h, _⟩
            · simp [h]
            · simp; omega
          · obtain ⟨rfl, e', σ', e1, e2, e3, v', rfl, e4⟩ := he
            exact ⟨σ', r2.trans e1, r3.trans e2, e3, _, rfl, VRel.int _ _⟩
    · cases hr
  · cases hr
end Go.Am
