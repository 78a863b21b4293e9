/- The abstract machine, part 30: the seat's program. · The abstract machine, part 31: a function taken whole: octets.Try where nothing panics. · The abstract machine, part 32: it is sound of the seat's program. -/
import Derived.Test.YtecihapafnpgbaaGreatAmF
import Derived.Test.YtecihapafnpgbaaGreatProg
import Derived.KernelRfl
set_option linter.unusedSimpArgs false
set_option linter.unusedVariables false
set_option linter.constructorNameAsVariable false
set_option linter.unusedSectionVars false
namespace Go.Am
open Go Go.Proofs
noncomputable def fns : Tr Func := treeOr Tryz.prog.funcs.toList
/-- One more hook. -/
noncomputable def putH (t : Tr Hook) (f : Nat) (h : Hook) : Tr Hook := oC (t.set f (some h)) .lf fun t => t
end Go.Am
namespace Go.Am
open Go Go.Proofs
noncomputable section
/-- octets.Try where the function that it is handed returns. -/
def hTry (call : Nat → Hook) : Hook := fun args m =>
  match args with
  | [.func (.func g) ⟨first⟩ ⟨cap⟩] =>
    (m.new (.cells true 34 [.int .i64 0])).b fun x => p2 x fun b m1 =>
      match call g (first ++ cap) m1 with
      | some (.ret _ m') => (m'.get b).b fun y => bC (eqBlk y (.cells true 34 [.int .i64 0])) (some (.ret (.int .i64 0) m')) none
      | _ => none
  | _ => none
end
end Go.Am
namespace Go.Am
open Go Go.Proofs
set_option maxRecDepth 100000
set_option linter.unusedSectionVars false
variable [Env]
theorem tryz_fit : Fit Tryz.prog := ⟨of_decide_eq_true (by kernel_rfl), by kernel_rfl⟩
theorem tryz_noNumB : (Tryz.prog.funcs.toList.all fun fn => !(fn.name == "runtime.NumGoroutine")) = true := by kernel_rfl
theorem tryz_noNum : NoNum Tryz.prog := by
  intro f fn h
  have h1 := List.all_eq_true.1 tryz_noNumB fn (by
    obtain ⟨h2, h3⟩ := Array.getElem?_eq_some_iff.1 h
    exact h3 ▸ Array.mem_toList_iff.2 (Array.getElem_mem h2))
  simpa using h1
theorem get_lf {α : Type} (n : Nat) : (Tr.lf : Tr α).get n = none := by
  unfold Tr.get
  cases path n with
  | none => rfl
  | some p => cases p <;> first | rfl | simp [Tr.getP]
theorem leaf_ok (base f : Nat) : CallOk Tryz.prog base f (callA Tryz.prog fns .lf 100000 100 f) :=
  call_sim tryz_fit tryz_noNum (fun g h hh => by rw [get_lf] at hh; cases hh) 100000 100 f
/-- Hooks, one by one. -/
def HooksOk (base : Nat) (t : Tr Hook) : Prop := ∀ f h, t.get f = some h → CallOk Tryz.prog base f h
theorem hooksOk_lf (base : Nat) : HooksOk base .lf := fun g h hh => by rw [get_lf] at hh; cases hh
theorem hooksOk_put {base : Nat} {t : Tr Hook} (ht : HooksOk base t) {f : Nat} {h : Hook} (hf : CallOk Tryz.prog base f h) : HooksOk base (putH t f h) := by
  unfold putH
  intro g k hk
  cases hs : t.set f (some h) with
  | none => rw [hs] at hk; rw [show (oC (none : Option (Tr Hook)) .lf fun t => t) = .lf from rfl, get_lf] at hk; cases hk
  | some u =>
    rw [hs] at hk
    have hk : u.get g = some k := hk
    by_cases e : g = f
    · subst e; rw [Tr.set_get hs, if_pos rfl] at hk; cases hk; exact hf
    · rw [Tr.set_get hs, if_neg e] at hk; exact ht g k hk
theorem hooked_ok {base : Nat} {t : Tr Hook} (ht : HooksOk base t) (f : Nat) : CallOk Tryz.prog base f (callA Tryz.prog fns t 100000 100 f) :=
  call_sim tryz_fit tryz_noNum ht 100000 100 f
end Go.Am
