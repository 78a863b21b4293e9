/- NetChances: the law. -/
import Derived.Test.YtecihapafnpgbaaGreatChX
import Derived.Test.YtecihapafnpgbaaGreatChY
import Derived.Test.YtecihapafnpgbaaGreatAl30
set_option linter.unusedSimpArgs false
set_option linter.unusedVariables false
set_option linter.constructorNameAsVariable false
set_option linter.unusedSectionVars false
namespace Go.Ch
open Go Go.Am Go.Hm Go.Proofs Go.RowKit
set_option maxRecDepth 100000
theorem run_from (x : Nat) (w : World) : (callFunc 65 #[.int .u64 x]).run Tryz.prog w = .ok (.value (.float .f64 x)) w := by
  rw [run_callFunc_extern (e := Extern.MathFloatBits.float64frombits) Tryz.func65 (by kernel_rfl) (by kernel_rfl) (by kernel_rfl) (by kernel_rfl) _ w]
  rfl
theorem law_long (f1 f2 f3 dbl : Nat) (a : Option Go.Addr) (n c : Nat) (h : 1000 < n) (w : World) :
    Calls Tryz.prog 4 #[.agg #[.float .f64 f1, .float .f64 f2, .float .f64 f3], .float .f64 dbl, .slice a n c] w fun e w' => e = .returned (.bool true) ∧ Below w.heap.size w w' := by
  have e8 : decide ((1000 : Int) < n) = true := by simp; omega
  have hal := fun W => Go.Am.alive30 W
  go_enter Tryz.func4, Tryz.ntmps4
  go_wp2_with (first
    | (go_at_call 15; refine (hal _).mono ?_; rintro e w5 ⟨rfl, hb5⟩))
  go_ret
  exact ⟨rfl, ((Below.refl _ _).alloc (Nat.le_refl _) _).trans (hb5.mono (by simp))⟩
theorem mInf (s : Int) (hs : s = 1 ∨ s = -1) (w : World) : Calls Tryz.prog 16 #[.int .i64 s] w fun e w' => e = .returned (.float .f64 (if s = 1 then 9218868437227405312 else 18442240474082181120)) ∧ w' = w := by
  have h1 : ∀ w, (callFunc 65 #[.int .u64 (9218868437227405312 : Int)]).run Tryz.prog w = .ok (.value (.float .f64 9218868437227405312)) w := run_from 9218868437227405312
  have h2 : ∀ w, (callFunc 65 #[.int .u64 (18442240474082181120 : Int)]).run Tryz.prog w = .ok (.value (.float .f64 18442240474082181120)) w := run_from 18442240474082181120
  go_enter Tryz.func16, Tryz.ntmps16
  rcases hs with rfl | rfl
  all_goals
    go_wp2
    go_ret
    exact ⟨rfl, rfl⟩
theorem mNaN (w : World) : Calls Tryz.prog 18 #[] w fun e w' => e = .returned (.float .f64 9221120237041090561) ∧ w' = w := by
  have h1 : ∀ w, (callFunc 65 #[.int .u64 (9221120237041090561 : Int)]).run Tryz.prog w = .ok (.value (.float .f64 9221120237041090561)) w := run_from 9221120237041090561
  go_enter Tryz.func18, Tryz.ntmps18
  go_wp2
  go_ret
  exact ⟨rfl, rfl⟩
theorem mCopy (w : World) : Calls Tryz.prog 17 #[.float .f64 0, .float .f64 13830554455654793216] w fun e w' => e = .returned (.float .f64 9223372036854775808) ∧ w' = w := by
  have h1 : ∀ w, (callFunc 65 #[.int .u64 (9223372036854775808 : Int)]).run Tryz.prog w = .ok (.value (.float .f64 9223372036854775808)) w := run_from 9223372036854775808
  have h2 := Go.Dr.run_bits 0
  have h3 := Go.Dr.run_bits 13830554455654793216
  have h4 : bits BinOp.andNot IntKind.u64 0 9223372036854775808 = 0 := by decide +kernel
  have h5 : bits BinOp.and IntKind.u64 13830554455654793216 9223372036854775808 = 9223372036854775808 := by decide +kernel
  have h6 : bits BinOp.or IntKind.u64 0 9223372036854775808 = 9223372036854775808 := by decide +kernel
  go_enter Tryz.func17, Tryz.ntmps17
  go_wp2
  go_ret
  exact ⟨rfl, rfl⟩
end Go.Ch
