/- Chances: what is no number, a sign, the lesser of two; draw.Hit at all bits. -/
import Derived.Test.YtecihapafnpgbaaGreatAmG
import Derived.ProofKit
import Derived.Tactics2
import Derived.WalkKit
import Derived.WalkLawsBesides
import Derived.Laws.Externs
set_option linter.unusedSimpArgs false
set_option linter.unusedVariables false
set_option linter.constructorNameAsVariable false
set_option linter.unusedSectionVars false
namespace Go.Dr
open Go Go.Proofs Go.RowKit
def nanB (x : Nat) : Bool := FloatKind.f64.format.order x x != some .eq
def posF (x : Nat) : Nat := if nanB x || decide (9223372036854775808 ≤ x) then 0 else x
def minF (x y : Nat) : Nat :=
  let a := FloatKind.f64.decode x
  let b := FloatKind.f64.decode y
  if a == .infinity true || b == .infinity true then FloatKind.f64.encode (.infinity true)
  else if a.isNaN || b.isNaN then 0x7FF8000000000001
  else if a.isZero && b.isZero then (if a.neg == true then x else y)
  else if a.order b == some .lt then x else y
set_option maxRecDepth 100000
theorem isNaN (x : Nat) (w : World) : Calls Tryz.prog 436 #[.float .f64 x] w fun e w' => e = .returned (.bool (nanB x)) ∧ w = w' := by
  go_enter Tryz.func436, Tryz.ntmps436
  go_wp2
  go_ret
  exact ⟨rfl, rfl⟩
theorem run_bits (x : Nat) (w : World) : (callFunc 66 #[.float .f64 x]).run Tryz.prog w = .ok (.value (.int .u64 x)) w := by
  rw [run_callFunc_extern (e := Extern.MathFloatBits.float64bits) Tryz.func66 (by kernel_rfl) (by kernel_rfl) (by kernel_rfl) (by kernel_rfl) _ w]
  rfl
theorem run_amin (x y : Nat) (w : World) : (callFunc 383 #[.float .f64 x, .float .f64 y]).run Tryz.prog w = .ok (.value (.float .f64 (minF x y))) w := by
  rw [run_callFunc_extern (e := Extern.MathDim.pick "math.archMin" true .lt) Tryz.func383 (by kernel_rfl) (by kernel_rfl) (by kernel_rfl) (by kernel_rfl) _ w]
  rfl
theorem signbit (x : Nat) (hx : x < 18446744073709551616) (w : World) : Calls Tryz.prog 437 #[.float .f64 x] w fun e w' => e = .returned (.bool (decide (9223372036854775808 ≤ x))) ∧ w = w' := by
  have hb := run_bits x
  have hw : decide (wrap64 (x : Int) < 0) = decide (9223372036854775808 ≤ x) := by
    rw [decide_eq_decide]
    unfold wrap64
    omega
  go_enter Tryz.func437, Tryz.ntmps437
  go_wp2
  go_ret
  refine ⟨?_, rfl⟩
  rw [← hw]
  rfl
theorem mathMin (x y : Nat) (w : World) : Calls Tryz.prog 308 #[.float .f64 x, .float .f64 y] w fun e w' => e = .returned (.float .f64 (minF x y)) ∧ w = w' := by
  have hm := run_amin
  go_enter Tryz.func308, Tryz.ntmps308
  go_wp2
  go_ret
  exact ⟨rfl, rfl⟩
theorem positive (x : Nat) (hx : x < 18446744073709551616) (w : World) : Calls Tryz.prog 382 #[.float .f64 x] w fun e w' => e = .returned (.float .f64 (posF x)) ∧ w = w' := by
  have h1 := isNaN x
  have h2 := signbit x hx
  unfold posF
  generalize nanB x = a at h1
  generalize decide (9223372036854775808 ≤ x) = b at h2
  go_enter Tryz.func382, Tryz.ntmps382
  cases a <;> cases b
  all_goals
    go_wp2_with (first
      | (go_at_call 436; refine (h1 _).mono ?_; rintro e w1 ⟨rfl, rfl⟩)
      | (go_at_call 437; refine (h2 _).mono ?_; rintro e w1 ⟨rfl, rfl⟩))
    go_ret
    exact ⟨rfl, rfl⟩
/-- What a draw stands for; what a chance stands for; does it hit? -/
def drawF (x : Nat) : Nat := minF (posF x) 4607182418800017407
def chanceF (x : Nat) : Nat := minF (posF x) 4607182418800017408
def hitF (p d : Nat) : Bool := FloatKind.f64.format.order (drawF d) (chanceF p) == some .lt
theorem draw (x : Nat) (hx : x < 18446744073709551616) (w : World) : Calls Tryz.prog 306 #[.float .f64 x] w fun e w' => e = .returned (.float .f64 (drawF x)) ∧ w = w' := by
  have h1 := positive x hx
  have h2 := mathMin (posF x) 4607182418800017407
  go_enter Tryz.func306, Tryz.ntmps306
  go_wp2_with (first
    | (go_at_call 382; refine (h1 _).mono ?_; rintro e w1 ⟨rfl, rfl⟩)
    | (go_at_call 308; refine (h2 _).mono ?_; rintro e w1 ⟨rfl, rfl⟩))
  go_ret
  exact ⟨rfl, rfl⟩
theorem chance (x : Nat) (hx : x < 18446744073709551616) (w : World) : Calls Tryz.prog 307 #[.float .f64 x] w fun e w' => e = .returned (.float .f64 (chanceF x)) ∧ w = w' := by
  have h1 := positive x hx
  have h2 := mathMin (posF x) 4607182418800017408
  go_enter Tryz.func307, Tryz.ntmps307
  go_wp2_with (first
    | (go_at_call 382; refine (h1 _).mono ?_; rintro e w1 ⟨rfl, rfl⟩)
    | (go_at_call 308; refine (h2 _).mono ?_; rintro e w1 ⟨rfl, rfl⟩))
  go_ret
  exact ⟨rfl, rfl⟩
theorem hit (p d : Nat) (hp : p < 18446744073709551616) (hd : d < 18446744073709551616) (w : World) : Calls Tryz.prog 235 #[.float .f64 p, .float .f64 d] w fun e w' => e = .returned (.bool (hitF p d)) ∧ w = w' := by
  have h1 := draw d hd
  have h2 := chance p hp
  go_enter Tryz.func235, Tryz.ntmps235
  go_wp2_with (first
    | (go_at_call 306; refine (h1 _).mono ?_; rintro e w1 ⟨rfl, rfl⟩)
    | (go_at_call 307; refine (h2 _).mono ?_; rintro e w1 ⟨rfl, rfl⟩))
  go_ret
  exact ⟨rfl, rfl⟩
/-- A mean that is not above 0: no delay. -/
theorem delay0 (mean most d : Nat) (hm : (FloatKind.f64.format.order mean 0 == some .gt) = false) (h1 : 1 ≤ most) (w : World) :
    Calls Tryz.prog 236 #[.float .f64 mean, .int .i64 most, .float .f64 d] w fun e w' => e = .returned (.int .i64 0) ∧ w = w' := by
  have d1 : decide ((most : Int) < 1) = false := by simp; omega
  go_enter Tryz.func236, Tryz.ntmps236
  go_wp2
  go_ret
  exact ⟨rfl, rfl⟩
end Go.Dr
