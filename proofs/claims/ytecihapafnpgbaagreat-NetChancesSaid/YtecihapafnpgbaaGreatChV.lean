/- NetChances: a round of the law, by the abstract machine. -/
import Derived.Test.YtecihapafnpgbaaGreatChS
set_option linter.unusedSimpArgs false
set_option linter.unusedVariables false
set_option linter.constructorNameAsVariable false
set_option linter.unusedSectionVars false
namespace Go.Ch
open Go Go.Am Go.Hm Go.Proofs Go.RowKit
set_option maxRecDepth 100000
@[reducible] def fn (b : Nat) : Value := .complex .f64 b 0
noncomputable def retV (r : Option Ro) : Option (Value × Mem) := r.b fun r => Ro.rec (motive := fun _ => Option (Value × Mem)) (fun v m => some (v, m)) (fun _ _ => none) r
noncomputable def isV (a b : Value) (k : Option Bool) : Option Bool := bC (eqV a b) k none
/-- The net, two runs, what it tells. -/
noncomputable def scen (call : Nat → Hook) (em : Nat) : Option Bool :=
  Am.b2 (retV (call 19 [ag [fn 5, fn 4, fl 0, i 5], ff] (.mk .lf 6))) fun v m0 =>
  (vTup v).b fun l => Am.b2 (two l) fun n ok => isV ok tt
  (Am.b2 (retV (call 20 [n, fn 1, fn 2, fn 3] m0)) fun _ m1 =>
  Am.b2 (retV (call 21 [n, i 0] m1)) fun h m2 =>
  Am.b2 (retV (call 22 [u 2] m2)) fun a m3 =>
  Am.b2 (retV (call 7 [h, a, uh 1, uh 1, .complex .f64 0 16] m3)) fun e m4 => isV e (i 0)
  (Am.b2 (retV (call 23 [n, i 0] m4)) fun _ m5 =>
  Am.b2 (retV (call 23 [n, i 10] m5)) fun _ m6 =>
  Am.b2 (retV (call 24 [n] m6)) fun x m7 => isV x (i em)
  (Am.b2 (retV (call 25 [n] m7)) fun y _ => isV y (i 0) (some true))))
/-- Loss and doubles as they may be. -/
@[reducible] def tblL : List (Nat × Nat × Bool) := [(5, 1, true)]
@[reducible] def tbl (a b c : Bool) : List (Nat × Nat × Bool) := [(5, 1, false), (5, 2, false), (5, 3, false), (4, 1, a), (4, 2, b), (4, 3, c)]
theorem run_lost : scen (callA Tryz.prog fns (hkN tblL) 100000 100) 1 = some true := by kernel_rfl
theorem run_ttt : scen (callA Tryz.prog fns (hkN (tbl true true true)) 100000 100) 3 = some true := by kernel_rfl
theorem run_ttf : scen (callA Tryz.prog fns (hkN (tbl true true false)) 100000 100) 3 = some true := by kernel_rfl
theorem run_tft : scen (callA Tryz.prog fns (hkN (tbl true false true)) 100000 100) 2 = some true := by kernel_rfl
theorem run_tff : scen (callA Tryz.prog fns (hkN (tbl true false false)) 100000 100) 2 = some true := by kernel_rfl
theorem run_ftt : scen (callA Tryz.prog fns (hkN (tbl false true true)) 100000 100) 3 = some true := by kernel_rfl
theorem run_ftf : scen (callA Tryz.prog fns (hkN (tbl false true false)) 100000 100) 3 = some true := by kernel_rfl
theorem run_fft : scen (callA Tryz.prog fns (hkN (tbl false false true)) 100000 100) 2 = some true := by kernel_rfl
theorem run_fff : scen (callA Tryz.prog fns (hkN (tbl false false false)) 100000 100) 2 = some true := by kernel_rfl
theorem run_kept (a b c : Bool) : scen (callA Tryz.prog fns (hkN (tbl a b c)) 100000 100) (if b then 3 else 2) = some true := by
  cases a <;> cases b <;> cases c
  · exact run_fff
  · exact run_fft
  · exact run_ftf
  · exact run_ftt
  · exact run_tff
  · exact run_tft
  · exact run_ttf
  · exact run_ttt
end Go.Ch
