/- NetMay: the law's own reckoning. -/
import Derived.Test.YtecihapafnpgbaaGreatHmP
import Derived.Deep.CutBlock
set_option linter.unusedSimpArgs false
set_option linter.unusedVariables false
set_option linter.constructorNameAsVariable false
set_option linter.unusedSectionVars false
namespace Go.Hm
open Go Go.Proofs Go.RowKit
/-- May a setting be: its length, its MTU. -/
def may0 (n : Nat) (mtu : Int) : Bool := decide (1 ≤ n) && decide (n ≤ 4) && decide (1280 ≤ mtu) && decide (mtu ≤ 65535)
/-- The first k addresses may be, and are distinct. -/
def mayTo (l : List Ad) : Nat → Bool
  | 0 => true
  | k + 1 => mayTo l k && (match l[k]? with | some x => addrL x.1 x.2 | none => true) && !dupL l k
def SetB (W : World) (B : Nat) (sl : Value) (mtu : Int) : Prop := ∀ j, W.cell? ⟨B, j, none⟩ = (setV sl mtu)[j]?
theorem wpList_exec {P : Program} {ops : Array Oper} {rest : List Oper} {o : Oper} {a : Act} {Q : Exit → Act → World → Prop} {w : World} (hw : Region.wanted o (yielded ops a.tmps) = true) {v : Value}
    (hr : (execOp a.eval o).run P w = .ok (.value v) w) (h : wpList P ops Q rest (a.put o.dst v) w) : wpList P ops Q (o :: rest) a w := by
  refine wpList_on hw fun K hK => ?_
  unfold Oper.wp
  rw [hr]
  exact hK _ _ h
theorem exec_neq29 {o : Oper} {a : Act} {w : World} {x y : Operand} {r : Bool} (hop : o.op = Op.binOp .neq 32 x y 32) {u v : Array Value} (hx : a.eval x = .agg u) (hy : a.eval y = .agg v)
    (hr : (Op.equalIn 10000 32 (.agg u) (.agg v)).run Tryz.prog w = .ok r w) : (execOp a.eval o).run Tryz.prog w = .ok (.value (.bool (!r))) w := by
  have h1 : (binOp .neq 32 (.agg u) (.agg v)).run Tryz.prog w = .ok (.bool (!r)) w := by
    have h2 : (Op.equal 32 (.agg u) (.agg v)).run Tryz.prog w = .ok r w := hr
    unfold binOp
    simp [h2, Result.andThen]
  have h3 : (eqGuard .neq 32 x y (.agg u) (.agg v)).run Tryz.prog w = .ok () w := by
    exact run_eqGuard_agg w .neq 32 x y _ _ (Go.Am.eqGuard_plain 40 32 _ kinds29 _ Go.Am.tryz_fit.depth)
  simp [execOp, hop, hx, hy, h1, h3, Result.andThen]
theorem any_snoc {l : List Ad} {j : Nat} {y : Ad} (hy : l[j]? = some y) (p : Ad → Bool) : (l.take (j + 1)).any p = ((l.take j).any p || p y) := by
  obtain ⟨hj, rfl⟩ := List.getElem?_eq_some_iff.1 hy
  rw [List.take_succ_eq_append_getElem hj, List.any_append]; simp
end Go.Hm
