/- NetMay: a map of addresses. -/
import Derived.Test.YtnhpljgeckdedaaGreatNmA
set_option linter.unusedSimpArgs false
set_option linter.unusedVariables false
set_option linter.constructorNameAsVariable false
namespace Go.Nm
open Go Go.Am Go.Hm Go.Proofs Go.RowKit
set_option maxRecDepth 100000
def adV (x : Ad) : Value := .agg (cellsA x.1 x.2)
/-- A map of addresses lies at M. -/
def MapAt (W : World) (M : Nat) (l : List Ad) : Prop := ∃ es c, W.heap[M]? = some (Obj.map es c) ∧ es.toList.map (fun e => (e.key, e.val)) = l.map fun x => (adV x, Value.bool true)
def adKinds : List Kd := .bool :: List.replicate 16 (.int .u8)
theorem eqAd (x y : Ad) (hx : x.2.length = 16) (hy : y.2.length = 16) : eqKd adKinds (Go.Am.cellsL (adV x)) (Go.Am.cellsL (adV y)) = some (x.1 == y.1 && x.2 == y.2) := by
  have h := eqKd_bytes x.2 y.2 (by omega)
  rw [hx] at h
  refine (eqKd_cons _ _ _ _ _).2 ⟨_, _, _, _, x.1 == y.1, x.2 == y.2, rfl, rfl, ?_, h, rfl⟩
  show some (eqB x.1 y.1) = _
  cases x.1 <;> cases y.1 <;> rfl
def sameAd (x y : Ad) : Bool := x.1 == y.1 && x.2 == y.2
theorem findAd (x : Ad) (hx : x.2.length = 16) : ∀ (es : List MapEntry) (l : List Ad) (i : Nat), es.map (fun e => (e.key, e.val)) = l.map (fun x => (adV x, Value.bool true)) → Fine l →
    ∃ r, findA true adKinds (Go.Am.cellsL (adV x)) es i = some r ∧ (r.isSome = l.any (sameAd x)) ∧ ∀ j e, r = some (j, e) → e.val = .bool true
  | [], [], i, _, _ => ⟨none, rfl, rfl, fun j e h => by cases h⟩
  | [], y :: l, i, h, _ => by simp at h
  | e :: es, [], i, h, _ => by simp at h
  | e :: es, y :: l, i, h, hf => by
    simp only [List.map_cons, List.cons.injEq, Prod.mk.injEq] at h
    obtain ⟨⟨hk, hv⟩, ht⟩ := h
    have hq := eqAd x y hx (hf y (List.mem_cons_self ..)).1
    obtain ⟨r, h1, h2, h3⟩ := findAd x hx es l (i + 1) ht fun z hz => hf z (List.mem_cons_of_mem _ hz)
    have hfind : findA true adKinds (Go.Am.cellsL (adV x)) (e :: es) i = (eqKd adKinds (Go.Am.cellsL (adV x)) (Go.Am.cellsL e.key)).b fun b => bC b (some (some (i, e))) (findA true adKinds (Go.Am.cellsL (adV x)) es (i + 1)) := by
      obtain ⟨ek, ev, eb⟩ := e
      subst hk
      rfl
    rw [hfind, hk, hq]
    show ∃ r, bC (sameAd x y) (some (some (i, e))) (findA true adKinds (Go.Am.cellsL (adV x)) es (i + 1)) = some r ∧ _
    rw [List.any_cons]
    cases hs : sameAd x y with
    | true => exact ⟨some (i, e), rfl, rfl, fun j e' h => by injection h with h; injection h with _ h; subst h; exact hv⟩
    | false => exact ⟨r, h1, h2, h3⟩
theorem flatAd (x : Ad) : Flat (adV x) := by
  refine .agg fun v hv => ?_
  rcases List.mem_cons.1 hv with rfl | hv
  · exact .bool _
  · obtain ⟨b, _, rfl⟩ := List.mem_map.1 hv
    exact .int _ _
theorem erelAd {es : Array MapEntry} {l : List Ad} (h : es.toList.map (fun e => (e.key, e.val)) = l.map fun x => (adV x, Value.bool true)) : ERel noSg es.toList es.toList :=
  ⟨rfl, fun i e e' h1 h2 => by
    rw [h1] at h2; cases h2
    have := congrArg (fun l => l[i]?) h
    simp only [List.getElem?_map, h1, Option.map_some] at this
    cases hl : l[i]? with
    | none => rw [hl] at this; cases this
    | some x =>
      rw [hl] at this
      simp only [Option.map_some, Option.some.injEq, Prod.mk.injEq] at this
      rw [this.1, this.2]
      exact ⟨(flatAd x).rel, VRel.bool _, rfl⟩⟩
theorem kindsAd : kindsT Tryz.prog 42 = some adKinds := kinds29
theorem aggAd : isAggT Tryz.prog 42 = some true := by kernel_rfl
theorem keyOkAd (x : Ad) (hx : x.2.length = 16) : keyOk true adKinds (adV x) = true := by
  unfold keyOk
  rw [eqAd x x hx hx]
  rfl
theorem zeroB (w : World) : (zeroValue 4).run Tryz.prog w = .ok (.bool false) w := by kernel_rfl
theorem findRun (x : Ad) (hx : x.2.length = 16) {es : Array MapEntry} {l : List Ad} (h : es.toList.map (fun e => (e.key, e.val)) = l.map fun x => (adV x, Value.bool true)) (hf : Fine l) (w : World) :
    ((l.any (sameAd x)) = false ∧ (Instr.findKey 42 (adV x) es.toList).run Tryz.prog w = .ok none w) ∨
    ((l.any (sameAd x)) = true ∧ ∃ i, (Instr.findKey 42 (adV x) es.toList).run Tryz.prog w = .ok (some (i, .bool true)) w) := by
  obtain ⟨r, h1, h2, h3⟩ := findAd x hx es.toList l 0 h hf
  obtain ⟨u, hu, hd⟩ := isAggT_some aggAd
  rcases run_findKey (P := Tryz.prog) kindsAd hu hd (flatAd x).rel rfl (erelAd h) h1 w with ⟨rfl, q⟩ | ⟨i, e, e', rfl, _, _, q2, _, _, q3⟩
  · exact .inl ⟨h2.symm, q⟩
  · refine .inr ⟨h2.symm, i, ?_⟩
    have := h3 i e rfl
    rw [this] at q2
    generalize e'.val = z at q2 q3
    cases q2
    exact q3
theorem lookupAd {W : World} {M : Nat} {l : List Ad} (h : MapAt W M l) (hf : Fine l) (x : Ad) (hx : x.2.length = 16) :
    (Instr.lookup 96 (.map (some M)) (adV x) false).run Tryz.prog W = .ok (.bool (l.any (sameAd x))) W := by
  obtain ⟨es, c, hw, he⟩ := h
  have hck := run_checkKey (P := Tryz.prog) kindsAd aggAd (σ := noSg) (flatAd x).rel (keyOkAd x hx) es.isEmpty W
  unfold Instr.lookup
  rw [Sem.run_bind, run_under Tryz.underlying96, Result.andThen_ok]
  simp only []
  rw [Sem.run_bind, run_getMap hw, Result.andThen_ok]
  simp only []
  rcases findRun x hx he hf W with ⟨h1, h2⟩ | ⟨h1, i, h2⟩
  · rw [h1]
    simp only [Sem.run_bind, hck, h2, Result.andThen_ok, zeroB, Sem.run_pure]
    rfl
  · rw [h1]
    simp only [Sem.run_bind, hck, h2, Result.andThen_ok, Sem.run_pure]
    rfl
theorem updateAd {W : World} {M : Nat} {l : List Ad} (h : MapAt W M l) (hf : Fine l) (x : Ad) (hx : x.2.length = 16) (hno : l.any (sameAd x) = false) :
    ∃ o, (Instr.mapUpdate 96 (.map (some M)) (adV x) (.bool true)).run Tryz.prog W = .ok () (setArr W M o) ∧ MapAt (setArr W M o) M (l ++ [x]) := by
  obtain ⟨es, c, hw, he⟩ := h
  have hck := run_checkKey (P := Tryz.prog) kindsAd aggAd (σ := noSg) (flatAd x).rel (keyOkAd x hx) false W
  refine ⟨.map (es.push { key := adV x, val := .bool true, born := c }) (c + 1), ?_, ?_⟩
  · rcases findRun x hx he hf W with ⟨h1, h2⟩ | ⟨h1, _⟩
    · unfold Instr.mapUpdate
      rw [Sem.run_bind, run_under Tryz.underlying96, Result.andThen_ok]
      simp only []
      rw [Sem.run_bind, run_getMap hw, Result.andThen_ok]
      simp only []
      rw [Sem.run_bind, hck, Result.andThen_ok]
      rw [Sem.run_bind, h2, Result.andThen_ok]
      exact run_setMap hw _
    · rw [hno] at h1; cases h1
  · refine ⟨es.push { key := adV x, val := .bool true, born := c }, c + 1, ?_, ?_⟩
    · rw [setArr_get (Array.getElem?_eq_some_iff.1 hw).1, if_pos rfl]
    · simp [he]
end Go.Nm
