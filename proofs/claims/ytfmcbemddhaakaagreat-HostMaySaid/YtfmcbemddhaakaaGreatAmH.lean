/- slices.AppendSeq over the values of an empty map. · slices.AppendSeq over the values of an empty map: the function itself. · octets.Try where nothing panics. -/
import Derived.Test.YtfmcbemddhaakaaGreatAmG
import Derived.RangeFuncOwn
import Derived.RangeFuncLeaves
import Derived.Laws.IdiomRangeMap
import Derived.ProofKit
import Derived.TacticsInMore
import Derived.LoopNIn
import Derived.Test.YtfmcbemddhaakaaGreatAmE
import Derived.Tactics2
import Derived.Recover
set_option linter.unusedSimpArgs false
set_option linter.unusedVariables false
set_option linter.constructorNameAsVariable false
namespace Go.Am
open Go Go.Proofs Go.RowKit
set_option maxRecDepth 100000 in
set_option maxHeartbeats 1000000 in
theorem seq452 (l Bm Bo bm clock : Nat) (W : World) (hm : W.cell? ⟨Bm, Bo, none⟩ = some (.map (some bm))) (hb : W.heap[bm]? = some (.map #[] clock)) :
    CallsIn Fence.wide 0 Tryz.prog 180 #[.func (.yield l) #[] #[], .pointer (some ⟨Bm, Bo, none⟩)] W fun e W' => (∃ v, e = .returned v) ∧ W' = W.alloc (.mapIter (some bm) clock #[] clock) := by
  refine callsIn_of_wp Tryz.func180 rfl trivial ?_ rfl
  simp only [Tryz.ntmps180, List.size_toArray, List.length_cons, List.length_nil, Nat.reduceAdd, Nat.reduceSub, Array.replicate_succ, Array.replicate_zero, List.push_toArray, List.append_toArray, List.nil_append, List.cons_append]
  have hrg := run_range_map (P := Tryz.prog) W 92 205 149 bm #[] clock Tryz.underlying92 hb
  have hnx : ∀ ty, (Instr.next (.pointer (some ⟨W.heap.size, 0, none⟩)) false ty).run Tryz.prog (W.alloc (.mapIter (some bm) clock #[] clock)) = .ok (.tuple #[.bool false]) (W.alloc (.mapIter (some bm) clock #[] clock)) := by
    intro ty
    rcases run_next_map (P := Tryz.prog) W ty bm clock clock #[] #[] clock hb (by simp) (Nat.le_refl _) with ⟨_, h⟩ | ⟨e, he, _⟩
    · exact h
    · simp [leftOf] at he
  gi_wp2
  refine wpIn_loop_rounds 1 ?_
  rw [roundsIn_succ]
  gi_wp2
  go_end0
  exact ⟨⟨_, rfl⟩, rfl⟩
end Go.Am
namespace Go.Am
open Go Go.Proofs Go.RowKit
set_option maxRecDepth 100000 in
set_option maxHeartbeats 1000000 in
theorem seq512 (ov : Option Addr) (sl sc Bm Bo bm clock : Nat) (W : World) (hm : W.cell? ⟨Bm, Bo, none⟩ = some (.map (some bm))) (hb : W.heap[bm]? = some (.map #[] clock)) :
    Calls Tryz.prog 267 #[.slice ov sl sc, .func (.func 180) #[] #[.pointer (some ⟨Bm, Bo, none⟩)]] W fun e W' => e = .returned (.slice ov sl sc) ∧ Below W.heap.size W W' := by
  refine (callsIn_wide (n := 1)).1 ?_
  refine callsIn_of_wp_marks Tryz.func267 rfl trivial ?_ rfl
  simp only [Tryz.ntmps267, List.size_toArray, List.length_cons, List.length_nil, Nat.reduceAdd, Nat.reduceSub, Array.replicate_succ, Array.replicate_zero, List.push_toArray, List.append_toArray, List.nil_append, List.cons_append]
  gi_wp2
  rename_i K hK
  obtain ⟨w, hw⟩ : ∃ w, W.alloc (.cells #[.slice ov sl sc] 146) = w := ⟨_, rfl⟩
  have hws : w.heap.size = W.heap.size + 1 := by rw [← hw]; simp
  have hBm : Bm < W.heap.size := by
    unfold World.cell? at hm
    rcases Nat.lt_or_ge Bm W.heap.size with h | h
    · exact h
    · rw [Array.getElem?_eq_none h] at hm; cases hm
  have hbm : bm < W.heap.size := (Array.getElem?_eq_some_iff.1 hb).1
  have hbw : Below W.heap.size W w := by rw [← hw]; exact (Below.refl _ W).alloc (Nat.le_refl _) _
  have hcw : w.heap[W.heap.size]? = some (.cells #[.slice ov sl sc] 146) := by rw [← hw]; exact World.alloc_heap_new W _
  rw [hw]
  have h452 : ∀ args w, (callFunc 180 args).run Tryz.prog w = .ok (.enter 180 args) w := fun args w => run_callFunc Tryz.func180 rfl (by kernel_rfl) w
  refine wpIn_rangeFunc ?_
  intro fn hfn
  generalize hrec : (Loop.mk LoopState.ready none fn _ _ _ _ w.heap.size) = rec
  obtain ⟨W1, hW1⟩ : ∃ W1, (w.alloc (.deferred (some []))).alloc (.loop rec) = W1 := ⟨_, rfl⟩
  have hL1 : W1.heap[w.heap.size + 1]? = some (.loop rec) := by
    rw [← hW1]; have := World.alloc_heap_new (w.alloc (.deferred (some []))) (.loop rec); rwa [World.size_alloc] at this
  have hK1 : W1.heap[w.heap.size]? = some (.deferred (some [])) := by
    rw [← hW1]; exact (Below.heap_alloc _ _ _ (by simp)).trans (World.alloc_heap_new w _)
  have hs1 : W1.heap.size = w.heap.size + 2 := by rw [← hW1]; simp
  have hb1 : Below w.heap.size w W1 := by rw [← hW1]; exact (((Below.refl _ w).alloc (Nat.le_refl _) _).alloc (by simp) _)
  have hB1 : Below W.heap.size W W1 := hbw.trans (hb1.mono (by omega))
  refine ⟨w.heap.size + 1, [{ target := .collected w.heap.size, args := #[] }], W1, { target := .fn (.func 180) #[.pointer (some ⟨Bm, Bo, none⟩)], args := #[.func (.yield (w.heap.size + 1)) #[] #[]] }, W1, 180,
    #[.func (.yield (w.heap.size + 1)) #[] #[], .pointer (some ⟨Bm, Bo, none⟩)], W1, ?_, ?_, fun _ _ => trivial, ?_, fun _ => Nat.le_refl _, ?_⟩
  · rw [← hW1, ← hrec]; exact run_enterLoop_outer _ _ _ _ _
  · simp [resolve, Act.eval, go_sem]
  · simp [invoke, go_sem, h452]
  · refine (seq452 (w.heap.size + 1) Bm Bo bm clock W1 ((hB1.cell (p := ⟨Bm, Bo, none⟩) hBm).trans hm) ((hB1.block bm hbm).trans hb)).mono ?_
    rintro e W3 ⟨⟨v, rfl⟩, rfl⟩
    have hL3 : (W1.alloc (.mapIter (some bm) clock #[] clock)).heap[w.heap.size + 1]? = some (.loop rec) := (Below.heap_alloc _ _ _ (by omega)).trans hL1
    have hend := run_endLoop (P := Tryz.prog) hL3 (by rw [← hrec]; simp)
    rw [show rec.pending = none from by rw [← hrec]] at hend
    have hgr := fun o => grownBy_putObj' (W1.alloc (.mapIter (some bm) clock #[] clock)) (w.heap.size + 1) o
    have hput : ∀ o k, k ≠ w.heap.size + 1 → ((W1.alloc (.mapIter (some bm) clock #[] clock)).putObj (w.heap.size + 1) o).heap[k]? = (W1.alloc (.mapIter (some bm) clock #[] clock)).heap[k]? := fun o k hk => World.putObj_heap_other (by omega)
    have hbl : ∀ o, Below (w.heap.size + 1) (W1.alloc (.mapIter (some bm) clock #[] clock)) ((W1.alloc (.mapIter (some bm) clock #[] clock)).putObj (w.heap.size + 1) o) :=
      fun o => ⟨rfl, rfl, rfl, (hgr o).size, fun k hk => hput o k (by omega)⟩
    generalize hW4 : (W1.alloc (.mapIter (some bm) clock #[] clock)).putObj (w.heap.size + 1) _ = W4 at hend
    refine ⟨none, W4, hend, ?_⟩
    have hB5 : Below (w.heap.size + 1) W1 W4 := by rw [← hW4]; exact (((Below.refl _ W1).alloc (by omega) _).trans (hbl _))
    have hK4 : W4.heap[w.heap.size]? = some (.deferred (some [])) := by
      exact (hB5.block _ (by omega)).trans hK1
    have hB4 : Below w.heap.size w W4 := hb1.trans (hB5.mono (by omega))
    have hc4 : W4.cell? ⟨W.heap.size, 0, none⟩ = some (.slice ov sl sc) := by
      refine (hB4.cell (p := ⟨W.heap.size, 0, none⟩) (by show W.heap.size < _; omega)).trans ?_
      simp [World.cell?, hcw]
    show K _ _
    refine hK _ _ ?_
    gi_wp2
    refine ⟨by simp, .inl ⟨_, _, rfl, run_takeDeferred (by rw [← hws]; exact hK4), ?_⟩⟩
    refine ⟨.slice ov sl sc, ?_, rfl, ?_⟩
    · simp [results, Tryz.f267, go_sem]
    · exact (hbw.trans (hB4.mono (by omega))).trans ⟨rfl, rfl, rfl, (grownBy_putObj' _ _ _).size, fun k hk => World.putObj_heap_other (by omega)⟩

theorem hAppendSeq_ok (base : Nat) : CallOk Tryz.prog base 267 hAppendSeq := by
  intro args m r hr σ w args' rel ha
  unfold hAppendSeq at hr
  split at hr
  · rename_i ov l c g b o
    split at hr
    · rename_i r0 hld
      cases hg : Nat.beq g 180 with
      | false => rw [hg] at hr; cases hr
      | true =>
        have hg := (nbeq _ _).1 hg; subst hg
        rw [show Nat.beq 180 180 = true from rfl] at hr
        obtain ⟨x, hx, hr⟩ := b_some.1 (show ((m.get r0).b fun x => bC (isNilMap x) (some (Ro.ret (.slice ov l c) m)) none) = some r from hr)
        have hnil : ∃ c0, x = .map [] c0 := by
          cases x with
          | map es c0 =>
            cases es with
            | nil => exact ⟨c0, rfl⟩
            | cons e es => cases hr
          | _ => cases hr
        obtain ⟨c0, rfl⟩ := hnil
        injection (show some (Ro.ret (.slice ov l c) m) = some r from hr) with hr; subst hr
        obtain ⟨v1, t1, rfl, k1, ha1⟩ := ha.head
        obtain ⟨v2, t2, rfl, k2, ha2⟩ := ha1.head
        obtain rfl := ha2.nil_inv
        have hs1 : ∃ ov' l' c', v1 = .slice ov' l' c' := by cases k1 <;> exact ⟨_, _, _, rfl⟩
        obtain ⟨ov', l', c', rfl⟩ := hs1
        cases k2 with
        | func _ h1 h2 h3 h4 =>
          rename_i as' bs'
          obtain rfl : as' = [] := List.length_eq_zero_iff.1 h1.symm
          obtain ⟨pv, rfl⟩ := List.length_eq_one_iff.1 h3.symm
          have hp := h4 0 _ _ rfl rfl
          cases hp with
          | ptr _ hσ =>
            rename_i p
            obtain ⟨rw', e, vs, hb, hlen, hcut⟩ := loadCells_some hld
            have hvo : vs[o]? = some (.map (some r0)) := by
              have h0 : ((vs.drop o).take 1)[0]? = some (.map (some r0)) := by rw [← hcut]; rfl
              rw [List.getElem?_take_of_lt (by omega), List.getElem?_drop] at h0; simpa using h0
            obtain ⟨_, _, _, _, arr, fz, g4, _, _, g7⟩ := rel.cells b rw' e vs hb p hσ
            obtain ⟨u, hu, hur⟩ := g7 o _ hvo
            cases hur with
            | map hq =>
              rename_i q
              obtain ⟨_, es', g5, g6⟩ := rel.map r0 [] c0 hx q hq
              have hes : es' = #[] := by
                have := g6.1
                apply Array.toList_inj.1
                exact List.length_eq_zero_iff.1 this.symm
              subst hes
              refine ⟨⟨Tryz.f267, Tryz.func267, rfl, by kernel_rfl⟩, ?_⟩
              refine (seq512 ov' l' c' p.blk (p.sh + o) q.blk c0 w ?_ g5).mono fun e W' he => ?_
              · rw [cell_of g4]; exact hu
              · obtain ⟨rfl, hbl⟩ := he
                exact ⟨σ, Ext.refl σ m, hbl.mono rel.base, rel.later hbl, _, rfl, k1⟩
    · cases hr
  · cases hr
end Go.Am
namespace Go.Am
open Go Go.Proofs Go.RowKit
theorem setCell_same_self {w : World} {b o : Nat} {v : Value} (h : w.cell? ⟨b, o, none⟩ = some v) : w.setCell ⟨b, o, none⟩ v = w := by
  unfold World.setCell
  have : (w.heap.modify b fun x => match x with
      | .cells c elem frozen => .cells (if (none : Option Nat).isSome then c else c.setIfInBounds o v) elem frozen
      | x => x) = w.heap := by
    apply Array.ext
    · simp
    · intro i h1 h2
      rw [Array.getElem_modify]
      split
      · rename_i e
        subst e
        unfold World.cell? at h
        rw [Array.getElem?_eq_getElem h2] at h
        cases hx : w.heap[b] with
        | cells c e f =>
          rw [hx] at h
          have h : c[o]? = some v := by simpa using h
          obtain ⟨h3, h4⟩ := Array.getElem?_eq_some_iff.1 h
          have : c.setIfInBounds o v = c := by
            apply Array.ext
            · simp
            · intro j j1 j2
              rw [Array.getElem_setIfInBounds]
              split
              · rename_i e2; subst e2; exact h4.symm
              · rfl
          simp [this]
        | _ => rfl
      · rfl
  exact congrArg (fun h => ({ w with heap := h } : World)) this
theorem idle386 (p : Addr) (w : World) :
    CallsD Tryz.prog 292 #[.pointer (some p)] .returning w fun e u' w' => e = .returned (.tuple #[]) ∧ u' = .returning ∧ w' = w := by
  have hnn : ∀ w, (binOp .eql 20 .nilIface .nilIface).run Tryz.prog w = .ok (.bool true) w := fun w => by simp [go_sem, Tryz.underlying20]
  refine callsD_of_wpS Tryz.func292 rfl fun c₀ cs hu => ?_
  apply wpS_seq
  apply wpS_region
  simp [wpOpsS, go_sem, recoverD, hu, Tryz.ntmps292, Exit.thenS]
  apply wpS_seq
  apply wpS_seq
  apply wpS_region
  simp [wpOpsS, go_sem, hnn, Exit.thenS]
  refine wpS_cond (t := true) (by simp [Act.eval, Array.replicate]) ?_
  simp only [if_true]
  refine wpS_of_wp (wp_ret ?_)
  cases c₀
  simp_all [bodyPostS, Exit.thenS, results, Tryz.f292]
set_option maxRecDepth 100000 in
set_option maxHeartbeats 1000000 in
theorem try288 (g : Nat) (first cap : List Value) (W : World) (R : Ending → World → Prop)
    (hen : ∀ args w, (callFunc g args).run Tryz.prog w = .ok (.enter g args) w)
    (hcall : Calls Tryz.prog g ⟨first ++ cap⟩ (W.alloc (.cells #[.int .i64 0] 32)) R)
    (hret : ∀ e w', R e w' → (∃ v, e = .returned v) ∧ w'.cell? ⟨W.heap.size, 0, none⟩ = some (.int .i64 0) ∧ w'.frozen? ⟨W.heap.size, 0, none⟩ = false) :
    Calls Tryz.prog 230 #[.func (.func g) ⟨first⟩ ⟨cap⟩] W fun e W' => e = .returned (.int .i64 0) ∧ ∃ e', R e' W' := by
  go_enter_defers Tryz.func230, Tryz.ntmps230
  have hmf : ∀ (fn : Fn) (first cap : Array Value) (w : World), (Instr.makeFunc fn first cap).run Tryz.prog w = .ok (.func fn first cap) w := fun _ _ _ _ => rfl
  go_wp2
  rename_i K1 hK1 K hK
  refine hcall.mono fun e w' he => ?_
  obtain ⟨⟨v, rfl⟩, hc, hfz⟩ := hret e w' he
  show K _ _
  refine hK _ _ ?_
  go_wp2
  refine leaves_cons (f := 292) (args := #[.pointer (some ⟨W.heap.size, 0, none⟩)]) (by simp) (by simp [go_sem]) ?_
  refine (idle386 ⟨W.heap.size, 0, none⟩ _).mono ?_
  rintro e u' w'' ⟨rfl, rfl, rfl⟩
  rw [setCell_same_self hc]
  refine ⟨.int .i64 0, ?_, rfl, _, he⟩
  simp [results, Tryz.f230, go_sem, hc]

theorem hTry_ok (base : Nat) {call : Nat → Hook} (hcall : ∀ base g, CallOk Tryz.prog base g (call g)) : CallOk Tryz.prog base 230 (hTry call) := by
  intro args m r hr σ w args' rel ha
  unfold hTry at hr
  split at hr
  · rename_i g first cap
    obtain ⟨⟨b, m1⟩, hn, hr⟩ := b_some.1 hr
    have hr : (match call g (first ++ cap) m1 with
      | some (.ret _ m') => (m'.get b).b fun y => bC (eqBlk y (.cells true 32 [.int .i64 0])) (some (Ro.ret (.int .i64 0) m')) none
      | _ => none) = some r := hr
    split at hr
    · rename_i v0 m' hcl
      obtain ⟨y, hy, hr⟩ := b_some.1 hr
      cases hq : eqBlk y (.cells true 32 [.int .i64 0]) with
      | false => rw [hq] at hr; cases hr
      | true =>
        rw [hq] at hr
        have := eqBlk_eq hq; subst this
        injection (show some (Ro.ret (.int .i64 0) m') = some r from hr) with hr; subst hr
        obtain ⟨v1, t1, rfl, k1, ha1⟩ := ha.head
        obtain rfl := ha1.nil_inv
        cases k1 with
        | func _ h1 h2 h3 h4 =>
          rename_i as' bs'
          obtain ⟨r1, r2, r3⟩ := rel.newRow hn (l' := [.int .i64 0]) (LRel.cons (VRel.int _ _) LRel.nil) 1 1 0 (by kernel_rfl) (arr := #[.int .i64 0]) rfl (by simp) (by simp) (0, 0) (.inl rfl)
          obtain ⟨hf, hc⟩ := hcall base g (first ++ cap) m1 _ hcl _ _ (as' ++ bs') r1 (LRel.append (LRel.mono r2.sub ⟨h1, h2⟩) (LRel.mono r2.sub ⟨h3, h4⟩))
          refine ⟨⟨Tryz.f230, Tryz.func230, rfl, by kernel_rfl⟩, ?_⟩
          obtain ⟨fn, hf1, hf2, hf3⟩ := hf
          refine (try288 g as' bs' w _ (fun args w => run_callFunc hf1 hf2 hf3 w) hc ?_).mono fun e W' he => ?_
          · rintro e w' ⟨σ', e1, e2, e3, v', rfl, e4⟩
            refine ⟨⟨v', rfl⟩, ?_⟩
            obtain ⟨_, _, _, _, arr, fz, g4, g5, g6, g7⟩ := e3.cells b true 32 _ hy _ (e1.sub _ _ (place_same b _))
            obtain ⟨u, hu, hur⟩ := g7 0 _ rfl
            cases hur
            refine ⟨by rw [cell_of g4]; exact hu, ?_⟩
            have hsz : 0 < arr.size := by
              have := (Array.getElem?_eq_some_iff.1 hu).1; omega
            simp only [World.frozen?, g4]
            rcases g6 with h | ⟨h, _⟩
            · simp [h]
            · simp; omega
          · obtain ⟨rfl, e', σ', e1, e2, e3, v', rfl, e4⟩ := he
            exact ⟨σ', r2.trans e1, r3.trans e2, e3, _, rfl, VRel.int _ _⟩
    · cases hr
  · cases hr
end Go.Am
