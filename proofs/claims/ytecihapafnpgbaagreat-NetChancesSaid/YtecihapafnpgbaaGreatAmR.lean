/- Regions whose order is open, each operation of which writes nothing that is there: what each brings is so behind all of them. -/
import Derived.Test.YtecihapafnpgbaaGreatAmF
set_option linter.unusedSimpArgs false
set_option linter.unusedVariables false
set_option linter.constructorNameAsVariable false
set_option linter.unusedSectionVars false
namespace Go.Rg
open Go Go.Am Go.RowKit
/-- Every operation is unguarded, writes a slot of its own, and stands behind those that it names. -/
def chk (ops : Array Oper) (deps : Nat → List Nat) (nt : Nat) : Bool :=
  (List.range ops.size).all fun i => match ops[i]? with
    | none => false
    | some o => o.guard.isNone && (match o.dst with
        | some d => decide (d < nt) && (List.range ops.size).all fun j => j == i || (match ops[j]? with | some p => !(p.dst == some d) | none => true)
        | none => true)
      && o.after.toList.all (fun e => !(Region.binds .any e) || decide (e.on < i)) && (deps i).all fun j => o.after.toList.any fun e => Region.binds .any e && (e.on == j || (deps e.on).contains j)
structure Row (ops : Array Oper) (deps : Nat → List Nat) (nt i : Nat) (o : Oper) : Prop where
  guard : o.guard = none
  lt : ∀ d, o.dst = some d → d < nt
  one : ∀ d, o.dst = some d → ∀ (j : Nat) (p : Oper), ops[j]? = some p → p.dst = some d → j = i
  low : ∀ e ∈ o.after, Region.binds .any e = true → e.on < i
  dep : ∀ j ∈ deps i, ∃ e ∈ o.after, Region.binds .any e = true ∧ (e.on = j ∨ j ∈ deps e.on)
theorem chk_row {ops : Array Oper} {deps : Nat → List Nat} {nt : Nat} (h : chk ops deps nt = true) {i : Nat} {o : Oper} (ho : ops[i]? = some o) : Row ops deps nt i o := by
  have hi : i < ops.size := (Array.getElem?_eq_some_iff.1 ho).1
  have h1 := List.all_eq_true.1 h i (List.mem_range.2 hi)
  rw [ho] at h1
  simp only [Bool.and_eq_true] at h1
  obtain ⟨⟨⟨h2, h3⟩, h4⟩, h5⟩ := h1
  refine ⟨by simpa using h2, ?_, ?_, ?_, ?_⟩
  · intro d hd
    rw [hd] at h3
    simp only [Bool.and_eq_true, decide_eq_true_eq] at h3
    exact h3.1
  · intro d hd j p hj hp
    rw [hd] at h3
    simp only [Bool.and_eq_true, decide_eq_true_eq] at h3
    have hjl : j < ops.size := (Array.getElem?_eq_some_iff.1 hj).1
    have := List.all_eq_true.1 h3.2 j (List.mem_range.2 hjl)
    rw [hj] at this
    simp only [hp, beq_self_eq_true, Bool.not_true, Bool.or_false] at this
    simpa using this
  · intro e he hb
    have := List.all_eq_true.1 h4 e (Array.mem_toList_iff.2 he)
    simpa [hb] using this
  · intro j hj
    have := List.all_eq_true.1 h5 j hj
    obtain ⟨e, he, h6⟩ := List.any_eq_true.1 this
    simp only [Bool.and_eq_true, Bool.or_eq_true, beq_iff_eq, List.contains_iff_mem] at h6
    exact ⟨e, Array.mem_toList_iff.1 he, h6.1, h6.2⟩
section
variable {P : Program} {ops : Array Oper} {Q : Exit → Go.Act → World → Prop} {deps : Nat → List Nat} {nt : Nat} {F : Nat → Value → World → Prop} {a0 : Go.Act} {w0 : World}
/-- What is so when some were done. -/
structure RInv (ops : Array Oper) (deps : Nat → List Nat) (nt : Nat) (F : Nat → Value → World → Prop) (a0 : Go.Act) (w0 : World) (listed : Array Bool) (a : Go.Act) (w : World) : Prop where
  bel : Below w0.heap.size w0 w
  size : a.tmps.size = nt
  dfr : a.defers = a0.defers
  fact : ∀ (i : Nat) (p : Oper) (d : Tmp), listed.getD i false = true → ops[i]? = some p → p.dst = some d → F i (a.tmps.getD d undef) w
  base : ∀ t, (∀ (i : Nat) (p : Oper), ops[i]? = some p → p.dst ≠ some t) → a.tmps.getD t undef = a0.tmps.getD t undef
  clos : ∀ i, listed.getD i false = true → ∀ j ∈ deps i, listed.getD j false = true
  lsz : listed.size = ops.size
theorem put_get (a : Go.Act) (d : Tmp) (v : Value) (h : d < a.tmps.size) (t : Nat) : (a.put (some d) v).tmps.getD t undef = if t = d then v else a.tmps.getD t undef := by
  unfold Act.put
  simp only [Array.getD_eq_getD_getElem?, Array.getElem?_setIfInBounds]
  by_cases e : d = t
  · subst e; simp [h]
  · rw [if_neg e, if_neg (fun h => e h.symm)]
theorem put_size (a : Go.Act) (d : Option Tmp) (v : Value) : (a.put d v).tmps.size = a.tmps.size := by cases d <;> simp [Act.put]
theorem put_defers (a : Go.Act) (d : Option Tmp) (v : Value) : (a.put d v).defers = a.defers := by cases d <;> rfl
theorem region_facts (hm : P.follows .mixedOrders = true) {id : Nat} (hchk : chk ops deps nt = true) (hsz : a0.tmps.size = nt)
    (hmono : ∀ i v w w', F i v w → Below w.heap.size w w' → F i v w')
    (hop : ∀ (i : Nat) (o : Oper), ops[i]? = some o → ∀ (a : Go.Act) (w : World), Below w0.heap.size w0 w →
      (∀ j ∈ deps i, ∀ (p : Oper) (d : Tmp), ops[j]? = some p → p.dst = some d → F j (a.eval (.tmp d)) w) → (∀ t, (∀ (j : Nat) (p : Oper), ops[j]? = some p → p.dst ≠ some t) → a.eval (.tmp t) = a0.eval (.tmp t)) →
      ∀ (K : Go.Act → World → Prop), (∀ v w', Below w.heap.size w w' → F i v w' → K (a.put o.dst v) w') → o.wp P a w K Q)
    (hQ : ∀ a w, Below w0.heap.size w0 w → a.tmps.size = nt → a.defers = a0.defers → (∀ (i : Nat) (p : Oper) (d : Tmp), ops[i]? = some p → p.dst = some d → F i (a.tmps.getD d undef) w) →
      (∀ t, (∀ (i : Nat) (p : Oper), ops[i]? = some p → p.dst ≠ some t) → a.tmps.getD t undef = a0.tmps.getD t undef) → Q .normal a w) : (Code.region id ops true).wp P Q a0 w0 := by
  refine wp_region_any hm ?_
  have hend : ∀ listed a w, RInv ops deps nt F a0 w0 listed a w → Region.ready .any ops listed = [] → Q .normal a w := by
    intro listed a w I hr
    have hall : ∀ n i, i < n → i < ops.size → listed.getD i false = true := by
      intro n
      induction n with
      | zero => intro i h; omega
      | succ n ih =>
        intro i h hi
        cases hl : listed.getD i false with
        | true => rfl
        | false =>
          have : i ∈ Region.ready .any ops listed := mem_ready.2 ⟨by rw [getD_ft (by rw [I.lsz]; exact hi)]; exact hl, ops[i], Array.getElem?_eq_getElem hi, fun e he hb => by
            have := (chk_row hchk (Array.getElem?_eq_getElem hi)).low e he hb
            exact ih e.on (by omega) (by omega)⟩
          rw [hr] at this; cases this
    exact hQ a w I.bel I.size I.dfr (fun i p d hp hd => I.fact i p d (hall _ i (Nat.lt_succ_self _) (Array.getElem?_eq_some_iff.1 hp).1) hp hd) I.base
  have main : ∀ (k : Nat) (listed : Array Bool) (a : Go.Act) (w : World), RInv ops deps nt F a0 w0 listed a w → (unl ops.size listed).length = k → wpAny P .any ops Q k listed a w := by
    intro k
    induction k with
    | zero =>
      intro listed a w I hk
      have hready : Region.ready .any ops listed = [] := by
        cases hh : Region.ready .any ops listed with
        | nil => rfl
        | cons i rest =>
          exfalso
          have hi : i ∈ Region.ready .any ops listed := by rw [hh]; exact List.mem_cons_self
          obtain ⟨h0, o, ho, _⟩ := mem_ready.1 hi
          have hlt : i < ops.size := (Array.getElem?_eq_some_iff.1 ho).1
          rw [getD_ft (by rw [I.lsz]; exact hlt)] at h0
          have : i ∈ unl ops.size listed := by simp [unl, hlt]; simpa using h0
          rw [List.length_eq_zero_iff.1 hk] at this
          cases this
      exact ⟨hready, hend listed a w I hready⟩
    | succ k ih =>
      intro listed a w I hk
      refine ⟨hend listed a w I, fun i hi => ?_⟩
      obtain ⟨h0, o, ho, hpre⟩ := mem_ready.1 hi
      have hlt : i < ops.size := (Array.getElem?_eq_some_iff.1 ho).1
      rw [getD_ft (by rw [I.lsz]; exact hlt)] at h0
      have R := chk_row hchk ho
      have hdeps : ∀ j ∈ deps i, listed.getD j false = true := fun j hj => by
        obtain ⟨e, he, hb, h⟩ := R.dep j hj
        have hle := hpre e he hb
        rcases h with rfl | h
        · exact hle
        · exact I.clos _ hle j h
      unfold wpOp
      rw [ho]
      show (if Region.wanted o (yielded ops a.tmps) then _ else _)
      have hw : Region.wanted o (yielded ops a.tmps) = true := by unfold Region.wanted; rw [R.guard]
      rw [if_pos hw]
      refine .inl (hop i o ho a w I.bel (fun j hj p d hp hd => ?_) (fun t ht => ?_) _ fun v w' hb hF => ih _ _ _ ?_ ?_)
      · exact I.fact j p d (hdeps j hj) hp hd
      · exact I.base t ht
      · refine ⟨I.bel.trans (hb.mono I.bel.size), by rw [put_size]; exact I.size, by rw [put_defers]; exact I.dfr, ?_, ?_, ?_, by simp [I.lsz]⟩
        · intro j p d hjs hp hd
          rcases (getD_set listed (by rw [I.lsz]; exact hlt) j).1 hjs with hj | rfl
          · have hne : o.dst ≠ some d := fun hod => by
              have := R.one d hod j p hp hd
              subst this; rw [h0] at hj; cases hj
            have : (a.put o.dst v).tmps.getD d undef = a.tmps.getD d undef := by
              cases hod : o.dst with
              | none => rfl
              | some d' =>
                rw [put_get a d' v (by rw [I.size]; exact R.lt d' hod), if_neg (fun e => hne (by rw [hod, e]))]
            rw [this]
            exact hmono _ _ _ _ (I.fact j p d hj hp hd) hb
          · rw [ho] at hp; injection hp with hp; subst hp
            rw [hd, put_get a d v (by rw [I.size]; exact R.lt d hd), if_pos rfl]
            exact hF
        · intro t ht
          have hne := ht i o ho
          have : (a.put o.dst v).tmps.getD t undef = a.tmps.getD t undef := by
            cases hod : o.dst with
            | none => rfl
            | some d' => rw [put_get a d' v (by rw [I.size]; exact R.lt d' hod), if_neg (fun e => hne (by rw [hod, e]))]
          rw [this]; exact I.base t ht
        · intro j hj s hs
          refine (getD_set listed (by rw [I.lsz]; exact hlt) s).2 (.inl ?_)
          rcases (getD_set listed (by rw [I.lsz]; exact hlt) j).1 hj with hj | rfl
          · exact I.clos j hj s hs
          · exact hdeps s hs
      · have := unl_set I.lsz hlt h0; omega
  have hrep : ∀ q, (Array.replicate ops.size false).getD q false = false := by
    intro q
    rw [Array.getD_eq_getD_getElem?, Array.getElem?_replicate]
    split <;> rfl
  refine main ops.size _ a0 _ ⟨⟨rfl, rfl, rfl, Nat.le_refl _, fun _ _ => rfl⟩, hsz, rfl, fun i p d hl => (by rw [hrep] at hl; cases hl), fun t _ => rfl, fun i hl => (by rw [hrep] at hl; cases hl), by simp⟩ ?_
  have : unl ops.size (Array.replicate ops.size false) = List.range ops.size := by
    unfold unl
    rw [List.filter_eq_self]
    intro q hq
    rw [hrep q]; rfl
  rw [this, List.length_range]
/-- What an operation comes to, at given operands. -/
def OpTo (P : Program) (ρ : Operand → Value) (o : Oper) (w : World) (G : Value → World → Prop) : Prop :=
  (∃ v w', (execOp ρ o).run P w = .ok (.value v) w' ∧ Below w.heap.size w w' ∧ G v w') ∨
  (∃ f args, (execOp ρ o).run P w = .ok (.enter f args) w ∧ Calls P f args w fun e w' => ∃ v, e = .returned v ∧ Below w.heap.size w w' ∧ G v w')
theorem OpTo.wp {a : Go.Act} {o : Oper} {w : World} {G : Value → World → Prop} (h : OpTo P a.eval o w G) (K : Go.Act → World → Prop) (hK : ∀ v w', Below w.heap.size w w' → G v w' → K (a.put o.dst v) w') : o.wp P a w K Q := by
  unfold Oper.wp
  rcases h with ⟨v, w', h1, h2, h3⟩ | ⟨f, args, h1, h2⟩
  · rw [h1]; exact hK _ _ h2 h3
  · rw [h1]
    exact h2.mono fun e w' he => by obtain ⟨v, rfl, h3, h4⟩ := he; exact hK _ _ h3 h4
def free (ops : Array Oper) (t : Tmp) : Bool := ops.toList.all fun p => !(p.dst == some t)
theorem free_some {t : Tmp} (h : free ops t = true) (j : Nat) (p : Oper) (hj : ops[j]? = some p) : p.dst ≠ some t := by
  have := List.all_eq_true.1 h p (by
    obtain ⟨h2, h3⟩ := Array.getElem?_eq_some_iff.1 hj
    exact h3 ▸ Array.mem_toList_iff.2 (Array.getElem_mem h2))
  simpa using this
theorem region_to (hm : P.follows .mixedOrders = true) {id : Nat} (hchk : chk ops deps nt = true) (hsz : a0.tmps.size = nt)
    (hmono : ∀ i v w w', F i v w → Below w.heap.size w w' → F i v w')
    (hop : ∀ (i : Nat) (o : Oper), ops[i]? = some o → ∀ (ρ : Operand → Value) (w : World), (∀ v, ρ (.const v) = v) → (∀ f, ρ (.func f) = .func (.func f) #[] #[]) → Below w0.heap.size w0 w →
      (∀ j ∈ deps i, ∀ (p : Oper) (d : Tmp), ops[j]? = some p → p.dst = some d → F j (ρ (.tmp d)) w) → (∀ t, free ops t = true → ρ (.tmp t) = a0.eval (.tmp t)) → OpTo P ρ o w (F i))
    (hQ : ∀ a w, Below w0.heap.size w0 w → a.tmps.size = nt → a.defers = a0.defers → (∀ (i : Nat) (p : Oper) (d : Tmp), ops[i]? = some p → p.dst = some d → F i (a.tmps.getD d undef) w) →
      (∀ t, free ops t = true → a.tmps.getD t undef = a0.tmps.getD t undef) → Q .normal a w) : (Code.region id ops true).wp P Q a0 w0 :=
  region_facts hm hchk hsz hmono
    (fun i o ho a w hb hd hf K hK => (hop i o ho a.eval w (fun _ => rfl) (fun _ => rfl) hb hd (fun t ht => hf t (free_some ht))).wp K hK)
    (fun a w hb h1 h2 h3 h4 => hQ a w hb h1 h2 h3 fun t ht => h4 t (free_some ht))
/-- What an operation comes to, at given operands; a store brings nothing. -/
def OpIs (P : Program) (ρ : Operand → Value) (o : Oper) (w : World) (G : Value → World → Prop) : Prop :=
  (∃ v w', (execOp ρ o).run P w = .ok (.value v) w' ∧ G v w') ∨ (∃ w', (execOp ρ o).run P w = .ok .skip w' ∧ G undef w') ∨
  (∃ f args, (execOp ρ o).run P w = .ok (.enter f args) w ∧ Calls P f args w fun e w' => ∃ v, e = .returned v ∧ G v w')
theorem OpIs.wp {a : Go.Act} {o : Oper} {w : World} {G : Value → World → Prop} (h : OpIs P a.eval o w G) (K : Go.Act → World → Prop) (hK : ∀ v w', G v w' → K (a.put o.dst v) w') : o.wp P a w K Q := by
  unfold Oper.wp
  rcases h with ⟨v, w', h1, h3⟩ | ⟨w', h1, h3⟩ | ⟨f, args, h1, h2⟩
  · rw [h1]; exact hK _ _ h3
  · rw [h1]; exact hK _ _ h3
  · rw [h1]
    exact h2.mono fun e w' he => by obtain ⟨v, rfl, h4⟩ := he; exact hK _ _ h4
/-- One more is done. -/
def dn (D : Nat → Bool) (i k : Nat) : Bool := if k = i then true else D k
def vn (val : Nat → Value) (i : Nat) (v : Value) (k : Nat) : Value := if k = i then v else val k
structure GInv (ops : Array Oper) (deps : Nat → List Nat) (nt : Nat) (F : Nat → Value → Prop) (G : (Nat → Bool) → (Nat → Value) → World → Prop) (a0 : Go.Act) (listed : Array Bool) (val : Nat → Value) (a : Go.Act) (w : World) : Prop where
  inv : G (fun k => listed.getD k false) val w
  size : a.tmps.size = nt
  dfr : a.defers = a0.defers
  fact : ∀ (i : Nat) (p : Oper) (d : Tmp), listed.getD i false = true → ops[i]? = some p → p.dst = some d → a.tmps.getD d undef = val i ∧ F i (val i)
  base : ∀ t, (∀ (i : Nat) (p : Oper), ops[i]? = some p → p.dst ≠ some t) → a.tmps.getD t undef = a0.tmps.getD t undef
  clos : ∀ i, listed.getD i false = true → ∀ j ∈ deps i, listed.getD j false = true
  lsz : listed.size = ops.size
theorem region_inv {F : Nat → Value → Prop} {G : (Nat → Bool) → (Nat → Value) → World → Prop} (hm : P.follows .mixedOrders = true) {id : Nat} (hchk : chk ops deps nt = true) (hsz : a0.tmps.size = nt)
    (h0 : G (fun _ => false) (fun _ => undef) { w0 with drawn := w0.drawn + 1 })
    (hop : ∀ (i : Nat) (o : Oper), ops[i]? = some o → ∀ (D : Nat → Bool) (val : Nat → Value) (ρ : Operand → Value) (w : World), (∀ v, ρ (.const v) = v) → (∀ f, ρ (.func f) = .func (.func f) #[] #[]) → D i = false → (∀ j ∈ deps i, D j = true) →
      (∀ k, D k = true → ∀ j ∈ deps k, D j = true) → G D val w → (∀ j, D j = true → ∀ (p : Oper) (d : Tmp), ops[j]? = some p → p.dst = some d → ρ (.tmp d) = val j ∧ F j (val j)) → (∀ t, free ops t = true → ρ (.tmp t) = a0.eval (.tmp t)) →
      OpIs P ρ o w fun v w' => F i v ∧ G (dn D i) (vn val i v) w')
    (hQ : ∀ a w D val, G D val w → (∀ i, i < ops.size → D i = true) → a.tmps.size = nt → a.defers = a0.defers → (∀ (i : Nat) (p : Oper) (d : Tmp), ops[i]? = some p → p.dst = some d → a.tmps.getD d undef = val i ∧ F i (val i)) →
      (∀ t, free ops t = true → a.tmps.getD t undef = a0.tmps.getD t undef) → Q .normal a w) : (Code.region id ops true).wp P Q a0 w0 := by
  refine wp_region_any hm ?_
  have hend : ∀ listed val a w, GInv ops deps nt F G a0 listed val a w → Region.ready .any ops listed = [] → Q .normal a w := by
    intro listed val a w I hr
    have hall : ∀ n i, i < n → i < ops.size → listed.getD i false = true := by
      intro n
      induction n with
      | zero => intro i h; omega
      | succ n ih =>
        intro i h hi
        cases hl : listed.getD i false with
        | true => rfl
        | false =>
          have : i ∈ Region.ready .any ops listed := mem_ready.2 ⟨by rw [getD_ft (by rw [I.lsz]; exact hi)]; exact hl, ops[i], Array.getElem?_eq_getElem hi, fun e he hb => by
            have := (chk_row hchk (Array.getElem?_eq_getElem hi)).low e he hb
            exact ih e.on (by omega) (by omega)⟩
          rw [hr] at this; cases this
    exact hQ a w _ val I.inv (fun i hi => hall _ i (Nat.lt_succ_self _) hi) I.size I.dfr (fun i p d hp hd => I.fact i p d (hall _ i (Nat.lt_succ_self _) (Array.getElem?_eq_some_iff.1 hp).1) hp hd) (fun t ht => I.base t (free_some ht))
  have main : ∀ (k : Nat) (listed : Array Bool) (val : Nat → Value) (a : Go.Act) (w : World), GInv ops deps nt F G a0 listed val a w → (unl ops.size listed).length = k → wpAny P .any ops Q k listed a w := by
    intro k
    induction k with
    | zero =>
      intro listed val a w I hk
      have hready : Region.ready .any ops listed = [] := by
        cases hh : Region.ready .any ops listed with
        | nil => rfl
        | cons i rest =>
          exfalso
          have hi : i ∈ Region.ready .any ops listed := by rw [hh]; exact List.mem_cons_self
          obtain ⟨h0, o, ho, _⟩ := mem_ready.1 hi
          have hlt : i < ops.size := (Array.getElem?_eq_some_iff.1 ho).1
          rw [getD_ft (by rw [I.lsz]; exact hlt)] at h0
          have : i ∈ unl ops.size listed := by simp [unl, hlt]; simpa using h0
          rw [List.length_eq_zero_iff.1 hk] at this
          cases this
      exact ⟨hready, hend listed val a w I hready⟩
    | succ k ih =>
      intro listed val a w I hk
      refine ⟨hend listed val a w I, fun i hi => ?_⟩
      obtain ⟨h0, o, ho, hpre⟩ := mem_ready.1 hi
      have hlt : i < ops.size := (Array.getElem?_eq_some_iff.1 ho).1
      rw [getD_ft (by rw [I.lsz]; exact hlt)] at h0
      have R := chk_row hchk ho
      have hdeps : ∀ j ∈ deps i, listed.getD j false = true := fun j hj => by
        obtain ⟨e, he, hb, h⟩ := R.dep j hj
        have hle := hpre e he hb
        rcases h with rfl | h
        · exact hle
        · exact I.clos _ hle j h
      unfold wpOp
      rw [ho]
      show (if Region.wanted o (yielded ops a.tmps) then _ else _)
      have hw : Region.wanted o (yielded ops a.tmps) = true := by unfold Region.wanted; rw [R.guard]
      rw [if_pos hw]
      refine .inl ((hop i o ho (fun k => listed.getD k false) val a.eval w (fun _ => rfl) (fun _ => rfl) h0 hdeps I.clos I.inv (fun j hj p d hp hd => I.fact j p d hj hp hd) (fun t ht => I.base t (free_some ht))).wp _ fun v w' hF => ih _ (vn val i v) _ _ ?_ ?_)
      · have hD : (fun k => (listed.setIfInBounds i true).getD k false) = dn (fun k => listed.getD k false) i := by
          funext q
          have := getD_set listed (by rw [I.lsz]; exact hlt) q
          unfold dn
          by_cases hq : q = i
          · rw [if_pos hq]; exact this.2 (.inr hq)
          · rw [if_neg hq]
            show (listed.setIfInBounds i true).getD q false = listed.getD q false
            cases h1 : listed.getD q false with
            | true => exact this.2 (.inl h1)
            | false =>
              cases h2 : (listed.setIfInBounds i true).getD q false with
              | false => rfl
              | true =>
                rcases this.1 h2 with h3 | h3
                · rw [h1] at h3; cases h3
                · exact absurd h3 hq
        refine ⟨by rw [hD]; exact hF.2, by rw [put_size]; exact I.size, by rw [put_defers]; exact I.dfr, ?_, ?_, ?_, by simp [I.lsz]⟩
        · intro j p d hjs hp hd
          rcases (getD_set listed (by rw [I.lsz]; exact hlt) j).1 hjs with hj | rfl
          · have hne : o.dst ≠ some d := fun hod => by
              have := R.one d hod j p hp hd
              subst this; rw [h0] at hj; cases hj
            have hji : j ≠ i := fun e => by subst e; rw [h0] at hj; cases hj
            have : (a.put o.dst v).tmps.getD d undef = a.tmps.getD d undef := by
              cases hod : o.dst with
              | none => rfl
              | some d' =>
                rw [put_get a d' v (by rw [I.size]; exact R.lt d' hod), if_neg (fun e => hne (by rw [hod, e]))]
            rw [this]
            unfold vn
            rw [if_neg hji]
            exact I.fact j p d hj hp hd
          · rw [ho] at hp; injection hp with hp; subst hp
            rw [hd, put_get a d v (by rw [I.size]; exact R.lt d hd), if_pos rfl]
            unfold vn
            rw [if_pos rfl]
            exact ⟨rfl, hF.1⟩
        · intro t ht
          have hne := ht i o ho
          have : (a.put o.dst v).tmps.getD t undef = a.tmps.getD t undef := by
            cases hod : o.dst with
            | none => rfl
            | some d' => rw [put_get a d' v (by rw [I.size]; exact R.lt d' hod), if_neg (fun e => hne (by rw [hod, e]))]
          rw [this]; exact I.base t ht
        · intro j hj s hs
          refine (getD_set listed (by rw [I.lsz]; exact hlt) s).2 (.inl ?_)
          rcases (getD_set listed (by rw [I.lsz]; exact hlt) j).1 hj with hj | rfl
          · exact I.clos j hj s hs
          · exact hdeps s hs
      · have := unl_set I.lsz hlt h0; omega
  have hrep : ∀ q, (Array.replicate ops.size false).getD q false = false := by
    intro q
    rw [Array.getD_eq_getD_getElem?, Array.getElem?_replicate]
    split <;> rfl
  refine main ops.size _ (fun _ => undef) a0 _ ⟨by rw [show (fun k => (Array.replicate ops.size false).getD k false) = fun _ => false from funext hrep]; exact h0, hsz, rfl, fun i p d hl => (by rw [hrep] at hl; cases hl), fun t _ => rfl, fun i hl => (by rw [hrep] at hl; cases hl), by simp⟩ ?_
  have : unl ops.size (Array.replicate ops.size false) = List.range ops.size := by
    unfold unl
    rw [List.filter_eq_self]
    intro q hq
    rw [hrep q]; rfl
  rw [this, List.length_range]
theorem act_eq {a : Go.Act} {t : Array Value} {d : List Deferred} (h1 : a.tmps = t) (h2 : a.defers = d) : a = { tmps := t, defers := d } := by
  cases a; subst h1; subst h2; rfl
/-- All slots, written out. -/
theorem tmps_all (a : Go.Act) : a.tmps = ((List.range a.tmps.size).map fun t => a.tmps.getD t undef).toArray := by
  apply Array.ext
  · simp
  · intro i h1 h2
    simp [Array.getD_eq_getD_getElem?, Array.getElem?_eq_getElem h1]
end
end Go.Rg
