/- The abstract machine, part 23: temporaries, one operation in a frame, regions in their order. · The abstract machine, part 24: plans; what is compared. · The abstract machine, part 25: regions whose order is open. -/
import Derived.Test.YtecihapafnpgbaaGreatAmD
import Derived.Orders
set_option linter.unusedSimpArgs false
set_option linter.unusedVariables false
set_option linter.constructorNameAsVariable false
set_option linter.unusedSectionVars false
namespace Go.Am
set_option linter.unusedSectionVars false
variable [Env]
open Go.RowKit (Below)
set_option linter.unusedSimpArgs false
set_option linter.unusedVariables false

/-- Something that may be there, and what the model has in its place. -/
def TV (σ : Sg) (ov : Option Value) (v' : Value) : Prop :=
  match ov with
  | some v => VRel σ v v'
  | none => v' = undef

theorem TV.mono {σ τ : Sg} (h : Sub σ τ) {ov : Option Value} {v' : Value} (hv : TV σ ov v') : TV τ ov v' := by
  cases ov with
  | none => exact hv
  | some v => exact VRel.mono h hv

/-- The temporaries. -/
def TRel (σ : Sg) (nt : Nat) (tm : Tr Value) (a : Go.Act) : Prop := a.tmps.size = nt ∧ ∀ t p, path t = some p → TV σ (tm.getP p) (a.tmps.getD t undef)

theorem TRel.mono {σ τ : Sg} (h : Sub σ τ) {nt : Nat} {tm : Tr Value} {a : Go.Act} (ht : TRel σ nt tm a) : TRel τ nt tm a := ⟨ht.1, fun t p hp => (ht.2 t p hp).mono h⟩

theorem path_inj {n m : Nat} {p : List Dg} (h : path n = some p) (k : path m = some p) : n = m := pathF_inj _ _ _ _ h k

theorem put_getD (a : Go.Act) (d t : Nat) (v : Value) (hd : d < a.tmps.size) : (a.put (some d) v).tmps.getD t undef = if t = d then v else a.tmps.getD t undef := by
  simp only [Go.Act.put, Array.getD_eq_getD_getElem?, Array.getElem?_setIfInBounds]
  by_cases h : d = t
  · subst h; simp [hd]
  · rw [if_neg h, if_neg (fun e => h e.symm)]

theorem put_size (a : Go.Act) (d : Option Tmp) (v : Value) : (a.put d v).tmps.size = a.tmps.size := by
  cases d <;> simp [Go.Act.put]

theorem cTmp_some {nt : Nat} {d : Option Tmp} {x : Option (List Dg)} (h : cTmp nt d = some x) : (d = none ∧ x = none) ∨ ∃ t p, d = some t ∧ x = some p ∧ t < nt ∧ path t = some p := by
  cases d with
  | none => injection (show some (none : Option (List Dg)) = some x from h) with h; exact .inl ⟨rfl, h.symm⟩
  | some t =>
    obtain ⟨h1, h⟩ := bC_none.1 (show bC (Nat.ble nt t) none ((path t).b fun p => some (some p)) = some x from h)
    obtain ⟨p, hp, h⟩ := b_some.1 h
    injection h with h
    exact .inr ⟨t, p, rfl, h.symm, (nblef _ _).1 h1, hp⟩

theorem cGuard_some {nt : Nat} {g : Option (Option Tmp × Bool)} {x : Option (Option (List Dg) × Bool)} (h : cGuard nt g = some x) : (g = none ∧ x = none) ∨ ∃ d want y, g = some (d, want) ∧ x = some (y, want) ∧ cTmp nt d = some y := by
  cases g with
  | none => injection (show some (none : Option (Option (List Dg) × Bool)) = some x from h) with h; exact .inl ⟨rfl, h.symm⟩
  | some g =>
    obtain ⟨d, want⟩ := g
    obtain ⟨y, hy, h⟩ := b_some.1 (show ((cTmp nt d).b fun d => fB want fun want => some (some (d, want))) = some x from h)
    rw [fB_eq] at h
    injection h with h
    exact .inr ⟨d, want, y, rfl, h.symm, hy⟩

section
variable {P : Program} {base nt : Nat} {σ : Sg} {m : Mem} {w : World} {o : Oper} {tm : Tr Value} {a : Go.Act} {ops : Array Oper}

theorem TRel.put {d : Option Tmp} {x : Option (List Dg)} (hd : cTmp nt d = some x) {v v' : Value} (hv : VRel σ v v') {tm' : Tr Value} (hp : putA tm x v = some tm') (h : TRel σ nt tm a) : TRel σ nt tm' (a.put d v') := by
  rcases cTmp_some hd with ⟨rfl, rfl⟩ | ⟨t, p, rfl, rfl, hlt, hpt⟩
  · injection (show some tm = some tm' from hp) with hp; subst hp; exact h
  · refine ⟨by rw [put_size]; exact h.1, fun u q hq => ?_⟩
    rw [Tr.setP_getP (some v) p tm tm' hp q, put_getD a t u v' (by rw [h.1]; exact hlt)]
    by_cases e : u = t
    · subst e
      rw [hpt] at hq; injection hq with hq
      rw [if_pos hq.symm, if_pos rfl]; exact hv
    · rw [if_neg e, if_neg (by rintro rfl; exact e (path_inj hq hpt))]
      exact h.2 u q hq

/-- What an operation names. -/
noncomputable def namesO (all : List Oper) (o : Oper) : List Tmp := (o.op.operands.toList.filterMap tmpOf) ++ (oC (guardT all o) [] fun g => g.1.toList)

def NamesOk (σ : Sg) (tm : Tr Value) (a : Go.Act) (l : List Tmp) : Prop := ∀ t ∈ l, ∀ p, path t = some p → TV σ (tm.getP p) (a.tmps.getD t undef)

theorem TRel.names (h : TRel σ nt tm a) (l : List Tmp) : NamesOk σ tm a l := fun t _ p hp => h.2 t p hp

theorem constV_flat {v u : Value} (h : isFlat 10 v = true) (hc : constV v = some u) : u = v := by
  unfold constV at hc
  cases hv : vInt v with
  | none => rw [hv] at hc; injection (show some v = some u from hc) with hc; exact hc.symm
  | some x =>
    rw [hv] at hc
    obtain ⟨k, n⟩ := x
    have hc : (fI n fun n => some (Value.int k n)) = some u := hc
    rw [fI_eq] at hc
    injection hc with hc
    rw [vInt_some hv, hc]

/-- The operands, off the names. -/
theorem NamesOk.hyp (h : NamesOk σ tm a (namesO ops.toList o)) : OpHyp σ tm a.eval o := by
  intro x hx c v hc hv
  cases x with
  | tmp t =>
    obtain ⟨p, hp, hc⟩ := b_some.1 (show ((path t).b fun p => some (Oc.way p)) = some c from hc)
    injection hc with hc; subst hc
    have hm : t ∈ namesO ops.toList o := List.mem_append_left _ (List.mem_filterMap.2 ⟨.tmp t, by simpa using hx, rfl⟩)
    have := h t hm p hp
    rw [show tm.getP p = some v from hv] at this
    exact this
  | const u =>
    obtain ⟨hf, hc⟩ := bC_some.1 (show bC (isFlat 10 u) ((constV u).b fun v => some (Oc.val v)) none = some c from hc)
    obtain ⟨u', hu', hc⟩ := b_some.1 hc
    injection hc with hc; subst hc
    injection (show some u' = some v from hv) with hv; subst hv
    rw [constV_flat hf hu']
    exact (isFlat_flat _ _ hf).rel
  | global g => cases hc
  | func f =>
    injection (show some (Oc.val (.func (.func f) ⟨[]⟩ ⟨[]⟩)) = some c from hc) with hc; subst hc
    injection (show some (Value.func (.func f) ⟨[]⟩ ⟨[]⟩) = some v from hv) with hv; subst hv
    exact (Flat.fn f).rel

/-- The guard. -/
theorem wanted_eq {g : Option (Option (List Dg) × Bool)} (hg : cGuard nt (guardT ops.toList o) = some g) (hsz : a.tmps.size = nt) (h : NamesOk σ tm a (namesO ops.toList o)) :
    Region.wanted o (yielded ops a.tmps) = wantedA tm g := by
  rcases cGuard_some hg with ⟨h1, rfl⟩ | ⟨d, want, y, h1, rfl, hd⟩
  · have : o.guard = none := by
      unfold guardT at h1
      cases ho : o.guard with
      | none => rfl
      | some g => rw [ho] at h1; obtain ⟨j, w⟩ := g; cases h1
    rw [Region.wanted, this]; rfl
  · obtain ⟨j, hj, hdd⟩ : ∃ j, o.guard = some (j, want) ∧ d = oC ops.toList[j]? none (fun o => o.dst) := by
      unfold guardT at h1
      cases ho : o.guard with
      | none => rw [ho] at h1; cases h1
      | some g =>
        rw [ho] at h1; obtain ⟨j, w⟩ := g
        injection (show some (oC ops.toList[j]? none (fun o => o.dst), w) = some (d, want) from h1) with h1
        injection h1 with h1 h2
        exact ⟨j, by rw [h2], h1.symm⟩
    have hdd' : d = (ops[j]?).bind (·.dst) := by
      rw [hdd]
      cases hj : ops[j]? with
      | none => rw [show ops.toList[j]? = none from by simpa using hj]; rfl
      | some o' => rw [show ops.toList[j]? = some o' from by simpa using hj]; rfl
    rw [Region.wanted, hj]
    show (yielded ops a.tmps j == some want) = oC y false fun d => oC (tm.getP d) false fun v => oC (vBool v) false fun b => eqB b want
    rcases cTmp_some hd with ⟨hd0, rfl⟩ | ⟨t, p, hd0, rfl, hlt, hpt⟩
    · rw [hd0] at hdd'
      unfold yielded
      rw [← hdd']; rfl
    · rw [hd0] at hdd'
      unfold yielded
      rw [← hdd']
      have hm : t ∈ namesO ops.toList o := by
        refine List.mem_append_right _ ?_
        rw [h1, hd0]
        exact List.mem_singleton.2 rfl
      have ht := h t hm p hpt
      have hget : a.tmps[t]? = some (a.tmps.getD t undef) := by
        rw [Array.getD_eq_getD_getElem?]
        rw [Array.getElem?_eq_getElem (by rw [hsz]; exact hlt)]; rfl
      show ((match a.tmps[t]? with | some (Value.bool b) => some b | _ => none) == some want) = oC (tm.getP p) false fun v => oC (vBool v) false fun b => eqB b want
      rw [hget]
      cases hv : tm.getP p with
      | none =>
        rw [hv] at ht
        rw [show a.tmps.getD t undef = undef from ht]; rfl
      | some v =>
        rw [hv] at ht
        show _ = oC (vBool v) false fun b => eqB b want
        cases hb : vBool v with
        | some b =>
          have := vBool_some hb; subst this
          rw [(show VRel σ (.bool b) _ from ht).bool_inv]
          show (some b == some want) = eqB b want
          rw [Bool.eq_iff_iff, eqB_eq]; simp
        | none =>
          generalize a.tmps.getD t undef = v' at ht
          have ht : VRel σ v v' := ht
          cases ht with
          | nm b hn => cases hn <;> rfl
          | bool b => cases hb
          | _ => rfl

theorem cOp_some {all : List Oper} {h : OpF} {dst : Option (List Dg)} {g : Option (Option (List Dg) × Bool)} (hc : cOp P nt all o = some (.mk h dst g)) :
    cTmp nt o.dst = some dst ∧ cGuard nt (guardT all o) = some g ∧ (opC P o.op = some h ∨ (opC P o.op = none ∧ h = oNone)) := by
  obtain ⟨d, hd, hc⟩ := b_some.1 hc
  obtain ⟨g', hg, hc⟩ := b_some.1 hc
  cases ho : opC P o.op with
  | none =>
    rw [ho] at hc
    injection (show some (Cop.mk oNone d g') = some (.mk h dst g) from hc) with hc; injection hc with h1 h2 h3
    subst h1; subst h2; subst h3
    exact ⟨hd, hg, .inr ⟨rfl, rfl⟩⟩
  | some k =>
    rw [ho] at hc
    injection (show some (Cop.mk k d g') = some (.mk h dst g) from hc) with hc; injection hc with h1 h2 h3
    subst h1; subst h2; subst h3
    exact ⟨hd, hg, .inl rfl⟩
theorem cOp_op {all : List Oper} {h : OpF} {dst : Option (List Dg)} {g : Option (Option (List Dg) × Bool)} (hc : cOp P nt all o = some (.mk h dst g)) {act : Act} (hf : h tm m = some act) : opC P o.op = some h := by
  rcases (cOp_some hc).2.2 with h1 | ⟨_, rfl⟩
  · exact h1
  · cases hf

/-- What a call or an operation comes to. -/
def Ro.mem : Ro → Mem
  | .ret _ m => m
  | .panic _ m => m
def CallR (P : Program) (base : Nat) (σ : Sg) (m : Mem) (w : World) (r : Ro) (e : Ending) (w' : World) : Prop :=
  ∃ σ', Ext σ m σ' r.mem ∧ Below base w w' ∧ Rel P base σ' r.mem w' ∧
    match r with
    | .ret v _ => ∃ v', e = .returned v' ∧ VRel σ' v v'
    | .panic v _ => ∃ v', e = .panicked [{ v := v', recovered := false }] ∧ VRel σ' v v'

def CallOk (P : Program) (base : Nat) (f : FuncId) (hk : Hook) : Prop :=
  ∀ args m r, hk args m = some r → ∀ (σ : Sg) (w : World) (args' : List Value), Rel P base σ m w → LRel σ args args' →
    (∃ fn, P.funcs[f]? = some fn ∧ fn.body.isSome = true ∧ (fn.name == "runtime.NumGoroutine") = false) ∧ Calls P f ⟨args'⟩ w (CallR P base σ m w r)

theorem run_callFunc {f : FuncId} {args : Array Value} {fn : Func} (h1 : P.funcs[f]? = some fn) (h2 : fn.body.isSome = true) (h3 : (fn.name == "runtime.NumGoroutine") = false) (w : World) :
    (callFunc f args).run P w = .ok (.enter f args) w := by
  unfold callFunc
  have hb : fn.body.isNone = false := by cases hh : fn.body <;> simp_all
  have h4 : ¬ (fn.name = "runtime.NumGoroutine") := by simpa using h3
  have h5 : ¬ (fn.body = none) := by intro h; rw [h] at h2; cases h2
  simp [program, Sem.run_bind, Sem.run, h1, h4, h5]

/-- One operation. -/
theorem exec_op (F : Fit P) {callF : FuncId → Hook} (HC : ∀ f, CallOk P base f (callF f)) {i : Nat} (ho : ops[i]? = some o) (hw : Region.wanted o (yielded ops a.tmps) = true) {g : OpF} (hg : opC P o.op = some g)
    (hyp : OpHyp σ tm a.eval o) (rel : Rel P base σ m w) {r : Ro} (hf : (g tm m).b (actA callF m) = some r) {Q : Exit → Go.Act → World → Prop} {K : Go.Act → World → Prop}
    (hK : ∀ v m' v' w' σ', r = .ret v m' → VRel σ' v v' → Rel P base σ' m' w' → Ext σ m σ' m' → Below base w w' → K (a.put o.dst v') w')
    (hP : ∀ v m' v' w' σ', r = .panic v m' → VRel σ' v v' → Rel P base σ' m' w' → Ext σ m σ' m' → Below base w w' → Q (.panic [{ v := v', recovered := false }]) a w') : wpOp P ops Q i K a w := by
  obtain ⟨act, hact, hr⟩ := b_some.1 hf
  have hs := sim_op F rel hyp hg hact
  unfold wpOp
  simp only [ho, hw, if_true]
  refine .inl ?_
  unfold Oper.wp
  cases act with
  | val v m' =>
    injection (show some (Ro.ret v m') = some r from hr) with hr
    obtain ⟨n, v', w', σ', h1, h2, h3, h4, h5, h6⟩ := hs
    rw [h1]
    have := hK v m' v' w' σ' hr.symm h3 h4 h5 h6
    cases n with
    | value u => injection h2 with h2; subst h2; exact this
    | skip => injection h2 with h2; subst h2; exact this
    | _ => cases h2
  | call f args =>
    obtain ⟨args', h1, h2⟩ := hs
    obtain ⟨⟨fn, g1, g2, g3⟩, hc⟩ := HC f args m r hr σ w args' rel h2
    rw [h1, run_callFunc g1 g2 g3]
    refine Calls.mono hc fun e w' he => ?_
    obtain ⟨σ', e1, e2, e3, e4⟩ := he
    cases r with
    | ret v m' =>
      obtain ⟨v', rfl, hv⟩ := e4
      exact hK v m' v' w' σ' rfl hv e3 e1 e2
    | panic v m' =>
      obtain ⟨v', rfl, hv⟩ := e4
      exact hP v m' v' w' σ' rfl hv e3 e1 e2
  | panic v =>
    injection (show some (Ro.panic v m) = some r from hr) with hr
    obtain ⟨v', h1, h2⟩ := hs
    rw [h1]
    exact hP v m v' w σ hr.symm h2 rel (Ext.refl σ m) (Below.refl base w)

/-- What a statement comes to. -/
def RsQ (P : Program) (base nt : Nat) (σ : Sg) (m : Mem) (w : World) (a : Go.Act) (r : Rs) (Q : Exit → Go.Act → World → Prop) : Prop :=
  match r with
  | .normal (.mk tm m') => ∀ a' w' σ', TRel σ' nt tm a' → Rel P base σ' m' w' → Ext σ m σ' m' → Below base w w' → a'.defers = a.defers → Q .normal a' w'
  | .exit id (.mk tm m') => ∀ a' w' σ', TRel σ' nt tm a' → Rel P base σ' m' w' → Ext σ m σ' m' → Below base w w' → a'.defers = a.defers → Q (.exit id) a' w'
  | .ret (.mk tm m') => ∀ a' w' σ', TRel σ' nt tm a' → Rel P base σ' m' w' → Ext σ m σ' m' → Below base w w' → a'.defers = a.defers → Q .ret a' w'
  | .panic v m' => ∀ a' w' σ' v', VRel σ' v v' → Rel P base σ' m' w' → Ext σ m σ' m' → Below base w w' → a'.defers = a.defers → Q (.panic [{ v := v', recovered := false }]) a' w'

theorem RsQ.step {σ' : Sg} {m' : Mem} {w' : World} {a' : Go.Act} {r : Rs} {Q : Exit → Go.Act → World → Prop} (h : RsQ P base nt σ m w a r Q) (he : Ext σ m σ' m') (hb : Below base w w') (hd : a'.defers = a.defers) :
    RsQ P base nt σ' m' w' a' r Q := by
  cases r with
  | normal st => obtain ⟨tm, m2⟩ := st; exact fun a2 w2 σ2 h1 h2 h3 h4 h5 => h a2 w2 σ2 h1 h2 (he.trans h3) (hb.trans h4) (h5.trans hd)
  | exit id st => obtain ⟨tm, m2⟩ := st; exact fun a2 w2 σ2 h1 h2 h3 h4 h5 => h a2 w2 σ2 h1 h2 (he.trans h3) (hb.trans h4) (h5.trans hd)
  | ret st => obtain ⟨tm, m2⟩ := st; exact fun a2 w2 σ2 h1 h2 h3 h4 h5 => h a2 w2 σ2 h1 h2 (he.trans h3) (hb.trans h4) (h5.trans hd)
  | panic v m2 => exact fun a2 w2 σ2 v' h1 h2 h3 h4 h5 => h a2 w2 σ2 v' h1 h2 (he.trans h3) (hb.trans h4) (h5.trans hd)

theorem put_defers (a : Go.Act) (d : Option Tmp) (v : Value) : (a.put d v).defers = a.defers := by cases d <;> rfl

/-- A region in its order. -/
theorem ops_sim (F : Fit P) {callF : FuncId → Hook} (HC : ∀ f, CallOk P base f (callF f)) {Q : Exit → Go.Act → World → Prop} : ∀ (l : List Oper) (cs : List Cop) (k : Nat), ops.toList.drop k = l → cOps P nt ops.toList l = some cs →
    ∀ (tm : Tr Value) (m : Mem) (r : Rs), opsA callF cs tm m = some r → ∀ (σ : Sg) (a : Go.Act) (w : World), TRel σ nt tm a → Rel P base σ m w → RsQ P base nt σ m w a r Q →
    wpOps P ops Q (List.range' k l.length) a w := by
  intro l
  induction l with
  | nil =>
    intro cs k hk hc tm m r hr σ a w ht rel hq
    injection (show some ([] : List Cop) = some cs from hc) with hc; subst hc
    injection (show some (Rs.normal (.mk tm m)) = some r from hr) with hr; subst hr
    exact hq a w σ ht rel (Ext.refl σ m) (Below.refl base w) rfl
  | cons o l ih =>
    intro cs k hk hc tm m r hr σ a w ht rel hq
    obtain ⟨c, hco, hc⟩ := b_some.1 (show ((cOp P nt ops.toList o).b fun c => (cOps P nt ops.toList l).b fun r => some (c :: r)) = some cs from hc)
    obtain ⟨cs', hcs', hc⟩ := b_some.1 hc
    injection hc with hc; subst hc
    obtain ⟨h, dst, g⟩ := c
    obtain ⟨hd, hg, _⟩ := cOp_some hco
    have hko : ops[k]? = some o := by
      have : ops.toList[k]? = some o := by
        have := congrArg (fun l : List Oper => l[0]?) hk
        simpa using this
      simpa using this
    have hk' : ops.toList.drop (k + 1) = l := by
      rw [← List.drop_drop, hk]; rfl
    rw [List.length_cons, List.range'_succ, wpOps_cons]
    have hr : bC (wantedA tm g) (((h tm m).b (actA callF m)).b fun r => Ro.rec (motive := fun _ => Option Rs) (fun v m => (putA tm dst v).b fun tm => opsA callF cs' tm m) (fun v m => some (.panic v m)) r)
        ((putA tm dst (.tuple ⟨[]⟩)).b fun tm => opsA callF cs' tm m) = some r := hr
    have hwn := wanted_eq hg ht.1 (ht.names (namesO ops.toList o))
    cases hwa : wantedA tm g with
    | false =>
      rw [hwa] at hr hwn
      obtain ⟨tm', hp, hr⟩ := b_some.1 hr
      unfold wpOp
      simp only [hko, hwn, Bool.false_eq_true, if_false]
      exact ih cs' (k + 1) hk' hcs' tm' m r hr σ _ w (ht.put hd (LRel.tuple .nil) hp) rel (hq.step (Ext.refl σ m) (Below.refl base w) (put_defers a o.dst undef))
    | true =>
      rw [hwa] at hr hwn
      obtain ⟨r1, hr1, hr⟩ := b_some.1 hr
      have hgo : opC P o.op = some h := by
        obtain ⟨act, hact, _⟩ := b_some.1 hr1
        exact cOp_op hco hact
      refine exec_op F HC hko hwn hgo (NamesOk.hyp (ops := ops) (ht.names _)) rel hr1 ?_ ?_
      · intro v m' v' w' σ' hr2 hv hrel he hb
        subst hr2
        obtain ⟨tm', hp, hr⟩ := b_some.1 (show ((putA tm dst v).b fun tm => opsA callF cs' tm m') = some r from hr)
        exact ih cs' (k + 1) hk' hcs' tm' m' r hr σ' _ w' ((ht.mono he.sub).put hd hv hp) hrel (hq.step he hb (put_defers a o.dst v'))
      · intro v m' v' w' σ' hr2 hv hrel he hb
        subst hr2
        injection (show some (Rs.panic v m') = some r from hr) with hr; subst hr
        exact hq a w' σ' v' hv hrel he hb rfl

end
end Go.Am
namespace Go.Am
set_option linter.unusedSectionVars false
variable [Env]
open Go.RowKit (Below)
set_option linter.unusedSimpArgs false
set_option linter.unusedVariables false

/-! What is compared. -/
theorem eqAddr_eq {x y : Option Addr} (h : eqAddr x y = true) : x = y := by
  unfold eqAddr at h
  cases x with
  | none =>
    cases y with
    | none => rfl
    | some b => cases h
  | some a =>
    cases y with
    | none => cases h
    | some b =>
      obtain ⟨b1, o1, s1⟩ := a
      obtain ⟨b2, o2, s2⟩ := b
      have h : bC (Nat.beq b1 b2) (bC (Nat.beq o1 o2) (oC s1 (oC s2 true fun _ => false) fun _ => false) false) false = true := h
      obtain ⟨h1, h⟩ : Nat.beq b1 b2 = true ∧ bC (Nat.beq o1 o2) (oC s1 (oC s2 true fun _ => false) fun _ => false) false = true := by
        cases h1 : Nat.beq b1 b2 with
        | false => rw [h1] at h; cases h
        | true => rw [h1] at h; exact ⟨rfl, h⟩
      obtain ⟨h2, h⟩ : Nat.beq o1 o2 = true ∧ (oC s1 (oC s2 true fun _ => false) fun _ => false) = true := by
        cases h2 : Nat.beq o1 o2 with
        | false => rw [h2] at h; cases h
        | true => rw [h2] at h; exact ⟨rfl, h⟩
      rw [(nbeq _ _).1 h1, (nbeq _ _).1 h2]
      cases s1 with
      | none =>
        cases s2 with
        | none => rfl
        | some s => cases h
      | some s => cases h

theorem eqCellV_eq {x y : Value} (h : eqCellV x y = true) : x = y := by
  unfold eqCellV at h
  cases hi : vInt x with
  | some a =>
    rw [hi] at h
    obtain ⟨k, n⟩ := a
    cases hj : vInt y with
    | none => rw [hj] at h; cases h
    | some b =>
      rw [hj] at h
      obtain ⟨l, p⟩ := b
      have h : bC (eqK k l) (eqI n p) false = true := h
      cases h1 : eqK k l with
      | false => rw [h1] at h; cases h
      | true => rw [h1] at h; rw [vInt_some hi, vInt_some hj, (eqK_eq _ _).1 h1, (eqI_eq _ _).1 h]
  | none =>
    rw [hi] at h
    cases hb : vBool x with
    | some a =>
      rw [hb] at h
      cases hj : vBool y with
      | none => rw [hj] at h; cases h
      | some b => rw [hj] at h; rw [vBool_some hb, vBool_some hj, (eqB_eq _ _).1 (show eqB a b = true from h)]
    | none =>
      rw [hb] at h
      cases hp : ptrV x with
      | some a =>
        rw [hp] at h
        cases hj : ptrV y with
        | none => rw [hj] at h; cases h
        | some b =>
          rw [hj] at h
          have := eqAddr_eq (show eqAddr a b = true from h); subst this
          cases x <;> try cases hp
          cases y <;> try cases hj
          rfl
      | none =>
        rw [hp] at h
        cases hs : vSlice x with
        | some a =>
          rw [hs] at h
          cases hj : vSlice y with
          | none => rw [hj] at h; cases h
          | some b =>
            rw [hj] at h
            obtain ⟨a, l, c⟩ := a
            obtain ⟨b, k, d⟩ := b
            have h : bC (Nat.beq l k) (bC (Nat.beq c d) (eqAddr a b) false) false = true := h
            cases h1 : Nat.beq l k with
            | false => rw [h1] at h; cases h
            | true =>
              rw [h1] at h
              cases h2 : Nat.beq c d with
              | false => rw [h2] at h; cases h
              | true =>
                rw [h2] at h
                rw [vSlice_some hs, vSlice_some hj, (nbeq _ _).1 h1, (nbeq _ _).1 h2, eqAddr_eq (show eqAddr a b = true from h)]
        | none =>
          rw [hs] at h
          cases ht : vStr x with
          | some a =>
            rw [ht] at h
            cases hj : vStr y with
            | none => rw [hj] at h; cases h
            | some b => rw [hj] at h; rw [vStr_some ht, vStr_some hj, (eqU8s_eq _ _).1 (show eqU8s a b = true from h)]
          | none =>
            rw [ht] at h
            cases hm : vMap x with
            | some a =>
              rw [hm] at h
              cases hj : vMap y with
              | none => rw [hj] at h; cases h
              | some b =>
                rw [hj] at h
                rw [vMap_some hm, vMap_some hj]
                have h : eqON a b = true := h
                unfold eqON at h
                cases a with
                | none =>
                  cases b with
                  | none => rfl
                  | some b => cases h
                | some a =>
                  cases b with
                  | none => cases h
                  | some b => rw [(nbeq _ _).1 (show Nat.beq a b = true from h)]
            | none =>
              rw [hm] at h
              cases hf : fltV x with
              | some a =>
                rw [hf] at h
                cases hj : fltV y with
                | none => rw [hj] at h; cases h
                | some b =>
                  rw [hj] at h
                  obtain ⟨k, n⟩ := a
                  obtain ⟨l, p⟩ := b
                  have h : bC (eqFK k l) (Nat.beq n p) false = true := h
                  cases h1 : eqFK k l with
                  | false => rw [h1] at h; cases h
                  | true =>
                    rw [h1] at h
                    have hn := (nbeq _ _).1 (show Nat.beq n p = true from h); subst hn
                    have hk : k = l := by cases k <;> cases l <;> first | rfl | cases h1
                    subst hk
                    cases x <;> try cases hf
                    cases y <;> try cases hj
                    rfl
              | none =>
                rw [hf] at h
                cases hn : nmV x with
                | some a =>
                  rw [hn] at h
                  cases hj : nmV y with
                  | none => rw [hj] at h; cases h
                  | some b =>
                    rw [hj] at h
                    obtain ⟨n, k⟩ := a
                    obtain ⟨p, l⟩ := b
                    have h : bC (Nat.beq n p) (Nat.beq k l) false = true := h
                    cases h1 : Nat.beq n p with
                    | false => rw [h1] at h; cases h
                    | true =>
                      rw [h1] at h
                      rw [nmV_some hn, nmV_some hj, (nbeq _ _).1 h1, (nbeq _ _).1 (show Nat.beq k l = true from h)]
                | none =>
                rw [hn] at h
                have h : bC (Nat.beq (nilNo x) 0) false (Nat.beq (nilNo x) (nilNo y)) = true := h
                cases x <;> cases y <;> first | rfl | cases h

theorem eqRow_eq {f : Value → Value → Bool} (hf : ∀ x y, f x y = true → x = y) : ∀ (xs ys : List Value), eqRow f xs ys = true → xs = ys := by
  intro xs
  induction xs with
  | nil => intro ys h; exact ((isNil_eq _).1 (show isNil ys = true from h)).symm
  | cons x xs ih =>
    intro ys h
    cases ys with
    | nil => cases h
    | cons y ys =>
      have h : bC (f x y) (eqRow f xs ys) false = true := h
      cases h1 : f x y with
      | false => rw [h1] at h; cases h
      | true => rw [h1] at h; rw [hf x y h1, ih ys h]

theorem eqAggV_eq {x y : Value} (h : eqAggV x y = true) : x = y := by
  unfold eqAggV at h
  cases hx : vAgg x with
  | none => rw [hx] at h; exact eqCellV_eq h
  | some a =>
    rw [hx] at h
    cases hy : vAgg y with
    | none => rw [hy] at h; cases h
    | some b => rw [hy] at h; rw [vAgg_some hx, vAgg_some hy, eqRow_eq (fun _ _ => eqCellV_eq) a b h]

theorem eqV_eq {x y : Value} (h : eqV x y = true) : x = y := by
  unfold eqV at h
  cases hx : vTup x with
  | none => rw [hx] at h; exact eqAggV_eq h
  | some a =>
    rw [hx] at h
    cases hy : vTup y with
    | none => rw [hy] at h; cases h
    | some b => rw [hy] at h; rw [vTup_some hx, vTup_some hy, eqRow_eq (fun _ _ => eqAggV_eq) a b h]

theorem actV_some {a : Act} {v : Value} {m : Mem} (h : actV a = some (v, m)) : a = .val v m := by
  cases a with
  | val u m' => injection (show some (u, m') = some (v, m) from h) with h; injection h with h1 h2; rw [h1, h2]
  | call _ _ => cases h
  | panic _ => cases h

theorem still_some {m : Mem} {l : List Ck} (h : still m l = true) {f : OpF} {i : Nat} {tm : Tr Value} {v : Value} (hm : Ck.mk f i tm v ∈ l) (hr : ReadF f) : f tm m = some (.val v m) := by
  induction l with
  | nil => cases hm
  | cons c l ih =>
    obtain ⟨f', i', tm', v'⟩ := c
    have h : (oC ((f' tm' m).b actV) false fun r => p2 r fun u _ => bC (eqV v' u) (still m l) false) = true := h
    cases hc : (f' tm' m).b actV with
    | none => rw [hc] at h; cases h
    | some r =>
      rw [hc] at h
      obtain ⟨u, m2⟩ := r
      have h : bC (eqV v' u) (still m l) false = true := h
      cases h1 : eqV v' u with
      | false => rw [h1] at h; cases h
      | true =>
        rw [h1] at h
        rcases List.mem_cons.1 hm with e | hm
        · injection e with e1 e2 e3 e4; subst e1; subst e3; subst e4
          obtain ⟨act, ha, hv⟩ := b_some.1 hc
          obtain ⟨u', hu'⟩ := hr tm m act ha
          have := actV_some hv
          rw [this] at hu'; injection hu' with e5 e6
          rw [ha, this, e6, eqV_eq h1]
        · exact ih h hm

theorem tb_eq (m n : Nat) : tb m n = m.testBit n := by
  unfold tb
  rw [Bool.eq_iff_iff, nbeq, show Nat.land (Nat.shiftRight m n) 1 = (m >>> n) &&& 1 from rfl, Nat.and_one_is_mod, Nat.shiftRight_eq_div_pow, Nat.testBit_eq_decide_div_mod_eq]
  simp

theorem keepC_mem {mask : Nat} : ∀ {l r : List Ck}, keepC mask l = some r → ∀ {f : OpF} {i : Nat} {tm : Tr Value} {v : Value}, Ck.mk f i tm v ∈ l → mask.testBit i = false → Ck.mk f i tm v ∈ r := by
  intro l
  induction l with
  | nil => intro r h f i tm v hm; cases hm
  | cons c l ih =>
    intro r h f i tm v hm hb
    obtain ⟨f', i', tm', v'⟩ := c
    have h : bC (tb mask i') (keepC mask l) ((keepC mask l).b fun r => some (.mk f' i' tm' v' :: r)) = some r := h
    rw [tb_eq] at h
    cases hb' : mask.testBit i' with
    | true =>
      rw [hb'] at h
      rcases List.mem_cons.1 hm with e | hm
      · injection e with e1 e2 e3 e4; subst e2; rw [hb] at hb'; cases hb'
      · exact ih h hm hb
    | false =>
      rw [hb'] at h
      obtain ⟨r', hr', h⟩ := b_some.1 (show ((keepC mask l).b fun r => some (Ck.mk f' i' tm' v' :: r)) = some r from h)
      injection h with h; subst h
      rcases List.mem_cons.1 hm with e | hm
      · rw [e]; exact List.mem_cons_self
      · exact List.mem_cons_of_mem _ (ih hr' hm hb)

/-! Plans. -/
noncomputable def piIx (p : Pi) : Nat := piC p fun _ _ i _ _ _ => i
noncomputable def piMask (p : Pi) : Nat := piC p fun _ _ _ m _ _ => m

theorem bit_test (n r : Nat) : (bit n).testBit r = decide (r = n) := by
  unfold bit
  rw [show Nat.pow 2 n = 2 ^ n from rfl, Nat.testBit_two_pow]
  simp [eq_comm]

theorem nthN_get (l : List Nat) (n : Nat) : nthN l n = (l[n]?).getD 0 := by
  unfold nthN
  cases l[n]? <;> rfl

theorem maskOf_bit (acc : List Nat) (o : Oper) (r : Nat) : (maskOf acc o).testBit r = true ↔ ∃ e ∈ o.after, Region.binds .any e = true ∧ (r = e.on ∨ (nthN acc e.on).testBit r = true) := by
  have key : ∀ (l : List Edge), (List.rec (motive := fun _ => Nat) 0 (fun e _ ih => bC (Region.binds .any e) (Nat.lor (Nat.lor (bit e.on) (nthN acc e.on)) ih) ih) l : Nat).testBit r = true ↔
      ∃ e ∈ l, Region.binds .any e = true ∧ (r = e.on ∨ (nthN acc e.on).testBit r = true) := by
    intro l
    induction l with
    | nil => simp
    | cons e l ih =>
      show (bC (Region.binds .any e) (Nat.lor (Nat.lor (bit e.on) (nthN acc e.on)) _) _ : Nat).testBit r = true ↔ _
      cases hb : Region.binds .any e with
      | false =>
        show (List.rec (motive := fun _ => Nat) 0 (fun e _ ih => bC (Region.binds .any e) (Nat.lor (Nat.lor (bit e.on) (nthN acc e.on)) ih) ih) l : Nat).testBit r = true ↔ _
        rw [ih]
        simp [hb]
      | true =>
        show (Nat.lor (Nat.lor (bit e.on) (nthN acc e.on)) (List.rec (motive := fun _ => Nat) 0 (fun e _ ih => bC (Region.binds .any e) (Nat.lor (Nat.lor (bit e.on) (nthN acc e.on)) ih) ih) l)).testBit r = true ↔ _
        rw [show ∀ a b : Nat, Nat.lor a b = a ||| b from fun _ _ => rfl, Nat.testBit_or, Bool.or_eq_true, ih, show ∀ a b : Nat, Nat.lor a b = a ||| b from fun _ _ => rfl, Nat.testBit_or, Bool.or_eq_true, bit_test]
        simp [hb]
  have := key o.after.toList
  simp only [Array.mem_toList_iff] at this
  exact this

section
variable {P : Program} {nt : Nat} {ops : Array Oper} {pl : List Pi} {all : List Oper}

theorem plan_spec : ∀ (l : List Oper) (acc : List Nat) (i : Nat) (r : List Pi), plan P nt all l acc i = some r → acc.length = i → r.length = l.length ∧
    ∀ j o, l[j]? = some o → ∃ c mask, r[j]? = some (.mk o c (i + j) mask (cls P o.op) (guardT all o)) ∧ cOp P nt all o = some c ∧ mask = maskOf ((acc ++ r.map piMask).take (i + j)) o := by
  intro l
  induction l with
  | nil =>
    intro acc i r h _
    injection (show some ([] : List Pi) = some r from h) with h; subst h
    exact ⟨rfl, fun j o hj => by simp at hj⟩
  | cons o l ih =>
    intro acc i r h hi
    have h : (fN (maskOf acc o) fun mask => (cOp P nt all o).b fun c => (snoc acc mask).b fun acc => fN (cls P o.op) fun k => (plan P nt all l acc (Nat.succ i)).b fun r => some (Pi.mk o c i mask k (guardT all o) :: r)) = some r := h
    rw [fN_eq] at h
    obtain ⟨c, hc, h⟩ := b_some.1 h
    obtain ⟨acc', ha, h⟩ := b_some.1 h
    rw [fN_eq] at h
    obtain ⟨r', hr', h⟩ := b_some.1 h
    injection h with h; subst h
    have := (snoc_eq _ _ _).1 ha; subst this
    obtain ⟨h1, h2⟩ := ih _ _ _ hr' (by simp [hi])
    refine ⟨by simp [h1], fun j o' hj => ?_⟩
    cases j with
    | zero =>
      simp at hj; subst hj
      refine ⟨c, maskOf acc o, rfl, hc, ?_⟩
      rw [Nat.add_zero, List.take_append_of_le_length (by omega), List.take_of_length_le (by omega)]
    | succ j =>
      simp at hj
      obtain ⟨c', mask, g1, g2, g3⟩ := h2 j o' hj
      refine ⟨c', mask, by rw [List.getElem?_cons_succ, g1, show i + (j + 1) = i.succ + j from by omega], g2, ?_⟩
      rw [g3, List.map_cons]
      show _ = maskOf ((acc ++ maskOf acc o :: r'.map piMask).take _) o'
      rw [List.append_assoc, show i + (j + 1) = i.succ + j from by omega]; rfl

/-- What a plan tells. -/
structure Pln (P : Program) (nt : Nat) (ops : Array Oper) (pl : List Pi) : Prop where
  len : pl.length = ops.size
  get : ∀ (j : Nat) (o : Oper), ops[j]? = some o → ∃ (c : Cop) (mask : Nat), pl[j]? = some (Pi.mk o c j mask (cls P o.op) (guardT ops.toList o)) ∧ cOp P nt ops.toList o = some c
  direct : ∀ (j : Nat) (o : Oper) (c : Cop) (i mask k : Nat) (g : Option (Option Tmp × Bool)), pl[j]? = some (Pi.mk o c i mask k g) → ∀ e ∈ o.after, Region.binds .any e = true → mask.testBit e.on = true
  closed : ∀ (S : Nat → Prop), (∀ (j : Nat) (o : Oper), ops[j]? = some o → S j → ∀ e ∈ o.after, Region.binds .any e = true → S e.on) →
    ∀ (j : Nat) (o : Oper) (c : Cop) (i mask k : Nat) (g : Option (Option Tmp × Bool)), pl[j]? = some (Pi.mk o c i mask k g) → (∀ e ∈ o.after, Region.binds .any e = true → S e.on) → ∀ r, mask.testBit r = true → S r
  dst : ∀ (i j : Nat) (oi oj : Oper) (d : Tmp), ops[i]? = some oi → ops[j]? = some oj → oi.dst = some d → oj.dst = some d → i = j
  ord : ∀ p q : Pi, p ∈ pl → q ∈ pl → ordOk p q = true

theorem dstsOk_spec : ∀ (l : List Pi), dstsOk l = true → ∀ (i j : Nat) (p q : Pi) (d : Tmp), l[i]? = some p → l[j]? = some q → (piC p fun o _ _ _ _ _ => o.dst) = some d → (piC q fun o _ _ _ _ _ => o.dst) = some d → i = j := by
  intro l
  induction l with
  | nil => intro _ i j p q d hi; simp at hi
  | cons a l ih =>
    intro h i j p q d hi hj hp hq
    unfold dstsOk at h
    rw [Bool.and_eq_true] at h
    obtain ⟨h1, h2⟩ := h
    have key : ∀ (k : Nat) (b : Pi), l[k]? = some b → (piC a fun o _ _ _ _ _ => o.dst) = some d → (piC b fun o _ _ _ _ _ => o.dst) = some d → False := by
      intro k b hb ha hb'
      obtain ⟨o, c, i, m, kk, g⟩ := a
      have ha : o.dst = some d := ha
      have h1 : (oC o.dst true fun d => l.all fun q => piC q fun o _ _ _ _ _ => oC o.dst true fun e => bC (Nat.beq e d) false true) = true := h1
      rw [ha] at h1
      have h1 : (l.all fun q => piC q fun o _ _ _ _ _ => oC o.dst true fun e => bC (Nat.beq e d) false true) = true := h1
      have := List.all_eq_true.1 h1 b (List.mem_of_getElem? hb)
      obtain ⟨o2, c2, i2, m2, kk2, g2⟩ := b
      have hb' : o2.dst = some d := hb'
      have this : (oC o2.dst true fun e => bC (Nat.beq e d) false true) = true := this
      rw [hb'] at this
      have this : bC (Nat.beq d d) false true = true := this
      rw [(nbeq d d).2 rfl] at this; cases this
    cases i with
    | zero =>
      cases j with
      | zero => rfl
      | succ j =>
        simp at hi hj; subst hi
        exact (key j q hj hp hq).elim
    | succ i =>
      cases j with
      | zero =>
        simp at hi hj; subst hj
        exact (key i p hi hq hp).elim
      | succ j =>
        simp at hi hj
        rw [ih h2 i j p q d hi hj hp hq]

theorem planOf_pln {a : Bool} (h : planOf P nt ops.toList = some (pl, a)) : Pln P nt ops pl ∧ anyMem pl = a := by
  obtain ⟨l, hl, h⟩ := b_some.1 h
  obtain ⟨hok, h⟩ := bC_some.1 h
  rw [fB_eq] at h
  injection h with h; injection h with h1 h2; subst h1
  refine ⟨?_, h2⟩
  obtain ⟨hlen, hget⟩ := plan_spec _ _ _ _ hl rfl
  unfold planOk at hok
  rw [Bool.and_eq_true] at hok
  obtain ⟨hd, ho⟩ := hok
  have hget' : ∀ (j : Nat) (o : Oper), ops[j]? = some o → ∃ c mask, l[j]? = some (Pi.mk o c j mask (cls P o.op) (guardT ops.toList o)) ∧ cOp P nt ops.toList o = some c ∧ mask = maskOf ((l.map piMask).take j) o := by
    intro j o hj
    obtain ⟨c, mask, g1, g2, g3⟩ := hget j o (by simpa using hj)
    rw [Nat.zero_add] at g1 g3
    exact ⟨c, mask, g1, g2, by simpa using g3⟩
  have hof : ∀ (j : Nat) (p : Pi), l[j]? = some p → ∃ o, ops[j]? = some o := by
    intro j p hj
    have : j < ops.size := by have := (List.getElem?_eq_some_iff.1 hj).1; simp at hlen; omega
    exact ⟨_, Array.getElem?_eq_getElem this⟩
  have hmask : ∀ (j : Nat) (o : Oper) (c : Cop) (i mask k : Nat) (g : Option (Option Tmp × Bool)), l[j]? = some (Pi.mk o c i mask k g) → ops[j]? = some o ∧ mask = maskOf ((l.map piMask).take j) o := by
    intro j o c i mask k g hj
    obtain ⟨o', ho'⟩ := hof j _ hj
    obtain ⟨c', mask', g1, g2, g3⟩ := hget' j o' ho'
    rw [hj] at g1
    injection g1 with g1; injection g1 with e1 e2 e3 e4 e5 e6
    subst e1; subst e4
    exact ⟨ho', g3⟩
  refine ⟨by simpa using hlen, fun j o hj => ?_, ?_, ?_, ?_, ?_⟩
  · obtain ⟨c, mask, g1, g2, _⟩ := hget' j o hj
    exact ⟨c, mask, g1, g2⟩
  · intro j o c i mask k g hj e he hb
    obtain ⟨_, rfl⟩ := hmask j o c i mask k g hj
    exact (maskOf_bit _ _ _).2 ⟨e, he, hb, .inl rfl⟩
  · intro S hS j
    induction j using Nat.strongRecOn with
    | _ j IH =>
      intro o c i mask k g hj hpre r hr
      obtain ⟨hoj, rfl⟩ := hmask j o c i mask k g hj
      obtain ⟨e, he, hb, hre⟩ := (maskOf_bit _ _ _).1 hr
      rcases hre with rfl | hre
      · exact hpre e he hb
      · rw [nthN_get, List.getElem?_take] at hre
        by_cases hlt : e.on < j
        · rw [if_pos hlt, List.getElem?_map] at hre
          cases hp : l[e.on]? with
          | none => rw [hp] at hre; simp at hre
          | some p =>
            rw [hp] at hre
            obtain ⟨o2, c2, i2, m2, k2, g2⟩ := p
            have hre : m2.testBit r = true := hre
            obtain ⟨ho2, _⟩ := hmask _ _ _ _ _ _ _ hp
            exact IH e.on hlt o2 c2 i2 m2 k2 g2 hp (fun e' he' hb' => hS e.on o2 ho2 (hpre e he hb) e' he' hb') r hre
        · rw [if_neg hlt] at hre; simp at hre
  · intro i j oi oj d hi hj hdi hdj
    obtain ⟨ci, mi, g1, _⟩ := hget' i oi hi
    obtain ⟨cj, mj, g2, _⟩ := hget' j oj hj
    exact dstsOk_spec l hd i j _ _ d g1 g2 hdi hdj
  · intro p q hp hq
    exact List.all_eq_true.1 (List.all_eq_true.1 ho p hp) q hq
end
end Go.Am
namespace Go.Am
set_option linter.unusedSectionVars false
variable [Env]
open Go.RowKit (Below)
set_option linter.unusedSimpArgs false
set_option linter.unusedVariables false

def upd {α : Type} (f : Nat → α) (i : Nat) (x : α) : Nat → α := fun j => if j = i then x else f j
theorem upd_same {α : Type} (f : Nat → α) (i : Nat) (x : α) : upd f i x i = x := by simp [upd]
theorem upd_ne {α : Type} (f : Nat → α) {i j : Nat} (x : α) (h : j ≠ i) : upd f i x j = f j := by simp [upd, h]

section
variable (P : Program) (base nt : Nat) (ops : Array Oper) (pl : List Pi) (chkd : Bool) (tm0 : Tr Value) (σ0 : Sg) (m0 : Mem) (w0 : World) (a0 : Go.Act)

def dOf (r : Nat) : Option Tmp := (ops[r]?).bind (·.dst)
noncomputable def mOf (r : Nat) : Nat := oC pl[r]? 0 piMask

def Agree (val : Nat → Option Value) (tmX : Tr Value) (q : Nat) : Prop := ∀ o, ops[q]? = some o → ∀ t ∈ namesO ops.toList o, ∀ pt, path t = some pt →
  (∀ r v, dOf ops r = some t → (mOf pl q).testBit r = true → val r = some v → tmX.getP pt = some v) ∧
  ((∀ r, dOf ops r = some t → (mOf pl q).testBit r = false) → tmX.getP pt = tm0.getP pt)

/-- Done in an order that the plan lets. -/
def Ord : List Nat → Prop
  | [] => True
  | q :: l => (∀ r, (mOf pl q).testBit r = true → r ∈ l) ∧ Ord l

structure AInv (dl : List Nat) (val : Nat → Option Value) (tq : Nat → Tr Value) (pend : List Pi) (done : Nat) (tm : Tr Value) : Prop where
  dom : ∀ q, q ∈ dl ↔ ∃ v, val q = some v
  bit : ∀ q, done.testBit q = true ↔ q ∈ dl
  lt : ∀ q ∈ dl, q < ops.size
  order : Ord pl dl
  tmD : ∀ t pt, path t = some pt → (∀ r v, dOf ops r = some t → val r = some v → tm.getP pt = some v) ∧ ((∀ r, dOf ops r = some t → val r = none) → tm.getP pt = tm0.getP pt)
  agree : ∀ q ∈ dl, Agree ops pl tm0 val (tq q) q
  pl1 : ∀ p ∈ pend, pl[piIx p]? = some p ∧ piIx p ∉ dl
  pl2 : ∀ j, j < ops.size → j ∈ dl ∨ ∃ p ∈ pend, piIx p = j
  pl3 : (pend.map piIx).Nodup

/-- What is known of an operation that was gone through already, and is still to come. -/
def Carried (q : Nat) (v : Value) (tmX : Tr Value) (m : Mem) (chk : List Ck) (bo : Option Nat) : Prop :=
  ∃ o h dst g, ops[q]? = some o ∧ cOp P nt ops.toList o = some (.mk h dst g) ∧
    ((wantedA tmX g = false ∧ v = .tuple ⟨[]⟩) ∨
     (wantedA tmX g = true ∧ opC P o.op = some h ∧
       ((ReadF h ∧ ((PureF h ∧ ∃ m1, h tmX m1 = some (.val v m1)) ∨ (chkd = true ∧ Ck.mk h q tmX v ∈ chk) ∨ (chkd = false ∧ h tmX m = some (.val v m)))) ∨
        (∃ b x mk, bo = some b ∧ v = mk b ∧ m.get b = some x ∧ ∀ base σ ρ w, OpHyp σ tmX ρ o → MakeAt P base σ ρ o x mk w))))

def TmC (C : Nat → Prop) (val : Nat → Option Value) (σ : Sg) (a : Go.Act) : Prop :=
  ∀ t pt, path t = some pt → (∀ r v, dOf ops r = some t → C r → val r = some v → VRel σ v (a.tmps.getD t undef)) ∧ ((∀ r, dOf ops r = some t → ¬ C r) → TV σ (tm0.getP pt) (a.tmps.getD t undef))

structure Inv (C : Nat → Prop) (dl : List Nat) (val : Nat → Option Value) (tq : Nat → Tr Value) (bq : Nat → Option Nat) (pend : List Pi) (done : Nat) (tm : Tr Value) (m : Mem) (chk : List Ck) (σ : Sg) (a : Go.Act) (w : World) : Prop where
  A : AInv ops pl tm0 dl val tq pend done tm
  ent : ∀ q v, val q = some v → ¬ C q → Carried P nt ops chkd q v (tq q) m chk (bq q)
  blt : ∀ q b, bq q = some b → q ∈ dl ∧ b < m.nxt ∧ m0.nxt ≤ b
  binj : ∀ q q' b, bq q = some b → bq q' = some b → q = q'
  rel : Rel P base σ m w
  ext : Ext σ0 m0 σ m
  bel : Below base w0 w
  sub : ∀ q, C q → q ∈ dl
  closed : ∀ q, C q → ∀ r, (mOf pl q).testBit r = true → C r
  tmC : TmC ops tm0 C val σ a
  unpl : ∀ q b, bq q = some b → ¬ C q → σ b = none
  size : a.tmps.size = nt
  dfr : a.defers = a0.defers
end

section
variable {P : Program} {base nt : Nat} {ops : Array Oper} {pl : List Pi} {chkd : Bool} {tm0 : Tr Value} {σ0 : Sg} {m0 : Mem} {w0 : World} {a0 : Go.Act}
variable {C : Nat → Prop} {dl : List Nat} {val : Nat → Option Value} {tq : Nat → Tr Value} {bq : Nat → Option Nat} {pend : List Pi} {done : Nat} {tm : Tr Value} {m : Mem} {chk : List Ck} {σ : Sg} {a : Go.Act} {w : World}

theorem Ord.mem : ∀ {l : List Nat}, Ord pl l → ∀ q ∈ l, ∀ r, (mOf pl q).testBit r = true → r ∈ l := by
  intro l
  induction l with
  | nil => intro _ q hq; cases hq
  | cons a l ih =>
    intro h q hq r hr
    rcases List.mem_cons.1 hq with rfl | hq
    · exact List.mem_cons_of_mem _ (h.1 r hr)
    · exact List.mem_cons_of_mem _ (ih h.2 q hq r hr)

/-- A plan's row, and the operation. -/
theorem Pln.row (HL : Pln P nt ops pl) {j : Nat} {o : Oper} {c : Cop} {i mask k : Nat} {g : Option (Option Tmp × Bool)} (h : pl[j]? = some (Pi.mk o c i mask k g)) :
    ops[j]? = some o ∧ i = j ∧ cOp P nt ops.toList o = some c ∧ k = cls P o.op ∧ g = guardT ops.toList o ∧ mOf pl j = mask := by
  have hlt : j < ops.size := by have := (List.getElem?_eq_some_iff.1 h).1; rw [HL.len] at this; exact this
  obtain ⟨c', mask', g1, g2⟩ := HL.get j ops[j] (Array.getElem?_eq_getElem hlt)
  rw [h] at g1
  injection g1 with g1; injection g1 with e1 e2 e3 e4 e5 e6
  subst e1; subst e2; subst e3; subst e5; subst e6
  exact ⟨Array.getElem?_eq_getElem hlt, rfl, g2, rfl, rfl, by unfold mOf; rw [h]; rfl⟩

theorem Pln.of (HL : Pln P nt ops pl) {j : Nat} {o : Oper} (h : ops[j]? = some o) : ∃ c mask, pl[j]? = some (Pi.mk o c j mask (cls P o.op) (guardT ops.toList o)) ∧ cOp P nt ops.toList o = some c ∧ mOf pl j = mask := by
  obtain ⟨c, mask, h1, h2⟩ := HL.get j o h
  exact ⟨c, mask, h1, h2, by unfold mOf; rw [h1]; rfl⟩

/-- Of two operations, one of which writes what the other one names. -/
theorem Pln.ordered (HL : Pln P nt ops pl) {i j : Nat} {oi oj : Oper} (hi : ops[i]? = some oi) (hj : ops[j]? = some oj) {t : Tmp} (hd : oj.dst = some t) (ht : t ∈ namesO ops.toList oi) :
    i = j ∨ (mOf pl i).testBit j = true ∨ (mOf pl j).testBit i = true := by
  obtain ⟨ci, mi, h1, h2, h3⟩ := HL.of hi
  obtain ⟨cj, mj, g1, g2, g3⟩ := HL.of hj
  have := HL.ord _ _ (List.mem_of_getElem? h1) (List.mem_of_getElem? g1)
  have this : (oC oj.dst true fun d => bC (hasN d (namesO ops.toList oi)) (bC (Nat.beq i j) true (bC (tb mi j) true (tb mj i))) true) = true := this
  rw [hd] at this
  have this : bC (hasN t (namesO ops.toList oi)) (bC (Nat.beq i j) true (bC (tb mi j) true (tb mj i))) true = true := this
  have hm : hasN t (namesO ops.toList oi) = true := by
    have key : ∀ l : List Tmp, t ∈ l → hasN t l = true := by
      intro l
      induction l with
      | nil => intro h; cases h
      | cons x l ih =>
        intro h
        show bC (Nat.beq x t) true (hasN t l) = true
        rcases List.mem_cons.1 h with rfl | h
        · rw [(nbeq _ _).2 rfl]
        · rw [ih h]; cases Nat.beq x t <;> rfl
    exact key _ ht
  rw [hm] at this
  rw [h3, g3]
  have this : bC (Nat.beq i j) true (bC (tb mi j) true (tb mj i)) = true := this
  rw [tb_eq, tb_eq] at this
  cases h : Nat.beq i j with
  | true => exact .inl ((nbeq _ _).1 h)
  | false =>
    rw [h] at this
    cases h' : mi.testBit j with
    | true => exact .inr (.inl rfl)
    | false => rw [h'] at this; exact .inr (.inr this)

theorem dOf_some {r : Nat} {t : Tmp} (h : dOf ops r = some t) : ∃ o, ops[r]? = some o ∧ o.dst = some t := by
  unfold dOf at h
  cases ho : ops[r]? with
  | none => rw [ho] at h; cases h
  | some o => rw [ho] at h; exact ⟨o, rfl, h⟩

theorem Pln.uniq (HL : Pln P nt ops pl) {r s : Nat} {t : Tmp} (h : dOf ops r = some t) (k : dOf ops s = some t) : r = s := by
  obtain ⟨o, h1, h2⟩ := dOf_some h
  obtain ⟨o', k1, k2⟩ := dOf_some k
  exact HL.dst r s o o' t h1 k1 h2 k2

theorem AInv.noval (hA : AInv ops pl tm0 dl val tq pend done tm) {i : Nat} (hi : i ∉ dl) : val i = none := by
  cases hv : val i with
  | none => rfl
  | some v => exact absurd ((hA.dom i).2 ⟨v, hv⟩) hi

/-- The temporaries agree with what an operation names, when all ahead of it is done. -/
theorem AInv.agree_now (HL : Pln P nt ops pl) (hA : AInv ops pl tm0 dl val tq pend done tm) {i : Nat} (hi : i ∉ dl) : Agree ops pl tm0 val tm i := by
  intro o ho t ht pt hpt
  obtain ⟨h1, h2⟩ := hA.tmD t pt hpt
  refine ⟨fun r v hr _ hv => h1 r v hr hv, fun hno => h2 fun r hr => ?_⟩
  obtain ⟨o', hr1, hr2⟩ := dOf_some hr
  cases hv : val r with
  | none => rfl
  | some v =>
    have hrd := (hA.dom r).2 ⟨v, hv⟩
    rcases HL.ordered ho hr1 hr2 ht with rfl | h | h
    · exact absurd hrd hi
    · rw [hno r hr] at h; cases h
    · exact absurd (hA.order.mem r hrd i h) hi

theorem putA_get {dst : Option (List Dg)} {v : Value} {tm' : Tr Value} (h : putA tm dst v = some tm') : (dst = none ∧ tm' = tm) ∨ ∃ p, dst = some p ∧ ∀ q, tm'.getP q = if q = p then some v else tm.getP q := by
  cases dst with
  | none => injection (show some tm = some tm' from h) with h; exact .inl ⟨rfl, h.symm⟩
  | some p => exact .inr ⟨p, rfl, Tr.setP_getP (some v) p tm tm' h⟩

/-- One more is gone through. -/
theorem AInv.add (HL : Pln P nt ops pl) {k1 k2 : List Pi} {o : Oper} {h : OpF} {dst : Option (List Dg)} {gg : Option (Option (List Dg) × Bool)} {i mask k : Nat} {g : Option (Option Tmp × Bool)}
    (hA : AInv ops pl tm0 dl val tq (k1 ++ Pi.mk o (.mk h dst gg) i mask k g :: k2) done tm) (hmask : ∀ r, mask.testBit r = true → done.testBit r = true) {v : Value} {tm' : Tr Value} (hp : putA tm dst v = some tm') :
    AInv ops pl tm0 (i :: dl) (upd val i (some v)) (upd tq i tm) (k1 ++ k2) (Nat.lor done (Go.Am.bit i)) tm' := by
  obtain ⟨hrow, hni⟩ := hA.pl1 _ (List.mem_append_right _ List.mem_cons_self)
  replace hrow : pl[i]? = some (Pi.mk o (.mk h dst gg) i mask k g) := hrow
  replace hni : i ∉ dl := hni
  obtain ⟨hoi, _, hco, _, _, hmk⟩ := HL.row hrow
  obtain ⟨hd, _, _⟩ := cOp_some hco
  have hlt : i < ops.size := (Array.getElem?_eq_some_iff.1 hoi).1
  have hmd : ∀ r, (mOf pl i).testBit r = true → r ∈ dl := fun r hr => (hA.bit r).1 (hmask r (hmk ▸ hr))
  have hnd := hA.pl3
  rw [List.map_append, List.map_cons] at hnd
  have hne : ∀ p' ∈ k1 ++ k2, piIx p' ≠ i := by
    intro p' hp' e
    have hnd' := List.nodup_append.1 hnd
    rcases List.mem_append.1 hp' with h1 | h1
    · exact (hnd'.2.2 _ (List.mem_map_of_mem h1) i (List.mem_cons_self)) e
    · have := (List.nodup_cons.1 hnd'.2.1).1
      exact this (by show i ∈ _; rw [← e]; exact List.mem_map_of_mem h1)
  refine ⟨?_, ?_, ?_, ⟨hmd, hA.order⟩, ?_, ?_, ?_, ?_, ?_⟩
  · intro q
    by_cases e : q = i
    · subst e; rw [upd_same]; simp
    · rw [upd_ne _ _ e, ← hA.dom q]; simp [e]
  · intro q
    rw [show ∀ a b : Nat, Nat.lor a b = a ||| b from fun _ _ => rfl, Nat.testBit_or, Bool.or_eq_true, bit_test, hA.bit q]
    simp [or_comm]
  · intro q hq
    rcases List.mem_cons.1 hq with rfl | hq
    · exact hlt
    · exact hA.lt q hq
  · intro t pt hpt
    obtain ⟨h1, h2⟩ := hA.tmD t pt hpt
    rcases cTmp_some hd with ⟨hd0, hx⟩ | ⟨d, pd, hd0, hx, _, hpd⟩
    · rcases putA_get hp with ⟨_, rfl⟩ | ⟨p, hp0, _⟩
      · have hno : ∀ r, dOf ops r = some t → r ≠ i := fun r hr e => by
          obtain ⟨o', a1, a2⟩ := dOf_some hr
          rw [e, hoi] at a1; injection a1 with a1; subst a1
          rw [hd0] at a2; cases a2
        refine ⟨fun r v' hr hv => ?_, fun hall => h2 fun r hr => ?_⟩
        · rw [upd_ne _ _ (hno r hr)] at hv; exact h1 r v' hr hv
        · have := hall r hr; rw [upd_ne _ _ (hno r hr)] at this; exact this
      · rw [hx] at hp0; cases hp0
    · rcases putA_get hp with ⟨hp0, _⟩ | ⟨p, hp0, hget⟩
      · rw [hx] at hp0; cases hp0
      · rw [hx] at hp0; injection hp0 with hp0; subst hp0
        have hdi : dOf ops i = some d := by unfold dOf; rw [hoi]; exact hd0
        by_cases e : t = d
        · subst e
          rw [hpt] at hpd; injection hpd with hpd
          rw [hget pt, if_pos hpd]
          refine ⟨fun r v' hr hv => ?_, fun hall => ?_⟩
          · have := HL.uniq hr hdi; subst this
            rw [upd_same] at hv; exact hv
          · have := hall i hdi; rw [upd_same] at this; cases this
        · rw [hget pt, if_neg (by rintro rfl; exact e (path_inj hpt hpd))]
          have hno : ∀ r, dOf ops r = some t → r ≠ i := fun r hr e' => by rw [e', hdi] at hr; injection hr with hr; exact e hr.symm
          refine ⟨fun r v' hr hv => ?_, fun hall => h2 fun r hr => ?_⟩
          · rw [upd_ne _ _ (hno r hr)] at hv; exact h1 r v' hr hv
          · have := hall r hr; rw [upd_ne _ _ (hno r hr)] at this; exact this
  · intro q hq
    by_cases e : q = i
    · subst e
      rw [upd_same]
      intro o' ho' t ht pt hpt
      obtain ⟨h1, h2⟩ := hA.agree_now HL hni o' ho' t ht pt hpt
      refine ⟨fun r v' hr hm hv => ?_, h2⟩
      have hrq : r ≠ q := fun e => hni (e ▸ hmd r hm)
      rw [upd_ne _ _ hrq] at hv
      exact h1 r v' hr hm hv
    · have hq' : q ∈ dl := by rcases List.mem_cons.1 hq with h | h; exact absurd h e; exact h
      rw [upd_ne _ _ e]
      intro o' ho' t ht pt hpt
      obtain ⟨h1, h2⟩ := hA.agree q hq' o' ho' t ht pt hpt
      refine ⟨fun r v' hr hm hv => ?_, h2⟩
      have hrq : r ≠ i := fun e => hni (e ▸ hA.order.mem q hq' r hm)
      rw [upd_ne _ _ hrq] at hv
      exact h1 r v' hr hm hv
  · intro p' hp'
    have hp'' : p' ∈ k1 ++ Pi.mk o (.mk h dst gg) i mask k g :: k2 := by
      rcases List.mem_append.1 hp' with h1 | h1
      · exact List.mem_append_left _ h1
      · exact List.mem_append_right _ (List.mem_cons_of_mem _ h1)
    obtain ⟨g1, g2⟩ := hA.pl1 p' hp''
    exact ⟨g1, by rw [List.mem_cons]; rintro (h1 | h1); exact hne p' hp' h1; exact g2 h1⟩
  · intro j hj
    rcases hA.pl2 j hj with h1 | ⟨p', h1, h2⟩
    · exact .inl (List.mem_cons_of_mem _ h1)
    · rcases List.mem_append.1 h1 with h1 | h1
      · exact .inr ⟨p', List.mem_append_left _ h1, h2⟩
      · rcases List.mem_cons.1 h1 with rfl | h1
        · exact .inl (by rw [← h2]; exact List.mem_cons_self)
        · exact .inr ⟨p', List.mem_append_right _ h1, h2⟩
  · rw [List.map_append]
    exact hnd.sublist (List.Sublist.append (List.Sublist.refl _) (List.sublist_cons_self _ _))

theorem Carried.mono {q : Nat} {v : Value} {tmX : Tr Value} {m' : Mem} {chk' : List Ck} {bo : Option Nat} (h : Carried P nt ops chkd q v tmX m chk bo) (h1 : chkd = false → m' = m) (h2 : ∀ b x, bo = some b → m.get b = some x → m'.get b = some x)
    (h3 : ∀ f tmX v, Ck.mk f q tmX v ∈ chk → Ck.mk f q tmX v ∈ chk') : Carried P nt ops chkd q v tmX m' chk' bo := by
  obtain ⟨o, f, dst, g, ho, hc, h⟩ := h
  refine ⟨o, f, dst, g, ho, hc, h.imp_right fun h => ⟨h.1, h.2.1, ?_⟩⟩
  rcases h.2.2 with ⟨hr, h4⟩ | ⟨b, x, mk, hb, hv, hx, hm⟩
  · refine .inl ⟨hr, ?_⟩
    rcases h4 with h4 | h4 | h4
    · exact .inl h4
    · exact .inr (.inl ⟨h4.1, h3 _ _ _ h4.2⟩)
    · exact .inr (.inr ⟨h4.1, by rw [h1 h4.1]; exact h4.2⟩)
  · exact .inr ⟨b, x, mk, hb, hv, h2 b x hb hx, hm⟩

/-- In a pass, one is gone through ahead of its time. -/
theorem Inv.add (HL : Pln P nt ops pl) {k1 k2 : List Pi} {o : Oper} {h : OpF} {dst : Option (List Dg)} {gg : Option (Option (List Dg) × Bool)} {i mask k : Nat} {g : Option (Option Tmp × Bool)}
    (hI : Inv P base nt ops pl chkd tm0 σ0 m0 w0 a0 C dl val tq bq (k1 ++ Pi.mk o (.mk h dst gg) i mask k g :: k2) done tm m chk σ a w) (hmask : ∀ r, mask.testBit r = true → done.testBit r = true)
    {v : Value} {tm' : Tr Value} (hp : putA tm dst v = some tm') {m' : Mem} {chk' : List Ck} {bo : Option Nat} (hnew : (chkd = false → m' = m) ∧ (∀ b x, b < m.nxt → m.get b = some x → m'.get b = some x) ∧ Rel P base σ m' w ∧ Ext σ m σ m')
    (hchk : ∀ c, c ∈ chk → c ∈ chk') (hent : Carried P nt ops chkd i v tm m' chk' bo) (hbo : ∀ b, bo = some b → m.nxt ≤ b ∧ b < m'.nxt) :
    Inv P base nt ops pl chkd tm0 σ0 m0 w0 a0 C (i :: dl) (upd val i (some v)) (upd tq i tm) (upd bq i bo) (k1 ++ k2) (Nat.lor done (bit i)) tm' m' chk' σ a w := by
  have hni : i ∉ dl := (hI.A.pl1 _ (List.mem_append_right _ List.mem_cons_self)).2
  have hCi : ¬ C i := fun h => hni (hI.sub i h)
  obtain ⟨n1, n2, n3, n4⟩ := hnew
  have hbq : ∀ b, bq i ≠ some b := fun b hb => hni (hI.blt i b hb).1
  refine ⟨hI.A.add HL hmask hp, ?_, ?_, ?_, n3, hI.ext.trans n4, hI.bel, fun q hq => List.mem_cons_of_mem _ (hI.sub q hq), hI.closed, ?_, ?_, hI.size, hI.dfr⟩
  · intro q u hq hC
    by_cases e : q = i
    · subst e
      rw [upd_same] at hq; injection hq with hq; subst hq
      rw [upd_same, upd_same]; exact hent
    · rw [upd_ne _ _ e] at hq
      rw [upd_ne _ _ e, upd_ne _ _ e]
      exact (hI.ent q u hq hC).mono n1 (fun b x hb hx => n2 b x (hI.blt q b hb).2.1 hx) (fun f tmX v hm => hchk _ hm)
  · intro q b hb
    by_cases e : q = i
    · subst e
      rw [upd_same] at hb
      obtain ⟨b1, b2⟩ := hbo b hb
      exact ⟨List.mem_cons_self, b2, Nat.le_trans hI.ext.nxt b1⟩
    · rw [upd_ne _ _ e] at hb
      obtain ⟨b1, b2, b3⟩ := hI.blt q b hb
      exact ⟨List.mem_cons_of_mem _ b1, Nat.lt_of_lt_of_le b2 n4.nxt, b3⟩
  · intro q q' b hb hb'
    by_cases e : q = i
    · by_cases e' : q' = i
      · rw [e, e']
      · subst e
        rw [upd_same] at hb
        rw [upd_ne _ _ e'] at hb'
        have h1 := (hbo b hb).1
        have h2 := (hI.blt q' b hb').2.1
        omega
    · by_cases e' : q' = i
      · subst e'
        rw [upd_same] at hb'
        rw [upd_ne _ _ e] at hb
        have h1 := (hbo b hb').1
        have h2 := (hI.blt q b hb).2.1
        omega
      · rw [upd_ne _ _ e] at hb
        rw [upd_ne _ _ e'] at hb'
        exact hI.binj q q' b hb hb'
  · intro t pt hpt
    obtain ⟨h1, h2⟩ := hI.tmC t pt hpt
    refine ⟨fun r u hr hC hu => ?_, h2⟩
    rw [upd_ne _ _ (show r ≠ i from fun e => hCi (e ▸ hC))] at hu
    exact h1 r u hr hC hu
  · intro q b hb hC
    by_cases e : q = i
    · subst e
      rw [upd_same] at hb
      exact hI.rel.fresh b (hbo b hb).1
    · rw [upd_ne _ _ e] at hb
      exact hI.unpl q b hb hC

theorem within_bit {mask done : Nat} (h : within mask done = true) : ∀ r, mask.testBit r = true → done.testBit r = true := by
  intro r hr
  have := (nbeq _ _).1 h
  have h2 : (Nat.land mask done).testBit r = true := by rw [this]; exact hr
  rw [show Nat.land mask done = mask &&& done from rfl, Nat.testBit_and, Bool.and_eq_true] at h2
  exact h2.2

/-- A whole pass. -/
theorem Inv.pass (HL : Pln P nt ops pl) (hany : anyMem pl = chkd) : ∀ (l kept : List Pi) (done : Nat) (tm : Tr Value) (m : Mem) (chk : List Ck) (d : Ds) (dl : List Nat) (val : Nat → Option Value) (tq : Nat → Tr Value) (bq : Nat → Option Nat),
    Inv P base nt ops pl chkd tm0 σ0 m0 w0 a0 C dl val tq bq (kept ++ l) done tm m chk σ a w → dPass l done tm m chk = some d →
    ∃ pend' done' tm' m' chk' dl' val' tq' bq', d = .mk pend' done' tm' m' chk' ∧ Inv P base nt ops pl chkd tm0 σ0 m0 w0 a0 C dl' val' tq' bq' (kept ++ pend') done' tm' m' chk' σ a w := by
  intro l
  induction l with
  | nil =>
    intro kept done tm m chk d dl val tq bq hI h
    injection (show some (Ds.mk [] done tm m chk) = some d from h) with h
    exact ⟨[], done, tm, m, chk, dl, val, tq, bq, h.symm, hI⟩
  | cons p l ih =>
    intro kept done tm m chk d dl val tq bq hI h
    obtain ⟨o, c, i, mask, k, g⟩ := p
    obtain ⟨f, dst, gg⟩ := c
    have h : bC (bC (Nat.ble k 2) (within mask done) false)
        (fN (Nat.lor done (bit i)) fun done' =>
          bC (wantedA tm gg)
            (b2 ((f tm m).b actV) fun v m' => (putA tm dst v).b fun tm' => bC (Nat.beq k 1) (dPass l done' tm' m' (.mk f i tm v :: chk)) (dPass l done' tm' m' chk))
            ((putA tm dst (.tuple ⟨[]⟩)).b fun tm' => dPass l done' tm' m chk))
        ((dPass l done tm m chk).b fun r => dsC r fun pend done tm m chk => some (Ds.mk (.mk o (.mk f dst gg) i mask k g :: pend) done tm m chk)) = some d := h
    obtain ⟨hrow, hni⟩ := hI.A.pl1 _ (List.mem_append_right _ List.mem_cons_self)
    obtain ⟨hoi, _, hco, hk, _, hmk⟩ := HL.row (show pl[i]? = _ from hrow)
    cases hcond : bC (Nat.ble k 2) (within mask done) false with
    | false =>
      rw [hcond] at h
      obtain ⟨d1, hd1, h⟩ := b_some.1 (show ((dPass l done tm m chk).b fun r => dsC r fun pend done tm m chk => some (Ds.mk (.mk o (.mk f dst gg) i mask k g :: pend) done tm m chk)) = some d from h)
      obtain ⟨pend', done', tm', m', chk', dl', val', tq', bq', rfl, hI'⟩ := ih (kept ++ [.mk o (.mk f dst gg) i mask k g]) done tm m chk d1 dl val tq bq (by rw [List.append_assoc]; exact hI) hd1
      injection (show some (Ds.mk (.mk o (.mk f dst gg) i mask k g :: pend') done' tm' m' chk') = some d from h) with h
      exact ⟨_, done', tm', m', chk', dl', val', tq', bq', h.symm, by rw [List.append_assoc] at hI'; exact hI'⟩
    | true =>
      rw [hcond] at h
      have hk2 : k ≤ 2 ∧ within mask done = true := by
        cases h1 : Nat.ble k 2 with
        | false => rw [h1] at hcond; cases hcond
        | true => rw [h1] at hcond; exact ⟨(nble _ _).1 h1, hcond⟩
      have hmask := within_bit hk2.2
      have h : (fN (Nat.lor done (bit i)) fun done' =>
          bC (wantedA tm gg)
            (b2 ((f tm m).b actV) fun v m' => (putA tm dst v).b fun tm' => bC (Nat.beq k 1) (dPass l done' tm' m' (.mk f i tm v :: chk)) (dPass l done' tm' m' chk))
            ((putA tm dst (.tuple ⟨[]⟩)).b fun tm' => dPass l done' tm' m chk)) = some d := h
      rw [fN_eq] at h
      have same : (chkd = false → m = m) ∧ (∀ b x, b < m.nxt → m.get b = some x → m.get b = some x) ∧ Rel P base σ m w ∧ Ext σ m σ m := ⟨fun _ => rfl, fun _ _ _ h => h, hI.rel, Ext.refl σ m⟩
      cases hw : wantedA tm gg with
      | false =>
        rw [hw] at h
        obtain ⟨tm', hp, h⟩ := b_some.1 (show ((putA tm dst (.tuple ⟨[]⟩)).b fun tm' => dPass l (Nat.lor done (bit i)) tm' m chk) = some d from h)
        exact ih kept _ tm' m chk d _ _ _ _ (hI.add HL hmask hp same (fun _ h => h) (bo := none) ⟨o, f, dst, gg, hoi, hco, .inl ⟨hw, rfl⟩⟩ (fun b hb => by cases hb)) h
      | true =>
        rw [hw] at h
        obtain ⟨v, m', hact, h⟩ := b2_some.1 (show (b2 ((f tm m).b actV) fun v m' => (putA tm dst v).b fun tm' => bC (Nat.beq k 1) (dPass l (Nat.lor done (bit i)) tm' m' (.mk f i tm v :: chk)) (dPass l (Nat.lor done (bit i)) tm' m' chk)) = some d from h)
        obtain ⟨act, ha, hav⟩ := b_some.1 hact
        have := actV_some hav; subst this
        obtain ⟨tm', hp, h7⟩ := b_some.1 h
        clear h
        have hgo := cOp_op hco ha
        obtain ⟨c0, c1, c2⟩ := cls_op hgo
        by_cases hk1 : k = 1
        · rw [hk1] at h7
          replace h7 : dPass l (Nat.lor done (bit i)) tm' m' (.mk f i tm v :: chk) = some d := h7
          have hr := c1 (by rw [← hk, hk1])
          obtain ⟨u, hu⟩ := hr tm m _ ha
          injection hu with _ hm; subst hm
          refine ih kept _ tm' m' _ d _ _ _ _ (hI.add HL hmask hp same (fun _ h => List.mem_cons_of_mem _ h) (bo := none) ⟨o, f, dst, gg, hoi, hco, .inr ⟨hw, hgo, .inl ⟨hr, ?_⟩⟩⟩ (fun b hb => by cases hb)) h7
          cases hcc : chkd with
          | true => exact .inr (.inl ⟨rfl, List.mem_cons_self⟩)
          | false => exact .inr (.inr ⟨rfl, ha⟩)
        · rw [show Nat.beq k 1 = false from (nbeqf _ _).2 hk1] at h7
          replace h7 : dPass l (Nat.lor done (bit i)) tm' m' chk = some d := h7
          by_cases hk0 : k = 0
          · have hr := c0 (by rw [← hk, hk0])
            obtain ⟨u, hu, hu2⟩ := hr tm m _ ha
            injection hu with hu1 hm; subst hm; subst hu1
            exact ih kept _ tm' m' chk d _ _ _ _ (hI.add HL hmask hp same (fun _ h => h) (bo := none) ⟨o, f, dst, gg, hoi, hco, .inr ⟨hw, hgo, .inl ⟨hr.read, .inl ⟨hr, m', hu2 m'⟩⟩⟩⟩ (fun b hb => by cases hb)) h7
          · have hkk : k = 2 := by omega
            obtain ⟨b, x, mk, hn, hv, hmake⟩ := c2 (by rw [← hk, hkk]) tm m v m' ha
            obtain ⟨g1, g2, g3, g4, g5, g6⟩ := hI.rel.grow hn
            have hct : chkd = true := by
              rw [← hany]
              unfold anyMem
              rw [List.any_eq_true]
              exact ⟨_, List.mem_of_getElem? (show pl[i]? = _ from hrow), by show Nat.ble 2 k = true; rw [hkk]; rfl⟩
            obtain ⟨_, hx2, hx3⟩ := Mem.new_some hn
            refine ih kept _ tm' m' chk d _ _ _ _ (hI.add HL hmask hp ⟨(fun e => by rw [hct] at e; cases e), ?_, g1, g6⟩ (fun _ h => h) (bo := some b) ⟨o, f, dst, gg, hoi, hco, .inr ⟨hw, hgo, .inr ⟨b, x, mk, rfl, hv, g3, hmake⟩⟩⟩ ?_) h7
            · intro b' x' hb' hx'
              rw [hx3, if_neg (by omega)]; exact hx'
            · intro b' hb'
              injection hb' with hb'; subst hb'
              exact ⟨by omega, g5⟩

/-- The names of an operation whose time has come. -/
theorem Inv.names (HL : Pln P nt ops pl) (hI : Inv P base nt ops pl chkd tm0 σ0 m0 w0 a0 C dl val tq bq pend done tm m chk σ a w) {i : Nat} {o : Oper} (ho : ops[i]? = some o) {tmX : Tr Value} (hag : Agree ops pl tm0 val tmX i) (hC : ¬ C i)
    (hm : ∀ r, (mOf pl i).testBit r = true → C r) : NamesOk σ tmX a (namesO ops.toList o) := by
  intro t ht pt hpt
  obtain ⟨h1, h2⟩ := hag o ho t ht pt hpt
  obtain ⟨g1, g2⟩ := hI.tmC t pt hpt
  by_cases he : ∃ r, dOf ops r = some t ∧ (mOf pl i).testBit r = true
  · obtain ⟨r, hr, hmr⟩ := he
    obtain ⟨v, hv⟩ := (hI.A.dom r).1 (hI.sub r (hm r hmr))
    rw [h1 r v hr hmr hv]
    exact g1 r v hr (hm r hmr) hv
  · rw [h2 fun r hr => by cases hb : (mOf pl i).testBit r with | false => rfl | true => exact absurd ⟨r, hr, hb⟩ he]
    refine g2 fun r hr hCr => ?_
    obtain ⟨o', hr1, hr2⟩ := dOf_some hr
    rcases HL.ordered ho hr1 hr2 ht with rfl | h | h
    · exact hC hCr
    · exact he ⟨r, hr, h⟩
    · exact hC (hI.closed r hCr i h)

theorem TmC.put (HL : Pln P nt ops pl) (h : TmC ops tm0 C val σ a) {i : Nat} {o : Oper} (ho : ops[i]? = some o) {C' : Nat → Prop} (hC : ∀ q, C' q ↔ C q ∨ q = i) {σ' : Sg} (hs : Sub σ σ') {val' : Nat → Option Value} (hval : ∀ r, C r → r ≠ i → val' r = val r)
    {v v' : Value} (hv : val' i = some v) (hr : VRel σ' v v') (hd : ∀ d, o.dst = some d → d < a.tmps.size) : TmC ops tm0 C' val' σ' (a.put o.dst v') := by
  intro t pt hpt
  obtain ⟨h1, h2⟩ := h t pt hpt
  cases hdst : o.dst with
  | none =>
    have hno : ∀ r, dOf ops r = some t → r ≠ i := fun r hr e => by
      obtain ⟨o', a1, a2⟩ := dOf_some hr
      rw [e, ho] at a1; injection a1 with a1; subst a1
      rw [hdst] at a2; cases a2
    refine ⟨fun r u hr hCr hu => ?_, fun hall => ?_⟩
    · have hcr := ((hC r).1 hCr).resolve_right (hno r hr)
      rw [hval r hcr (hno r hr)] at hu
      exact (h1 r u hr hcr hu).mono hs
    · exact (h2 fun r hr hcr => hall r hr ((hC r).2 (.inl hcr))).mono hs
  | some d =>
    have hdi : dOf ops i = some d := by unfold dOf; rw [ho]; exact hdst
    rw [put_getD a d t v' (hd d hdst)]
    by_cases e : t = d
    · subst e
      rw [if_pos rfl]
      refine ⟨fun r u hr' hCr hu => ?_, fun hall => ?_⟩
      · have := HL.uniq hr' hdi; subst this
        rw [hv] at hu; injection hu with hu; subst hu; exact hr
      · exact absurd ((hC i).2 (.inr rfl)) (hall i hdi)
    · rw [if_neg e]
      have hno : ∀ r, dOf ops r = some t → r ≠ i := fun r hr e' => by rw [e', hdi] at hr; injection hr with hr; exact e hr.symm
      refine ⟨fun r u hr hCr hu => ?_, fun hall => ?_⟩
      · have hcr := ((hC r).1 hCr).resolve_right (hno r hr)
        rw [hval r hcr (hno r hr)] at hu
        exact (h1 r u hr hcr hu).mono hs
      · exact (h2 fun r hr hcr => hall r hr ((hC r).2 (.inl hcr))).mono hs

theorem Carried.now {q : Nat} {v : Value} {tmX : Tr Value} {bo : Option Nat} {h : OpF} (hr : ReadF h) (hp : (PureF h ∧ ∃ m1, h tmX m1 = some (.val v m1)) ∨ (chkd = true ∧ Ck.mk h q tmX v ∈ chk) ∨ (chkd = false ∧ h tmX m = some (.val v m)))
    (hs : chkd = true → still m chk = true) : h tmX m = some (.val v m) := by
  rcases hp with ⟨h1, m1, h2⟩ | ⟨h1, h2⟩ | ⟨_, h2⟩
  · obtain ⟨u, hu, hu2⟩ := h1 tmX m1 _ h2
    injection hu with hu _; subst hu
    exact hu2 m
  · exact still_some (hs h1) h2 hr
  · exact h2

theorem mask_in (HL : Pln P nt ops pl) (hI : Inv P base nt ops pl chkd tm0 σ0 m0 w0 a0 C dl val tq bq pend done tm m chk σ a w) {i : Nat} {o : Oper} (ho : ops[i]? = some o) (hpre : ∀ e ∈ o.after, Region.binds .any e = true → C e.on) :
    ∀ r, (mOf pl i).testBit r = true → C r := by
  obtain ⟨c, mask, h1, h2, h3⟩ := HL.of ho
  rw [h3]
  refine HL.closed C ?_ i o c i mask _ _ h1 hpre
  intro j oj hj hCj e he hb
  obtain ⟨cj, mj, g1, g2, g3⟩ := HL.of hj
  exact hI.closed j hCj e.on (by rw [g3]; exact HL.direct _ _ _ _ _ _ _ g1 e he hb)

/-- An operation that was gone through already comes. -/
theorem Inv.late (F : Fit P) (HL : Pln P nt ops pl) (hI : Inv P base nt ops pl chkd tm0 σ0 m0 w0 a0 C dl val tq bq pend done tm m chk σ a w) (hs : chkd = true → still m chk = true)
    {i : Nat} {o : Oper} (ho : ops[i]? = some o) (hi : i ∈ dl) (hCi : ¬ C i) (hm : ∀ r, (mOf pl i).testBit r = true → C r) {C' : Nat → Prop} (hC : ∀ q, C' q ↔ C q ∨ q = i) {Q : Exit → Go.Act → World → Prop} {K : Go.Act → World → Prop}
    (hK : ∀ σ' a' w', Inv P base nt ops pl chkd tm0 σ0 m0 w0 a0 C' dl val tq bq pend done tm m chk σ' a' w' → K a' w') : wpOp P ops Q i K a w := by
  obtain ⟨v, hv⟩ := (hI.A.dom i).1 hi
  have hag := hI.A.agree i hi
  have hn := hI.names HL ho hag hCi hm
  obtain ⟨o', f, dst, g, ho', hco, hcar⟩ := hI.ent i v hv hCi
  rw [ho] at ho'; injection ho' with ho'; subst ho'
  obtain ⟨hd, hg, _⟩ := cOp_some hco
  have hwn := wanted_eq hg hI.size hn
  have hdlt : ∀ d, o.dst = some d → d < a.tmps.size := by
    intro d hd'
    rcases cTmp_some hd with ⟨h0, _⟩ | ⟨t, p, h0, _, hlt, _⟩
    · rw [hd'] at h0; cases h0
    · rw [hd'] at h0; injection h0 with h0; subst h0; rw [hI.size]; exact hlt
  have key : ∀ (σ' : Sg) (v' : Value) (w' : World), Rel P base σ' m w' → Sub σ σ' → (∀ b, b < m0.nxt → σ b = none → σ' b = none) → Below base w w' → VRel σ' v v' → (∀ q b, bq q = some b → q ≠ i → σ b = none → σ' b = none) → K (a.put o.dst v') w' := by
    intro σ' v' w' hrel hsub hlow hbel hvr hun
    refine hK σ' _ w' ⟨hI.A, ?_, hI.blt, hI.binj, hrel, ?_, hI.bel.trans hbel, ?_, ?_, hI.tmC.put HL ho hC hsub (fun _ _ _ => rfl) hv hvr hdlt, ?_, by rw [put_size]; exact hI.size, by rw [put_defers]; exact hI.dfr⟩
    · intro q u hq hCq
      exact hI.ent q u hq fun h => hCq ((hC q).2 (.inl h))
    · exact ⟨hI.ext.sub.trans hsub, hI.ext.nxt, fun b hb hs => ⟨hlow b hb (hI.ext.keep b hb hs).1, (hI.ext.keep b hb hs).2⟩⟩
    · intro q hq
      rcases (hC q).1 hq with h | rfl
      · exact hI.sub q h
      · exact hi
    · intro q hq r hr
      rcases (hC q).1 hq with h | rfl
      · exact (hC r).2 (.inl (hI.closed q h r hr))
      · exact (hC r).2 (.inl (hm r hr))
    · intro q b hb hCq
      have hq1 : ¬ C q := fun h => hCq ((hC q).2 (.inl h))
      have hq2 : q ≠ i := fun h => hCq ((hC q).2 (.inr h))
      exact hun q b hb hq2 (hI.unpl q b hb hq1)
  rcases hcar with ⟨hw, hve⟩ | ⟨hw, hgo, hcar⟩
  · rw [hw] at hwn
    unfold wpOp
    simp only [ho, hwn, Bool.false_eq_true, if_false]
    exact key σ undef w hI.rel (Sub.refl σ) (fun _ _ h => h) (Below.refl base w) (by rw [hve]; exact LRel.tuple .nil) (fun _ _ _ _ h => h)
  · rw [hw] at hwn
    rcases hcar with ⟨hr, hp⟩ | ⟨b, x, mk, hb, hve, hx, hmake⟩
    · have hnow := Carried.now (bo := bq i) hr hp hs
      have hsim := sim_op F hI.rel (NamesOk.hyp hn) hgo hnow
      obtain ⟨n, v', w', σ', h1, h2, h3, h4, h5, h6⟩ := hsim
      unfold wpOp
      simp only [ho, hwn, if_true]
      refine .inl ?_
      unfold Oper.wp
      rw [h1]
      have hkk := key σ' v' w' h4 h5.sub (fun b hb hs => (h5.keep b (Nat.lt_of_lt_of_le hb hI.ext.nxt) hs).1) h6 h3 (fun q b hb _ hs => (h5.keep b (hI.blt q b hb).2.1 hs).1)
      cases n with
      | value u => injection h2 with h2; subst h2; exact hkk
      | skip => injection h2 with h2; subst h2; exact hkk
      | _ => cases h2
    · obtain ⟨p, obj, v', k, h1, h2, h3, h4, h4n⟩ := hmake base σ a.eval w (NamesOk.hyp hn)
      obtain ⟨b1, b2, b3⟩ := hI.blt i b hb
      have hsb := hI.unpl i b hb hCi
      have hrel := hI.rel.place (p := p) (w' := { w with heap := w.heap.push obj, drawn := w.drawn + k }) hx hsb b2 h1 rfl h3 h4n
      unfold wpOp
      simp only [ho, hwn, if_true]
      refine .inl ?_
      unfold Oper.wp
      rw [h2]
      refine key (Am.place σ b p) v' _ hrel (place_sub hsb p) ?_ (below_push hI.rel.base rfl rfl rfl rfl) (by rw [hve]; exact h4 b _ (place_same b p)) ?_
      · intro b' hb' hs'
        unfold Am.place
        rw [if_neg (by omega)]; exact hs'
      · intro q b' hb' hq hs'
        unfold Am.place
        rw [if_neg (by rintro rfl; exact hq (hI.binj q i b' hb' hb))]; exact hs'

/-- The next operation that acts. -/
theorem Inv.act (F : Fit P) (HL : Pln P nt ops pl) (hany : anyMem pl = chkd) {callF : FuncId → Hook} (HCF : ∀ f, CallOk P base f (callF f)) {o : Oper} {h : OpF} {dst : Option (List Dg)} {gg : Option (Option (List Dg) × Bool)} {i mask k : Nat} {g : Option (Option Tmp × Bool)} {pend' : List Pi}
    (hI : Inv P base nt ops pl chkd tm0 σ0 m0 w0 a0 C dl val tq bq (Pi.mk o (.mk h dst gg) i mask k g :: pend') done tm m chk σ a w)
    (hmd : ∀ r, mask.testBit r = true → done.testBit r = true) (hm : ∀ r, (mOf pl i).testBit r = true → C r) {C' : Nat → Prop} (hC : ∀ q, C' q ↔ C q ∨ q = i) {chk' : List Ck} (hkeep : keepC mask chk = some chk') {r : Rs} {self : List Pi → Nat → Tr Value → Mem → List Ck → Option Rs}
    (hr : bC (wantedA tm gg)
      (((h tm m).b (actA callF m)).b fun r => Ro.rec (motive := fun _ => Option Rs) (fun v m' => (putA tm dst v).b fun tm' => self pend' (Nat.lor done (bit i)) tm' m' chk') (fun v m' => some (.panic v m')) r)
      ((putA tm dst (.tuple ⟨[]⟩)).b fun tm' => self pend' (Nat.lor done (bit i)) tm' m chk') = some r)
    {Q : Exit → Go.Act → World → Prop} {K : Go.Act → World → Prop} (hQ : RsQ P base nt σ0 m0 w0 a0 r Q)
    (hK : ∀ dl' val' tq' bq' tm' m' σ' a' w', Inv P base nt ops pl chkd tm0 σ0 m0 w0 a0 C' dl' val' tq' bq' pend' (Nat.lor done (bit i)) tm' m' chk' σ' a' w' → self pend' (Nat.lor done (bit i)) tm' m' chk' = some r → K a' w') : wpOp P ops Q i K a w := by
  obtain ⟨hrow, hni⟩ := hI.A.pl1 _ List.mem_cons_self
  replace hrow : pl[i]? = some (Pi.mk o (.mk h dst gg) i mask k g) := hrow
  replace hni : i ∉ dl := hni
  obtain ⟨hoi, _, hco, hk, _, hmk⟩ := HL.row hrow
  have hCi : ¬ C i := fun h => hni (hI.sub i h)
  obtain ⟨hd, hg, _⟩ := cOp_some hco
  have hag := hI.A.agree_now HL hni
  have hn := hI.names HL hoi hag hCi hm
  have hwn := wanted_eq hg hI.size hn
  have hdlt : ∀ d, o.dst = some d → d < a.tmps.size := by
    intro d hd'
    rcases cTmp_some hd with ⟨h0, _⟩ | ⟨t, p, h0, _, hlt, _⟩
    · rw [hd'] at h0; cases h0
    · rw [hd'] at h0; injection h0 with h0; subst h0; rw [hI.size]; exact hlt
  have key : ∀ (v : Value) (tm' : Tr Value) (m' : Mem) (σ' : Sg) (v' : Value) (w' : World), putA tm dst v = some tm' → VRel σ' v v' → Rel P base σ' m' w' → Ext σ m σ' m' → Below base w w' → (chkd = false → m' = m) →
      self pend' (Nat.lor done (bit i)) tm' m' chk' = some r → K (a.put o.dst v') w' := by
    intro v tm' m' σ' v' w' hp hvr hrel hext hbel hsame hself
    have hA := hI.A.add HL (k1 := []) hmd hp
    refine hK (i :: dl) (upd val i (some v)) (upd tq i tm) (upd bq i none) tm' m' σ' _ w' ⟨hA, ?_, ?_, ?_, hrel, hI.ext.trans hext, hI.bel.trans hbel, ?_, ?_, hI.tmC.put HL hoi hC hext.sub (fun r _ hr => upd_ne _ _ hr) (upd_same _ _ _) hvr hdlt, ?_, by rw [put_size]; exact hI.size, by rw [put_defers]; exact hI.dfr⟩ hself
    · intro q u hq hCq
      have hq1 : ¬ C q := fun h => hCq ((hC q).2 (.inl h))
      have hq2 : q ≠ i := fun h => hCq ((hC q).2 (.inr h))
      rw [upd_ne _ _ hq2] at hq
      rw [upd_ne _ _ hq2, upd_ne _ _ hq2]
      refine (hI.ent q u hq hq1).mono hsame (fun b x hb hx => ?_) (fun f tmX v hm' => ?_)
      · have := (hext.keep b (hI.blt q b hb).2.1 (hI.unpl q b hb hq1)).2
        rw [this]; exact hx
      · refine keepC_mem hkeep hm' ?_
        cases hbt : mask.testBit q with
        | false => rfl
        | true => exact absurd (hm q (by rw [hmk]; exact hbt)) hq1
    · intro q b hb
      by_cases e : q = i
      · subst e; rw [upd_same] at hb; cases hb
      · rw [upd_ne _ _ e] at hb
        obtain ⟨b1, b2, b3⟩ := hI.blt q b hb
        exact ⟨List.mem_cons_of_mem _ b1, Nat.lt_of_lt_of_le b2 hext.nxt, b3⟩
    · intro q q' b hb hb'
      by_cases e : q = i
      · subst e; rw [upd_same] at hb; cases hb
      · by_cases e' : q' = i
        · subst e'; rw [upd_same] at hb'; cases hb'
        · rw [upd_ne _ _ e] at hb; rw [upd_ne _ _ e'] at hb'; exact hI.binj q q' b hb hb'
    · intro q hq
      rcases (hC q).1 hq with h | rfl
      · exact List.mem_cons_of_mem _ (hI.sub q h)
      · exact List.mem_cons_self
    · intro q hq s hs
      rcases (hC q).1 hq with h | rfl
      · exact (hC s).2 (.inl (hI.closed q h s hs))
      · exact (hC s).2 (.inl (hm s hs))
    · intro q b hb hCq
      have hq1 : ¬ C q := fun h => hCq ((hC q).2 (.inl h))
      have hq2 : q ≠ i := fun h => hCq ((hC q).2 (.inr h))
      rw [upd_ne _ _ hq2] at hb
      exact (hext.keep b (hI.blt q b hb).2.1 (hI.unpl q b hb hq1)).1
  cases hw : wantedA tm gg with
  | false =>
    rw [hw] at hr hwn
    obtain ⟨tm', hp, hr⟩ := b_some.1 (show ((putA tm dst (.tuple ⟨[]⟩)).b fun tm' => self pend' (Nat.lor done (bit i)) tm' m chk') = some r from hr)
    unfold wpOp
    simp only [hoi, hwn, Bool.false_eq_true, if_false]
    exact key (.tuple ⟨[]⟩) tm' m σ undef w hp (LRel.tuple .nil) hI.rel (Ext.refl σ m) (Below.refl base w) (fun _ => rfl) hr
  | true =>
    rw [hw] at hr hwn
    obtain ⟨r1, hr1, hr⟩ := b_some.1 (show (((h tm m).b (actA callF m)).b fun r => Ro.rec (motive := fun _ => Option Rs) (fun v m' => (putA tm dst v).b fun tm' => self pend' (Nat.lor done (bit i)) tm' m' chk') (fun v m' => some (.panic v m')) r) = some r from hr)
    obtain ⟨act, hact, hact2⟩ := b_some.1 hr1
    have hgo := cOp_op hco hact
    have hsm : chkd = false → ∀ v m', r1 = .ret v m' → m' = m := by
      intro hcf v m' hrr
      have hk2 : k < 2 := by
        rcases Nat.lt_or_ge k 2 with h | h
        · exact h
        · rw [← hany] at hcf
          have : anyMem pl = true := by
            unfold anyMem
            rw [List.any_eq_true]
            exact ⟨_, List.mem_of_getElem? hrow, by show Nat.ble 2 k = true; exact (nble _ _).2 h⟩
          rw [this] at hcf; cases hcf
      obtain ⟨c0, c1, _⟩ := cls_op hgo
      have hread : ReadF h := by
        rcases Nat.eq_zero_or_pos k with h0 | h0
        · exact (c0 (by rw [← hk, h0])).read
        · exact c1 (by rw [← hk]; omega)
      obtain ⟨u, hu⟩ := hread tm m act hact
      subst hu
      injection (show some (Ro.ret u m) = some r1 from hact2) with e
      rw [hrr] at e; injection e with _ e; exact e.symm
    refine exec_op F HCF hoi hwn hgo (NamesOk.hyp hn) hI.rel hr1 ?_ ?_
    · intro v m' v' w' σ' hr2 hv hrel he hb
      subst hr2
      obtain ⟨tm', hp, hr⟩ := b_some.1 (show ((putA tm dst v).b fun tm' => self pend' (Nat.lor done (bit i)) tm' m' chk') = some r from hr)
      exact key v tm' m' σ' v' w' hp hv hrel he hb (fun hcf => hsm hcf v m' rfl) hr
    · intro v m' v' w' σ' hr2 hv hrel he hb
      subst hr2
      injection (show some (Rs.panic v m') = some r from hr) with hr; subst hr
      exact hQ a w' σ' v' hv hrel (hI.ext.trans he) (hI.bel.trans hb) hI.dfr

end
end Go.Am
