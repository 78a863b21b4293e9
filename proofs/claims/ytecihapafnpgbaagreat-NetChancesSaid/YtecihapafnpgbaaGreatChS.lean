/- NetChances: names in the abstract machine: what a walk proves of a function serves as a hook. · NetChances: hooks by patterns: known arguments but for one name; a known result but for one new name. · NetChances: what is not known, and the hooks. -/
import Derived.Test.YtecihapafnpgbaaGreatChR
import Derived.Test.YtecihapafnpgbaaGreatAmG
import Derived.Test.YtecihapafnpgbaaGreatDrA
set_option linter.unusedSimpArgs false
set_option linter.unusedVariables false
set_option linter.constructorNameAsVariable false
set_option linter.unusedSectionVars false
namespace Go.Ch
open Go Go.Am Go.Hm Go.Proofs Go.RowKit
set_option maxRecDepth 100000
/-- A new name of the row j. -/
noncomputable def nameM (m : Mem) (j : Nat) : Option (Value × Mem) :=
  Mem.rec (motive := fun _ => Option (Value × Mem)) (fun t x => oC (t.get x) (fN (Nat.add x 1) fun y => fN (Nat.add 16 (Nat.mul 2 j)) fun k => some (.complex .f64 x k, .mk t y)) fun _ => none) m
theorem nameM_some {m m' : Mem} {j : Nat} {v : Value} (h : nameM m j = some (v, m')) : v = .complex .f64 m.nxt (16 + 2 * j) ∧ m'.nxt = m.nxt + 1 ∧ (∀ b, m'.get b = m.get b) ∧ m.get m.nxt = none := by
  cases m with
  | mk t x =>
    replace h : oC (t.get x) (fN (Nat.add x 1) fun y => fN (Nat.add 16 (Nat.mul 2 j)) fun k => some (Value.complex .f64 x k, Mem.mk t y)) (fun _ => none) = some (v, m') := h
    cases hx : t.get x with
    | some b => rw [hx] at h; cases h
    | none =>
      rw [hx] at h
      replace h : (fN (Nat.add x 1) fun y => fN (Nat.add 16 (Nat.mul 2 j)) fun k => some (Value.complex .f64 x k, Mem.mk t y)) = some (v, m') := h
      rw [fN_eq, fN_eq] at h
      injection h with h
      injection h with h1 h2
      subst h1; subst h2
      exact ⟨rfl, rfl, fun _ => rfl, hx⟩
section
variable [Env] {base : Nat} {σ : Sg} {m m' : Mem} {w w' : World}
theorem name_rel (rel : Rel Tryz.prog base σ m w) (hb : Below w.heap.size w w') {j : Nat} {v v' : Value} (ho : OwnB w.heap.size w' v' (Env.bytes j)) (hn : nameM m j = some (v, m')) :
    ∃ σ', Ext σ m σ' m' ∧ Rel Tryz.prog base σ' m' w' ∧ VRel σ' v v' := by
  obtain ⟨rfl, h2, h3, h4⟩ := nameM_some hn
  have rel' := rel.later hb
  have hfr := rel.fresh m.nxt (Nat.le_refl _)
  rcases ho.row.2 with ⟨rfl, hl⟩ | ⟨g, cap, cur, rfl, hg, hh, hc, hm, hv, hfz⟩
  · refine ⟨σ, ⟨Sub.refl σ, by omega, fun b _ hs => ⟨hs, h3 b⟩⟩, ⟨?_, ?_, ?_, ?_, ?_, rel'.base, ?_⟩, .nm _ (.nil j rfl (List.eq_nil_of_length_eq_zero hl) _ _ (by unfold maxLen; omega))⟩
    · exact fun b rw e vs hbk => rel'.cells b rw e vs (by rw [← h3]; exact hbk)
    · exact fun b es c hbk => rel'.map b es c (by rw [← h3]; exact hbk)
    · exact fun b r a s t hbk => rel'.iter b r a s t (by rw [← h3]; exact hbk)
    · exact fun b c x y p q hx hy => rel'.inj b c x y p q (by rw [← h3]; exact hx) (by rw [← h3]; exact hy)
    · exact fun b hb' => rel'.fresh b (by omega)
    · exact fun b p hp hnm => ⟨(rel'.own b p hp hnm).1, fun c x q hc' hq => (rel'.own b p hp hnm).2 c x q (by rw [← h3]; exact hc') hq⟩
  · have hlt : ∀ b ∈ Env.bytes j, b < 256 := ho.lt
    have hdec : decB (encN (Env.bytes j)) = Env.bytes j := dec_enc hlt
    have hsub := place_sub (p := ⟨g, 0, cap, 0, encN (Env.bytes j)⟩) hfr
    have hpl : ∀ c q, Am.place σ m.nxt ⟨g, 0, cap, 0, encN (Env.bytes j)⟩ c = some q → (c = m.nxt ∧ q = ⟨g, 0, cap, 0, encN (Env.bytes j)⟩) ∨ (c ≠ m.nxt ∧ σ c = some q) := fun c q hq => by
      unfold Am.place at hq
      by_cases e : c = m.nxt
      · rw [if_pos e] at hq; injection hq with hq; exact .inl ⟨e, hq.symm⟩
      · rw [if_neg e] at hq; exact .inr ⟨e, hq⟩
    have hne : ∀ c x, m'.get c = some x → c ≠ m.nxt := fun c x hx e => by rw [h3, e, h4] at hx; cases hx
    have hold : ∀ c x q, m'.get c = some x → Am.place σ m.nxt ⟨g, 0, cap, 0, encN (Env.bytes j)⟩ c = some q → m.get c = some x ∧ σ c = some q := fun c x q hx hq => by
      rcases hpl c q hq with ⟨e, _⟩ | ⟨_, hq⟩
      · exact absurd e (hne c x hx)
      · exact ⟨by rw [← h3]; exact hx, hq⟩
    refine ⟨Am.place σ m.nxt ⟨g, 0, cap, 0, encN (Env.bytes j)⟩, ⟨hsub, by omega, fun b hb' hs => ⟨?_, h3 b⟩⟩, ⟨?_, ?_, ?_, ?_, ?_, rel'.base, ?_⟩, .nm _ ?_⟩
    · unfold Am.place; rw [if_neg (by omega)]; exact hs
    · intro c rw e vs hx q hq
      obtain ⟨hx, hq⟩ := hold c _ q hx hq
      obtain ⟨k0, k1, k2, k3, arr, fz, k4, k5, k6, k7⟩ := rel'.cells c rw e vs hx q hq
      refine ⟨k0, k1, k2, k3, arr, fz, k4, k5, k6, fun i u hu => ?_⟩
      obtain ⟨v', a, r⟩ := k7 i u hu
      exact ⟨v', a, r.mono hsub⟩
    · intro c es k hx q hq
      obtain ⟨hx, hq⟩ := hold c _ q hx hq
      obtain ⟨k1, es', k2, k3⟩ := rel'.map c es k hx q hq
      exact ⟨k1, es', k2, k3.mono hsub⟩
    · intro c r a s t hx q hq
      obtain ⟨hx, hq⟩ := hold c _ q hx hq
      obtain ⟨k0, k1, r', k2, k3⟩ := rel'.iter c r a s t hx q hq
      exact ⟨k0, k1, r', k2.mono hsub, k3⟩
    · intro c d x y q r hx hy hq hr e
      obtain ⟨hx, hq⟩ := hold c _ q hx hq
      obtain ⟨hy, hr⟩ := hold d _ r hy hr
      exact rel'.inj c d x y q r hx hy hq hr e
    · intro c hc'
      unfold Am.place; rw [if_neg (by omega)]; exact rel'.fresh c (by omega)
    · intro c q hq hnm
      rcases hpl c q hq with ⟨rfl, rfl⟩ | ⟨_, hq⟩
      · refine ⟨⟨cur, 5, (0, 0), hh, fun i x hx => ?_⟩, fun d x r hd hr => ?_⟩
        · rw [hdec] at hx
          have := ho.at
          obtain ⟨_, a, c2, e, _, _, hcell⟩ := this
          obtain ⟨b', o', e', hcc⟩ := hcell i x hx
          cases e; cases e'
          rw [cell_of_row _ _ _ _ _ _ hh] at hcc
          simpa using hcc
        · obtain ⟨hd, hr⟩ := hold d x r hd hr
          have := rel.live hd hr
          show r.blk ≠ g
          omega
      · refine ⟨(rel'.own c q hq hnm).1, fun d x r hd hr => ?_⟩
        obtain ⟨hd, hr⟩ := hold d x r hd hr
        exact (rel'.own c q hq hnm).2 d x r hd hr
    · exact .row j rfl (place_same _ _) ⟨rfl, by show 1 ≤ encB _ + 1; omega⟩ hdec ⟨hc, hm⟩
theorem bytes_of (rel : Rel Tryz.prog base σ m w) {b k j : Nat} {v' : Value} (hk : k = 16 + 2 * j) (h : VRel σ (.complex .f64 b k) v') : BytesAt w v' (Env.bytes j) := by
  cases h with
  | nm _ h =>
  cases h with
  | flt hk' => omega
  | len hk' => omega
  | ptr c hk' => omega
  | nil j' hk' hb a c hc =>
    obtain rfl : j' = j := by omega
    rw [hb]; exact ⟨by simp, a, c, rfl, by simp, hc, by simp⟩
  | row j' hk' hp hn hb hc =>
    rename_i p
    obtain rfl : j' = j := by omega
    obtain ⟨⟨arr, e, fz, h4, h5⟩, _⟩ := rel.own b p hp hn
    refine ⟨Env.lt j', _, p.cap, rfl, hc.1, hc.2, fun i x hx => ⟨p.blk, p.sh, rfl, ?_⟩⟩
    rw [cell_of_row _ _ _ _ _ _ h4]
    exact h5 i x (by rw [hb]; exact hx)
end
end Go.Ch
namespace Go.Ch
open Go Go.Am Go.Hm Go.Proofs Go.RowKit
set_option maxRecDepth 100000
/-- Arguments with one place open. -/
structure Pat where
  p1 : List Value
  ag : Bool
  l1 : List Value
  l2 : List Value
  p2 : List Value
noncomputable def Pat.wrap (q : Pat) (x : Value) : Value := bC q.ag (.agg ⟨q.l1 ++ x :: q.l2⟩) x
noncomputable def Pat.fill (q : Pat) (x : Value) : List Value := q.p1 ++ q.wrap x :: q.p2
/-- What stands at the open place. -/
noncomputable def Pat.find (q : Pat) (args : List Value) : Option Value :=
  (dropL q.p1.length args).b fun r => (uncons r).b fun p => Am.p2 p fun a _ => bC q.ag ((vAgg a).b fun l => (dropL q.l1.length l).b fun r => (uncons r).b fun p => Am.p2 p fun x _ => some x) (some a)
noncomputable def rowIs (i : Nat) (x : Value) : Bool := oC (nmV x) false fun a => p2 a fun _ k => Nat.beq k (Nat.add 16 (Nat.mul 2 i))
def Pat.flat (q : Pat) : Bool := (q.p1.all (isFlat 10)) && (q.l1.all (isFlat 10)) && (q.l2.all (isFlat 10)) && (q.p2.all (isFlat 10))
noncomputable def hPat (q : Pat) (i j : Nat) (out : Value → Value) (k : Hook) : Hook := fun args m =>
  oC (q.find args) (k args m) fun x => bC (bC (eqList eqV args (q.fill x)) (rowIs i x) false) (b2 (nameM m j) fun v m' => some (.ret (out v) m')) (k args m)
section
variable {σ : Sg} [Env]
theorem LRel.split {a x b : List Value} {l' : List Value} (h : LRel σ (a ++ b) l') : ∃ a' b', l' = a' ++ b' ∧ LRel σ a a' ∧ LRel σ b b' := by
  induction a generalizing l' with
  | nil => exact ⟨[], l', rfl, .nil, h⟩
  | cons v a ih =>
    obtain ⟨v', r', rfl, hv, hr⟩ := LRel.head h
    obtain ⟨a', b', rfl, h1, h2⟩ := ih hr
    exact ⟨v' :: a', b', rfl, .cons hv h1, h2⟩
theorem LRel.mid {a b : List Value} {x : Value} {l' : List Value} (ha : ∀ v ∈ a, Flat v) (hb : ∀ v ∈ b, Flat v) (h : LRel σ (a ++ x :: b) l') : ∃ x', l' = a ++ x' :: b ∧ VRel σ x x' := by
  obtain ⟨a', r', rfl, h1, h2⟩ := LRel.split (x := []) h
  obtain ⟨x', b', rfl, hx, h3⟩ := LRel.head h2
  exact ⟨x', by rw [LRel.flat_eq ha h1, LRel.flat_eq hb h3], hx⟩
theorem Pat.fill_inv {q : Pat} (hf : q.flat = true) {x : Value} {l' : List Value} (h : LRel σ (q.fill x) l') : ∃ x', l' = q.fill x' ∧ VRel σ x x' := by
  unfold Pat.flat at hf
  simp only [Bool.and_eq_true] at hf
  obtain ⟨⟨⟨f1, f2⟩, f3⟩, f4⟩ := hf
  have fl : ∀ l : List Value, l.all (isFlat 10) = true → ∀ v ∈ l, Flat v := fun l h v hv => isFlat_flat _ _ (List.all_eq_true.1 h v hv)
  obtain ⟨y, rfl, hy⟩ := LRel.mid (fl _ f1) (fl _ f4) h
  unfold Pat.wrap at hy
  unfold Pat.fill Pat.wrap
  cases hag : q.ag with
  | false => rw [hag] at hy; exact ⟨y, rfl, hy⟩
  | true =>
    rw [hag] at hy
    obtain ⟨l2, rfl, hl⟩ := VRel.agg_inv (show VRel σ (.agg ⟨q.l1 ++ x :: q.l2⟩) y from hy)
    obtain ⟨x', rfl, hx⟩ := LRel.mid (fl _ f2) (fl _ f3) hl
    exact ⟨x', rfl, hx⟩
theorem hPat_ok {base f : Nat} {q : Pat} {i j : Nat} {out : Value → Value} {k : Hook} (hfn : ∃ fn, Tryz.prog.funcs[f]? = some fn ∧ fn.body.isSome = true ∧ (fn.name == "runtime.NumGoroutine") = false) (hf : q.flat = true)
    (hout : ∀ (σ : Sg) (v v' : Value), VRel σ v v' → VRel σ (out v) (out v'))
    (hc : ∀ w x', BytesAt w x' (Env.bytes i) → Calls Tryz.prog f ⟨q.fill x'⟩ w fun e w' => ∃ v', e = .returned (out v') ∧ OwnB w.heap.size w' v' (Env.bytes j) ∧ Below w.heap.size w w')
    (hk : CallOk Tryz.prog base f k) : CallOk Tryz.prog base f (hPat q i j out k) := by
  intro args m r hr σ w args' rel ha
  unfold hPat at hr
  cases hx : q.find args with
  | none => rw [hx] at hr; exact hk args m r hr σ w args' rel ha
  | some x =>
    rw [hx] at hr
    replace hr : bC (bC (eqList eqV args (q.fill x)) (rowIs i x) false) (b2 (nameM m j) fun v m' => some (Ro.ret (out v) m')) (k args m) = some r := hr
    cases hb : bC (eqList eqV args (q.fill x)) (rowIs i x) false with
    | false => rw [hb] at hr; exact hk args m r hr σ w args' rel ha
    | true =>
      rw [hb] at hr
      obtain ⟨h1, h2⟩ := bC_tt hb
      have := eqList_eq (fun _ _ => eqV_eq) _ _ h1; subst this
      replace hr : (b2 (nameM m j) fun v m' => some (Ro.ret (out v) m')) = some r := hr
      obtain ⟨v, m', hn, hr⟩ := b2_some.1 hr
      injection hr with hr; subst hr
      obtain ⟨x', rfl, hxx⟩ := Pat.fill_inv hf ha
      unfold rowIs at h2
      cases hnm : nmV x with
      | none => rw [hnm] at h2; cases h2
      | some p =>
        rw [hnm] at h2
        obtain ⟨b, kk⟩ := p
        have hkk : kk = 16 + 2 * i := (nbeq _ _).1 (show Nat.beq kk (16 + 2 * i) = true from h2)
        have := nmV_some hnm; subst this
        have hB := bytes_of rel hkk hxx
        refine ⟨hfn, (hc w x' hB).mono fun e w' he => ?_⟩
        obtain ⟨v', rfl, ho, hbb⟩ := he
        obtain ⟨σ', e1, e2, e3⟩ := name_rel rel hbb ho hn
        exact ⟨σ', e1, hbb.mono rel.base, e2, _, rfl, hout σ' v v' e3⟩
/-- draw.Hit at names of floats: as a table says. -/
noncomputable def hHits (tbl : List (Nat × Nat × Bool)) : Hook := fun args m =>
  (two args).b fun p => p2 p fun x y => (nmV x).b fun a => p2 a fun i k => (nmV y).b fun b => p2 b fun j l => bC (bC (Nat.beq k 0) (Nat.beq l 0) false)
    (List.rec (motive := fun _ => Option Ro) none (fun e _ ih => p2 e fun a r => p2 r fun b t => bC (bC (Nat.beq a i) (Nat.beq b j) false) (some (.ret (.bool t) m)) ih) tbl) none
theorem two_some {l : List Value} {x y : Value} (h : two l = some (x, y)) : l = [x, y] := by
  cases l with
  | nil => cases h
  | cons a r =>
    obtain ⟨z, hz, h⟩ := b_some.1 (show ((oneL r).b fun y => some (a, y)) = some (x, y) from h)
    injection h with h; injection h with h1 h2; subst h1; subst h2
    rw [(oneL_eq _ _).1 hz]
theorem flt_of {b k : Nat} {v' : Value} (hk : k = 0) (h : VRel σ (.complex .f64 b k) v') : v' = .float .f64 (Env.flt b) := by
  cases h with
  | nm _ h =>
  cases h with
  | flt hk' => rfl
  | len hk' => omega
  | ptr c hk' => omega
  | nil j' hk' hb => omega
  | row j' hk' => omega
theorem hHits_ok {base : Nat} {tbl : List (Nat × Nat × Bool)} (h : ∀ e ∈ tbl, Env.flt e.1 < 18446744073709551616 ∧ Env.flt e.2.1 < 18446744073709551616 ∧ Go.Dr.hitF (Env.flt e.1) (Env.flt e.2.1) = e.2.2) :
    CallOk Tryz.prog base 235 (hHits tbl) := by
  intro args m r hr σ w args' rel ha
  obtain ⟨⟨x, y⟩, hxy, hr⟩ := b_some.1 hr
  obtain ⟨⟨i, k⟩, hx, hr⟩ := b_some.1 hr
  obtain ⟨⟨j, l⟩, hy, hr⟩ := b_some.1 hr
  obtain ⟨hkl, hrr⟩ := bC_some.1 hr
  obtain ⟨hk, hl⟩ := bC_tt hkl
  have hk := (nbeq _ _).1 hk
  have hl := (nbeq _ _).1 hl
  have := two_some hxy; subst this
  have := nmV_some hx; subst this
  have := nmV_some hy; subst this
  obtain ⟨x', t', rfl, h1, ht⟩ := LRel.head ha
  obtain ⟨y', t2, rfl, h2, ht2⟩ := LRel.head ht
  obtain rfl := ht2.nil_inv
  obtain rfl := flt_of hk h1
  obtain rfl := flt_of hl h2
  have key : ∀ tbl : List (Nat × Nat × Bool), (∀ e ∈ tbl, Env.flt e.1 < 18446744073709551616 ∧ Env.flt e.2.1 < 18446744073709551616 ∧ Go.Dr.hitF (Env.flt e.1) (Env.flt e.2.1) = e.2.2) →
      (List.rec (motive := fun _ => Option Ro) none (fun e _ ih => p2 e fun a r => p2 r fun b t => bC (bC (Nat.beq a i) (Nat.beq b j) false) (some (.ret (.bool t) m)) ih) tbl : Option Ro) = some r →
      ∃ t, r = .ret (.bool t) m ∧ Env.flt i < 18446744073709551616 ∧ Env.flt j < 18446744073709551616 ∧ Go.Dr.hitF (Env.flt i) (Env.flt j) = t := by
    intro tbl
    induction tbl with
    | nil => intro _ h; cases h
    | cons e tbl ih =>
      intro h hr
      obtain ⟨a, b, t⟩ := e
      replace hr : bC (bC (Nat.beq a i) (Nat.beq b j) false) (some (Ro.ret (.bool t) m)) (List.rec (motive := fun _ => Option Ro) none (fun e _ ih => p2 e fun a r => p2 r fun b t => bC (bC (Nat.beq a i) (Nat.beq b j) false) (some (.ret (.bool t) m)) ih) tbl : Option Ro) = some r := hr
      cases hb : bC (Nat.beq a i) (Nat.beq b j) false with
      | false => rw [hb] at hr; exact ih (fun e he => h e (List.mem_cons_of_mem _ he)) hr
      | true =>
        rw [hb] at hr
        obtain ⟨h3, h4⟩ := bC_tt hb
        have h3 := (nbeq _ _).1 h3
        have h4 := (nbeq _ _).1 h4
        subst h3; subst h4
        injection (show some (Ro.ret (.bool t) m) = some r from hr) with hr
        have := h _ List.mem_cons_self
        exact ⟨t, hr.symm, this.1, this.2.1, this.2.2⟩
  obtain ⟨t, rfl, g1, g2, g3⟩ := key tbl h hrr
  refine ⟨⟨_, Tryz.func235, by kernel_rfl, by kernel_rfl⟩, (Go.Dr.hit _ _ g1 g2 w).mono fun e w' he => ?_⟩
  obtain ⟨rfl, rfl⟩ := he
  rw [g3]
  exact ⟨σ, Ext.refl σ m, Below.refl _ w, rel, _, rfl, .bool t⟩
/-- draw.Delay at no mean. -/
noncomputable def hDel (most : Nat) : Hook := fun args m =>
  (uncons args).b fun p => p2 p fun a r => (two r).b fun q => p2 q fun b c => bC (bC (eqV a (.float .f64 0)) (bC (eqV b (.int .i64 (.ofNat most))) (oC (nmV c) false fun x => p2 x fun _ k => Nat.beq k 0) false) false) (some (.ret (.int .i64 (.ofNat 0)) m)) none
theorem hDel_ok {base most : Nat} (hm : 1 ≤ most) : CallOk Tryz.prog base 236 (hDel most) := by
  intro args m r hr σ w args' rel ha
  obtain ⟨⟨a, rr⟩, h1, hr⟩ := b_some.1 hr
  obtain ⟨⟨b, c⟩, h2, hr⟩ := b_some.1 hr
  obtain ⟨h3, hr⟩ := bC_some.1 hr
  injection hr with hr; subst hr
  obtain ⟨h4, h5⟩ := bC_tt h3
  obtain ⟨h5, h6⟩ := bC_tt h5
  have := eqV_eq h4; subst this
  have := eqV_eq h5; subst this
  cases hn : nmV c with
  | none => rw [hn] at h6; cases h6
  | some x =>
    rw [hn] at h6
    obtain ⟨i, k⟩ := x
    have hk := (nbeq _ _).1 (show Nat.beq k 0 = true from h6)
    have := nmV_some hn; subst this
    have := two_some h2; subst this
    cases args with
    | nil => cases h1
    | cons z zs =>
      injection (show some (z, zs) = some (Value.float .f64 0, _) from h1) with h1
      injection h1 with e1 e2; subst e1; subst e2
      obtain ⟨x', t', rfl, g1, ht⟩ := LRel.head ha
      obtain ⟨y', t2, rfl, g2, ht2⟩ := LRel.head ht
      obtain ⟨z', t3, rfl, g3, ht3⟩ := LRel.head ht2
      obtain rfl := ht3.nil_inv
      obtain rfl := flt_of hk g3
      cases g1; cases g2
      refine ⟨⟨_, Tryz.func236, by kernel_rfl, by kernel_rfl⟩, (Go.Dr.delay0 0 most _ (by kernel_rfl) hm w).mono fun e w' he => ?_⟩
      obtain ⟨rfl, rfl⟩ := he
      exact ⟨σ, Ext.refl σ m, Below.refl _ w, rel, _, rfl, .int _ _⟩
end
end Go.Ch
namespace Go.Ch
open Go Go.Am Go.Hm Go.Proofs Go.RowKit
set_option maxRecDepth 100000
theorem be2_lt : ∀ (l : List Nat), (∀ x ∈ l, x < 65536) → ∀ b ∈ be2 l, b < 256
  | [], _, b, hb => by cases hb
  | x :: r, h, b, hb => by
    have hx := h x List.mem_cons_self
    simp only [be2, List.mem_cons] at hb
    rcases hb with rfl | rfl | hb
    · omega
    · omega
    · exact be2_lt r (fun y hy => h y (List.mem_cons_of_mem _ hy)) b hb
theorem checkN_le (n : Nat) : checkN n ≤ 65535 := by unfold checkN; omega
theorem layL_lt (k id sq : Nat) (hid : id < 65536) (hsq : sq < 65536) (d : List Nat) (hd : ∀ b ∈ d, b < 256) : ∀ b ∈ layL k id sq d, b < 256 := by
  intro b hb
  have hc := checkN_le (wsum (layH k id sq ++ d))
  simp only [layL, List.mem_append] at hb
  rcases hb with (hb | hb) | hb
  · simp only [List.mem_cons, List.not_mem_nil, or_false] at hb
    rcases hb with rfl | rfl | rfl | rfl
    · unfold echoT; split <;> omega
    · omega
    · omega
    · omega
  · exact be2_lt _ (by simp; omega) b hb
  · exact hd b hb
theorem layL_len (k id sq : Nat) (d : List Nat) : (layL k id sq d).length = 8 + d.length := by
  obtain ⟨c1, c2, h⟩ := layL_eq k id sq d
  rw [h]; simp; omega
theorem ipL_lt (src dst : List Nat) (hs : ∀ b ∈ src, b < 256) (hd : ∀ b ∈ dst, b < 256) (proto hops id mw : Nat) (h1 : proto < 256) (h2 : hops < 256) (h3 : id < 65536) (h4 : mw < 65536) (l : List Nat) (hl : ∀ b ∈ l, b < 256) (hn : l.length ≤ 60000) : ∀ b ∈ ipL src dst proto hops id mw l, b < 256 := by
  intro b hb
  have hH : ∀ b ∈ ipH src dst proto hops id mw l.length, b < 256 := by
    intro b hb
    simp only [ipH, List.mem_append] at hb
    rcases hb with (((hb | hb) | hb) | hb) | hb
    · simp at hb; omega
    · exact be2_lt _ (by simp; omega) b hb
    · simp at hb; omega
    · exact hs b hb
    · exact hd b hb
  have hc := checkN_le (wsum (ipH src dst proto hops id mw l.length))
  simp only [ipL, List.mem_append] at hb
  rcases hb with hb | hb
  · unfold ipC at hb
    rcases List.mem_or_eq_of_mem_set hb with hb | rfl
    · rcases List.mem_or_eq_of_mem_set hb with hb | rfl
      · exact hH b hb
      · omega
    · omega
  · exact hl b hb
theorem ipL_len (p q r s p' q' r' s' proto hops id mw : Nat) (d : List Nat) : (ipL [p, q, r, s] [p', q', r', s'] proto hops id mw d).length = 20 + d.length := by
  obtain ⟨c1, c2, h, _⟩ := ipL_head p q r s p' q' r' s' proto hops id mw d
  rw [h]; simp; omega
/-- The packets of the run. -/
def askP (d : List Nat) : List Nat := ipL [10, 0, 0, 1] [10, 0, 0, 2] 1 64 1 0 (layL 1 1 1 d)
def ansP (n : Nat) (d : List Nat) : List Nat := ipL [10, 0, 0, 2] [10, 0, 0, 1] 1 64 n 0 (layL 2 1 1 d)
noncomputable def rowN (d : List Nat) (j : Nat) : List Nat :=
  if j = 0 then d else if j = 8 then layL 1 1 1 d else if j = 16 then layL 2 1 1 d else if j = 1 then askP d else if j = 9 then ansP 1 d else if j = 17 then ansP 2 d else [rowFst j]
theorem askP_lt (d : List Nat) (hd : ∀ b ∈ d, b < 256) (hl : d.length ≤ 1000) : ∀ b ∈ askP d, b < 256 :=
  ipL_lt _ _ (by simp) (by simp) _ _ _ _ (by omega) (by omega) (by omega) (by omega) _ (layL_lt 1 1 1 (by omega) (by omega) d hd) (by rw [layL_len]; omega)
theorem ansP_lt (n : Nat) (hn : n < 65536) (d : List Nat) (hd : ∀ b ∈ d, b < 256) (hl : d.length ≤ 1000) : ∀ b ∈ ansP n d, b < 256 :=
  ipL_lt _ _ (by simp) (by simp) _ _ _ _ (by omega) (by omega) hn (by omega) _ (layL_lt 2 1 1 (by omega) (by omega) d hd) (by rw [layL_len]; omega)
theorem askP_len (d : List Nat) : (askP d).length = 28 + d.length := by unfold askP; rw [ipL_len, layL_len]; omega
theorem ansP_len (n : Nat) (d : List Nat) : (ansP n d).length = 28 + d.length := by unfold ansP; rw [ipL_len, layL_len]; omega
theorem askP_fst (d : List Nat) : (askP d)[0]? = some 69 := by
  obtain ⟨c1, c2, h, _⟩ := ipL_head 10 0 0 1 10 0 0 2 1 64 1 0 (layL 1 1 1 d)
  unfold askP; rw [h]; rfl
theorem ansP_fst (n : Nat) (d : List Nat) : (ansP n d)[0]? = some 69 := by
  obtain ⟨c1, c2, h, _⟩ := ipL_head 10 0 0 2 10 0 0 1 1 64 n 0 (layL 2 1 1 d)
  unfold ansP; rw [h]; rfl
theorem rowLim_lo (j : Nat) : 1100 ≤ rowLim j := by
  unfold rowLim
  cases Nat.beq (Nat.mod (Nat.div j 4) 2) 0
  · show 1100 ≤ 1500; omega
  · exact Nat.le_refl 1100
theorem rowFst_lt (j : Nat) : rowFst j < 256 := by
  unfold rowFst
  cases Nat.beq (Nat.mod j 4) 1 <;> decide
/-- What is not known. -/
@[reducible] noncomputable def envN (d : List Nat) (hd : ∀ b ∈ d, b < 256) (hl : d.length ≤ 1000) (f : Nat → Nat) : Env where
  bytes := rowN d
  flt := f
  lt := fun j => by
    unfold rowN
    split
    · exact hd
    split
    · exact layL_lt 1 1 1 (by omega) (by omega) d hd
    split
    · exact layL_lt 2 1 1 (by omega) (by omega) d hd
    split
    · exact askP_lt d hd hl
    split
    · exact ansP_lt 1 (by omega) d hd hl
    split
    · exact ansP_lt 2 (by omega) d hd hl
    · intro b hb
      obtain rfl := List.mem_singleton.1 hb
      exact rowFst_lt j
  short := fun j => by
    have := rowLim_lo j
    unfold rowN
    split
    · omega
    split
    · rw [layL_len]; omega
    split
    · rw [layL_len]; omega
    split
    · rw [askP_len]; omega
    split
    · rw [ansP_len]; omega
    split
    · rw [ansP_len]; omega
    · show 1 ≤ _; omega
  fst := fun j hj => by
    unfold rowN
    split
    · rename_i h; subst h; cases hj
    split
    · rename_i h; subst h; cases hj
    split
    · rename_i h; subst h; cases hj
    split
    · rename_i h; subst h; exact askP_fst d
    split
    · rename_i h; subst h; exact ansP_fst 1 d
    split
    · rename_i h; subst h; exact ansP_fst 2 d
    · rfl
@[reducible] def adv (n : Nat) : List Value := [ff, u 10, u 0, u 0, u n] ++ List.replicate 12 (u 0)
@[reducible] def msgP (k : Nat) (p2 : List Value) : Pat := ⟨[], true, [i k, u 0, uh 1, uh 1, uw 0], [], p2⟩
@[reducible] def pkP (s d n : Nat) : Pat := ⟨[], true, adv s ++ adv d ++ [u 1, u 64, uw n, ff, ff, i 0], [], []⟩
@[reducible] def rowP (p2 : List Value) : Pat := ⟨[], false, [], [], p2⟩
@[reducible] def out1 (v : Value) : Value := tu [v, i 0]
@[reducible] def outM (k : Nat) (v : Value) : Value := tu [ag [i k, u 0, uh 1, uh 1, uw 0, v], i 0]
@[reducible] def outP (s d n : Nat) (v : Value) : Value := tu [ag (adv s ++ adv d ++ [u 1, u 64, uw n, ff, ff, i 0, v]), i 0]
noncomputable def hkLay : Hook := hPat (msgP 1 [ag (adv 1), ag (adv 2)]) 0 8 out1 (hPat (msgP 2 [ag (adv 2), ag (adv 1)]) 0 16 out1 hNo)
noncomputable def hkPar : Hook := hPat (rowP [ag (adv 1), ag (adv 2)]) 8 0 (outM 1) (hPat (rowP [ag (adv 2), ag (adv 1)]) 16 0 (outM 2) hNo)
noncomputable def hkIpL : Hook := hPat (pkP 1 2 1) 8 1 out1 (hPat (pkP 2 1 1) 16 9 out1 (hPat (pkP 2 1 2) 16 17 out1 hNo))
noncomputable def hkIpP : Hook := hPat (rowP []) 1 8 (outP 1 2 1) (hPat (rowP []) 9 16 (outP 2 1 1) (hPat (rowP []) 17 16 (outP 2 1 2) hNo))
noncomputable def hkCl : Hook := hPat (rowP []) 0 0 (fun v => v) (callA Tryz.prog fns .lf 100000 100 113)
noncomputable def hkN (tbl : List (Nat × Nat × Bool)) : Tr Hook :=
  putH (putH (putH (putH (putH (putH (putH .lf 235 (hHits tbl)) 236 (hDel 5)) 32 hkLay) 116 hkPar) 167 hkIpL) 103 hkIpP) 113 hkCl
end Go.Ch
