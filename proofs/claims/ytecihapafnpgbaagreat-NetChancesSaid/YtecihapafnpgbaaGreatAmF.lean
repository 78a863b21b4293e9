/- The abstract machine, part 26: regions, statements, calls: what it tells is so. · The abstract machine, part 27: statements, bodies, calls. · The abstract machine, part 28: calls whose outcome is known. · The abstract machine, part 29: heaps as text. -/
import Derived.Test.YtecihapafnpgbaaGreatAmE
set_option linter.unusedSimpArgs false
set_option linter.unusedVariables false
set_option linter.constructorNameAsVariable false
set_option linter.unusedSectionVars false
namespace Go.Am
set_option linter.unusedSectionVars false
variable [Env]
open Go.RowKit (Below)
set_option linter.unusedSimpArgs false
set_option linter.unusedVariables false

section
variable {P : Program} {base nt : Nat} {ops : Array Oper} {pl : List Pi} {chkd : Bool} {tm0 : Tr Value} {σ0 : Sg} {m0 : Mem} {w0 : World} {a0 : Go.Act}

/-- What stands behind a pass. -/
noncomputable def stageR (callF : FuncId → Hook) (self : List Pi → Nat → Tr Value → Mem → List Ck → Option Rs) (pend : List Pi) (done : Nat) (tm : Tr Value) (m : Mem) (chk : List Ck) : Option Rs :=
  lC pend (some (.normal (.mk tm m)))
    (fun p pend => piC p fun _ c i mask _ _ => copC c fun h dst g =>
      bC (bC (within mask done) (behind i pend) false)
        (fN (Nat.lor done (bit i)) fun done' => (keepC mask chk).b fun chk =>
          bC (wantedA tm g)
            (((h tm m).b (actA callF m)).b fun r =>
              Ro.rec (motive := fun _ => Option Rs) (fun v m' => (putA tm dst v).b fun tm' => self pend done' tm' m' chk) (fun v m' => some (.panic v m')) r)
            ((putA tm dst (.tuple ⟨[]⟩)).b fun tm' => self pend done' tm' m chk))
        none)

theorem drawsA_succ (callF : FuncId → Hook) (chkd : Bool) (f : Nat) (l : List Pi) (done : Nat) (tm : Tr Value) (m : Mem) (chk : List Ck) :
    drawsA callF chkd (f + 1) l done tm m chk = (dPass l done tm m chk).b fun d => dsC d fun pend done tm m chk => bC (bC chkd (still m chk) true) (stageR callF (drawsA callF chkd f) pend done tm m chk) none := rfl

theorem behind_some {i : Nat} : ∀ {l : List Pi}, behind i l = true → ∀ p ∈ l, (piMask p).testBit i = true := by
  intro l
  induction l with
  | nil => intro _ p hp; cases hp
  | cons q l ih =>
    intro h p hp
    obtain ⟨o, c, j, mask, k, g⟩ := q
    have h : bC (tb mask i) (behind i l) false = true := h
    rw [tb_eq] at h
    cases hb : mask.testBit i with
    | false => rw [hb] at h; cases h
    | true =>
      rw [hb] at h
      rcases List.mem_cons.1 hp with rfl | hp
      · exact hb
      · exact ih h p hp

def unl (n : Nat) (listed : Array Bool) : List Nat := (List.range n).filter fun q => !listed.getD q false

theorem getD_set (listed : Array Bool) {i : Nat} (hi : i < listed.size) (q : Nat) : (listed.setIfInBounds i true).getD q false = true ↔ (listed.getD q false = true ∨ q = i) := by
  simp only [Array.getD_eq_getD_getElem?, Array.getElem?_setIfInBounds]
  by_cases h : i = q
  · subst h; simp [hi]
  · rw [if_neg h]
    constructor
    · exact .inl
    · rintro (h1 | h1)
      · exact h1
      · exact absurd h1.symm h

theorem unl_set {n i : Nat} {listed : Array Bool} (hs : listed.size = n) (hi : i < n) (hf : listed.getD i false = false) : (unl n listed).length = (unl n (listed.setIfInBounds i true)).length + 1 := by
  have hnd : (unl n listed).Nodup := (List.nodup_range).filter _
  have hmem : i ∈ unl n listed := by simp [unl, hi]; simpa using hf
  have he : unl n (listed.setIfInBounds i true) = (unl n listed).erase i := by
    rw [List.Nodup.erase_eq_filter hnd]
    unfold unl
    rw [List.filter_filter]
    apply List.filter_congr
    intro q hq
    have := getD_set listed (by omega : i < listed.size) q
    by_cases hqi : q = i
    · subst hqi
      have h2 : (listed.setIfInBounds q true).getD q false = true := this.2 (.inr rfl)
      rw [h2]; simp
    · cases h1 : listed.getD q false with
      | true => rw [this.2 (.inl h1)]; simp
      | false =>
        have h2 : (listed.setIfInBounds i true).getD q false = false := by
          cases h3 : (listed.setIfInBounds i true).getD q false with
          | false => rfl
          | true => rcases this.1 h3 with h4 | h4; rw [h1] at h4; cases h4; exact absurd h4 hqi
        rw [h2]; simp [hqi]
  rw [he, List.length_erase_of_mem hmem]
  have : 0 < (unl n listed).length := List.length_pos_of_mem hmem
  omega

theorem getD_ft {listed : Array Bool} {q : Nat} (hq : q < listed.size) : listed.getD q true = listed.getD q false := by
  simp [Array.getD_eq_getD_getElem?, Array.getElem?_eq_getElem hq]

theorem stage_sim (F : Fit P) (HL : Pln P nt ops pl) (hany : anyMem pl = chkd) {callF : FuncId → Hook} (HCF : ∀ f, CallOk P base f (callF f)) {Q : Exit → Go.Act → World → Prop} {r : Rs} (hQ : RsQ P base nt σ0 m0 w0 a0 r Q) :
    ∀ (k : Nat) (f : Nat) (listed : Array Bool) (dl : List Nat) (val : Nat → Option Value) (tq : Nat → Tr Value) (bq : Nat → Option Nat) (pend : List Pi) (done : Nat) (tm : Tr Value) (m : Mem) (chk : List Ck) (σ : Sg) (a : Go.Act) (w : World),
    Inv P base nt ops pl chkd tm0 σ0 m0 w0 a0 (fun q => listed.getD q false = true) dl val tq bq pend done tm m chk σ a w → (chkd = true → still m chk = true) →
    stageR callF (drawsA callF chkd f) pend done tm m chk = some r → listed.size = ops.size → (unl ops.size listed).length = k → wpAny P .any ops Q k listed a w := by
  have hdone : ∀ (f : Nat) (listed : Array Bool) (dl : List Nat) (val : Nat → Option Value) (tq : Nat → Tr Value) (bq : Nat → Option Nat) (pend : List Pi) (done : Nat) (tm : Tr Value) (m : Mem) (chk : List Ck) (σ : Sg) (a : Go.Act) (w : World),
      Inv P base nt ops pl chkd tm0 σ0 m0 w0 a0 (fun q => listed.getD q false = true) dl val tq bq pend done tm m chk σ a w →
      stageR callF (drawsA callF chkd f) pend done tm m chk = some r → listed.size = ops.size → Region.ready .any ops listed = [] → Q .normal a w := by
    intro f listed dl val tq bq pend done tm m chk σ a w hI hr hsz hready
    have hrd : ∀ q o, ops[q]? = some o → (∀ s, (mOf pl q).testBit s = true → listed.getD s false = true) → listed.getD q false = true := by
      intro q o ho hm
      have hlt : q < ops.size := (Array.getElem?_eq_some_iff.1 ho).1
      cases hq : listed.getD q false with
      | true => rfl
      | false =>
        have : q ∈ Region.ready .any ops listed := mem_ready.2 ⟨by rw [getD_ft (by omega)]; exact hq, o, ho, fun e he hb => by
          obtain ⟨c, mask, g1, g2, g3⟩ := HL.of ho
          exact hm e.on (by rw [g3]; exact HL.direct _ _ _ _ _ _ _ g1 e he hb)⟩
        rw [hready] at this; cases this
    have hdl : ∀ l : List Nat, Ord pl l → (∀ q ∈ l, q ∈ dl) → ∀ q ∈ l, listed.getD q false = true := by
      intro l
      induction l with
      | nil => intro _ _ q hq; cases hq
      | cons q l ih =>
        intro ho hl s hs
        have hl' := ih ho.2 fun q hq => hl q (List.mem_cons_of_mem _ hq)
        rcases List.mem_cons.1 hs with rfl | hs
        · exact hrd s _ (Array.getElem?_eq_getElem (hI.A.lt s (hl s List.mem_cons_self))) fun r hr => hl' r (ho.1 r hr)
        · exact hl' s hs
    have hall := hdl dl hI.A.order fun q hq => hq
    cases pend with
    | cons p pend =>
      obtain ⟨o, c, i, mask, kk, g⟩ := p
      obtain ⟨h, dst, gg⟩ := c
      obtain ⟨hrow, hni⟩ := hI.A.pl1 _ List.mem_cons_self
      obtain ⟨hoi, _, _, _, _, hmk⟩ := HL.row (show pl[i]? = _ from hrow)
      obtain ⟨hcond, _⟩ := bC_some.1 (show bC (bC (within mask done) (behind i pend) false) (fN (Nat.lor done (bit i)) fun done' => (keepC mask chk).b fun chk =>
          bC (wantedA tm gg)
            (((h tm m).b (actA callF m)).b fun r =>
              Ro.rec (motive := fun _ => Option Rs) (fun v m' => (putA tm dst v).b fun tm' => drawsA callF chkd f pend done' tm' m' chk) (fun v m' => some (.panic v m')) r)
            ((putA tm dst (.tuple ⟨[]⟩)).b fun tm' => drawsA callF chkd f pend done' tm' m chk)) none = some r from hr)
      have hw : within mask done = true := by
        cases h1 : within mask done with
        | true => rfl
        | false => rw [h1] at hcond; cases hcond
      have := hrd i o hoi fun s hs => hall s ((hI.A.bit s).1 (within_bit hw s (by rw [← hmk]; exact hs)))
      exact absurd (hI.sub i this) hni
    | nil =>
      injection (show some (Rs.normal (.mk tm m)) = some r from hr) with hr
      subst hr
      refine hQ a w σ ⟨hI.size, fun t pt hpt => ?_⟩ hI.rel hI.ext hI.bel hI.dfr
      obtain ⟨h1, h2⟩ := hI.A.tmD t pt hpt
      obtain ⟨g1, g2⟩ := hI.tmC t pt hpt
      by_cases he : ∃ q, dOf ops q = some t
      · obtain ⟨q, hq⟩ := he
        obtain ⟨o, ho, hd⟩ := dOf_some hq
        have hlt : q < ops.size := (Array.getElem?_eq_some_iff.1 ho).1
        have hqd : q ∈ dl := by
          rcases hI.A.pl2 q hlt with h | ⟨p, hp, _⟩
          · exact h
          · cases hp
        obtain ⟨v, hv⟩ := (hI.A.dom q).1 hqd
        rw [h1 q v hq hv]
        exact g1 q v hq (hall q hqd) hv
      · rw [h2 fun q hq => absurd ⟨q, hq⟩ he]
        exact g2 fun q hq => absurd ⟨q, hq⟩ he
  intro k
  induction k with
  | zero =>
    intro f listed dl val tq bq pend done tm m chk σ a w hI hs hr hsz hk
    have hready : Region.ready .any ops listed = [] := by
      cases hh : Region.ready .any ops listed with
      | nil => rfl
      | cons i rest =>
        exfalso
        have hi : i ∈ Region.ready .any ops listed := by rw [hh]; exact List.mem_cons_self
        obtain ⟨h0, o, ho, _⟩ := mem_ready.1 hi
        have hlt : i < ops.size := (Array.getElem?_eq_some_iff.1 ho).1
        rw [getD_ft (by omega)] at h0
        have : i ∈ unl ops.size listed := by simp [unl, hlt]; simpa using h0
        rw [List.length_eq_zero_iff.1 hk] at this
        cases this
    exact ⟨hready, hdone f listed dl val tq bq pend done tm m chk σ a w hI hr hsz hready⟩
  | succ k ih =>
    intro f listed dl val tq bq pend done tm m chk σ a w hI hs hr hsz hk
    refine ⟨fun hready => hdone f listed dl val tq bq pend done tm m chk σ a w hI hr hsz hready, fun i hi => ?_⟩
    obtain ⟨h0, o, ho, hpre⟩ := mem_ready.1 hi
    have hlt : i < ops.size := (Array.getElem?_eq_some_iff.1 ho).1
    rw [getD_ft (by omega)] at h0
    have hCi : ¬ (listed.getD i false = true) := by rw [h0]; simp
    have hm := mask_in HL hI ho hpre
    have hC : ∀ q, (listed.setIfInBounds i true).getD q false = true ↔ (listed.getD q false = true ∨ q = i) := getD_set listed (by omega)
    have hsz' : (listed.setIfInBounds i true).size = ops.size := by simp [hsz]
    have hk' : (unl ops.size (listed.setIfInBounds i true)).length = k := by
      have := unl_set hsz hlt h0; omega
    by_cases hid : i ∈ dl
    · exact hI.late F HL hs ho hid hCi hm hC fun σ' a' w' hI' => ih f _ dl val tq bq pend done tm m chk σ' a' w' hI' hs hr hsz' hk'
    · obtain ⟨p, hp, hpi⟩ := (hI.A.pl2 i hlt).resolve_left hid
      cases pend with
      | nil => cases hp
      | cons p0 pend =>
        obtain ⟨o0, c0, i0, mask0, k0, g0⟩ := p0
        obtain ⟨h, dst, gg⟩ := c0
        obtain ⟨hrow, hni⟩ := hI.A.pl1 _ List.mem_cons_self
        replace hrow : pl[i0]? = some (Pi.mk o0 (.mk h dst gg) i0 mask0 k0 g0) := hrow
        obtain ⟨hoi0, _, _, _, _, hmk⟩ := HL.row hrow
        obtain ⟨hcond, hr⟩ := bC_some.1 (show bC (bC (within mask0 done) (behind i0 pend) false) (fN (Nat.lor done (bit i0)) fun done' => (keepC mask0 chk).b fun chk =>
          bC (wantedA tm gg)
            (((h tm m).b (actA callF m)).b fun r =>
              Ro.rec (motive := fun _ => Option Rs) (fun v m' => (putA tm dst v).b fun tm' => drawsA callF chkd f pend done' tm' m' chk) (fun v m' => some (.panic v m')) r)
            ((putA tm dst (.tuple ⟨[]⟩)).b fun tm' => drawsA callF chkd f pend done' tm' m chk)) none = some r from hr)
        have hcond : within mask0 done = true ∧ behind i0 pend = true := by
          cases h1 : within mask0 done with
          | true => rw [h1] at hcond; exact ⟨rfl, hcond⟩
          | false => rw [h1] at hcond; cases hcond
        have hii : i = i0 := by
          rcases List.mem_cons.1 hp with rfl | hp'
          · exact hpi.symm
          · exfalso
            have h1 := behind_some hcond.2 p hp'
            obtain ⟨o1, c1, i1, mask1, k1, g1⟩ := p
            obtain ⟨hrow1, _⟩ := hI.A.pl1 _ (List.mem_cons_of_mem _ hp')
            obtain ⟨_, _, _, _, _, hmk1⟩ := HL.row (show pl[i1]? = _ from hrow1)
            have : i1 = i := hpi
            subst this
            have h2 := hm i0 (by rw [hmk1]; exact h1)
            exact hni (hI.sub i0 h2)
        subst hii
        rw [hoi0] at ho; injection ho with ho; subst ho
        rw [fN_eq] at hr
        obtain ⟨chk', hkeep, hr⟩ := b_some.1 hr
        refine hI.act F HL hany HCF (within_bit hcond.1) hm hC hkeep hr hQ ?_
        intro dl' val' tq' bq' tm' m' σ' a' w' hI' hself
        cases f with
        | zero => cases hself
        | succ f =>
          rw [drawsA_succ] at hself
          obtain ⟨d, hd, hself⟩ := b_some.1 hself
          obtain ⟨pend2, done2, tm2, m2, chk2, dl2, val2, tq2, bq2, rfl, hI2⟩ := Inv.pass HL hany pend [] _ tm' m' chk' d dl' val' tq' bq' hI' hd
          obtain ⟨hst, hself⟩ := bC_some.1 (show bC (bC chkd (still m2 chk2) true) (stageR callF (drawsA callF chkd f) pend2 done2 tm2 m2 chk2) none = some r from hself)
          exact ih f _ dl2 val2 tq2 bq2 pend2 done2 tm2 m2 chk2 σ' a' w' hI2 (fun hct => by rw [hct] at hst; exact hst) hself hsz' hk'

/-- A region whose order is open. -/
theorem draw_sim (F : Fit P) (HL : Pln P nt ops pl) (hany : anyMem pl = chkd) {callF : FuncId → Hook} (HCF : ∀ f, CallOk P base f (callF f)) {Q : Exit → Go.Act → World → Prop} {r : Rs} {tm : Tr Value} {m : Mem} {σ : Sg} {a : Go.Act} {w : World} {id f : Nat}
    (hr : drawsA callF chkd f pl 0 tm m [] = some r) (ht : TRel σ nt tm a) (rel : Rel P base σ m w) (hQ : RsQ P base nt σ m w a r Q) : (Code.region id ops true).wp P Q a w := by
  refine wp_region_any F.mixed ?_
  have rel' : Rel P base σ m { w with drawn := w.drawn + 1 } := ⟨rel.cells, rel.map, rel.iter, rel.inj, rel.fresh, rel.base, rel.own⟩
  have bel' : Below base w { w with drawn := w.drawn + 1 } := ⟨rfl, rfl, rfl, Nat.le_refl _, fun _ _ => rfl⟩
  cases f with
  | zero => cases hr
  | succ f =>
    rw [drawsA_succ] at hr
    obtain ⟨d, hd, hr⟩ := b_some.1 hr
    have hpi : ∀ j (p : Pi), pl[j]? = some p → piIx p = j := by
      intro j p hp
      obtain ⟨o, c, i, mask, k, g⟩ := p
      exact (HL.row hp).2.1
    have hrep : ∀ q, (Array.replicate ops.size false).getD q false = false := by
      intro q
      rw [Array.getD_eq_getD_getElem?, Array.getElem?_replicate]
      split <;> rfl
    have hI : Inv P base nt ops pl chkd tm σ m { w with drawn := w.drawn + 1 } a (fun q => (Array.replicate ops.size false).getD q false = true) [] (fun _ => none) (fun _ => tm) (fun _ => none) ([] ++ pl) 0 tm m [] σ a { w with drawn := w.drawn + 1 } := by
      have hno : ∀ q, ¬ ((Array.replicate ops.size false).getD q false = true) := by
        intro q h
        rw [hrep q] at h; cases h
      refine ⟨⟨(fun q => by simp), (fun q => by simp), (fun q hq => by cases hq), trivial, (fun t pt hpt => ⟨(fun r v _ hv => by cases hv), fun _ => rfl⟩), (fun q hq => by cases hq), ?_, ?_, ?_⟩, fun q v hv => (by cases hv), fun q b hb => (by cases hb), fun q q' b hb => (by cases hb), rel', Ext.refl σ m, Below.refl base _, fun q hq => absurd hq (hno q), fun q hq => absurd hq (hno q), fun t pt hpt => ⟨fun r v _ hC => absurd hC (hno r), fun _ => ht.2 t pt hpt⟩, fun q b hb => (by cases hb), ht.1, rfl⟩
      · intro p hp
        obtain ⟨j, hj⟩ := List.mem_iff_getElem?.1 (by simpa using hp)
        rw [hpi j p hj]
        exact ⟨hj, by simp⟩
      · intro j hj
        refine .inr ?_
        obtain ⟨c, mask, h1, _⟩ := HL.get j ops[j] (Array.getElem?_eq_getElem hj)
        exact ⟨_, by simpa using List.mem_of_getElem? h1, rfl⟩
      · show (List.map piIx ([] ++ pl)).Nodup
        rw [List.nil_append]
        have : pl.map piIx = List.range pl.length := by
          apply List.ext_getElem?
          intro j
          rw [List.getElem?_map]
          by_cases hj : j < pl.length
          · rw [List.getElem?_eq_getElem hj, List.getElem?_range hj]
            exact congrArg some (hpi j _ (List.getElem?_eq_getElem hj))
          · rw [List.getElem?_eq_none (by omega), List.getElem?_eq_none (by simp; omega)]; rfl
        rw [this]; exact List.nodup_range
    obtain ⟨pend2, done2, tm2, m2, chk2, dl2, val2, tq2, bq2, rfl, hI2⟩ := Inv.pass HL hany pl [] 0 tm m [] d _ _ _ _ hI hd
    obtain ⟨hst, hr⟩ := bC_some.1 (show bC (bC chkd (still m2 chk2) true) (stageR callF (drawsA callF chkd f) pend2 done2 tm2 m2 chk2) none = some r from hr)
    refine stage_sim F HL hany HCF (hQ.step (Ext.refl σ m) bel' rfl) ops.size f _ dl2 val2 tq2 bq2 pend2 done2 tm2 m2 chk2 σ a _ hI2 (fun hct => by rw [hct] at hst; exact hst) hr (by simp) ?_
    have : unl ops.size (Array.replicate ops.size false) = List.range ops.size := by
      unfold unl
      rw [List.filter_eq_self]
      intro q hq
      rw [hrep q]; rfl
    rw [this, List.length_range]

end
end Go.Am
namespace Go.Am
set_option linter.unusedSectionVars false
variable [Env]
open Go.RowKit (Below)
set_option linter.unusedSimpArgs false
set_option linter.unusedVariables false

section
variable {P : Program} {base nt : Nat} {σ : Sg} {m : Mem} {w : World} {tm : Tr Value} {a : Go.Act}

/-- A loop, from its body on. -/
def LoopW (P : Program) (b : Code) (Q : Exit → Go.Act → World → Prop) (a : Go.Act) (w : World) : Prop :=
  ∀ (fr : Frame) (k : List Item) (cs : List Frame), ∃ e a' w', Q e a' w' ∧ Arrives P (lone (fr.at a (.code b :: .inLoop b :: k)) cs w) fr k cs e a' w'

theorem LoopW.wp {b : Code} {Q : Exit → Go.Act → World → Prop} (h : LoopW P b Q a w) : (Code.loop b).wp P Q a w :=
  fun fr k cs => let ⟨e, a', w', q, r⟩ := h fr k cs; ⟨e, a', w', q, .of_steps (.one step_loop) r⟩

theorem LoopW.unfold {b : Code} {Q : Exit → Go.Act → World → Prop} (h : b.wp P (Exit.then (LoopW P b Q) Q) a w) : LoopW P b Q a w := by
  intro fr k cs
  obtain ⟨e, a₁, w₁, hq, harr⟩ := h fr (.inLoop b :: k) cs
  cases e with
  | normal =>
    obtain ⟨e₂, a₂, w₂, hq₂, harr₂⟩ := hq fr k cs
    exact ⟨e₂, a₂, w₂, hq₂, .of_steps (Steps.trans harr (.one step_inLoop)) harr₂⟩
  | exit id => exact ⟨_, a₁, w₁, hq, .pass (x := .inLoop b) rfl (fun _ _ => .inl (by simp)) harr⟩
  | goto l => exact ⟨_, a₁, w₁, hq, .pass (x := .inLoop b) rfl (fun _ _ => .inl (by simp)) harr⟩
  | ret => exact ⟨_, a₁, w₁, hq, .pass (x := .inLoop b) rfl (fun _ _ => .inl (by simp)) harr⟩
  | panic ch => exact ⟨_, a₁, w₁, hq, .pass (x := .inLoop b) rfl (fun _ _ => .inl (by simp)) harr⟩
  | outgrown => exact ⟨_, a₁, w₁, hq, .pass (x := .inLoop b) rfl (fun _ _ => .inl (by simp)) harr⟩

theorem RsQ.seq {r1 r : Rs} {self : Exec} {b : Code} {Q : Exit → Go.Act → World → Prop} {N : Go.Act → World → Prop} (hr : seqK self b r1 = some r) (hQ : RsQ P base nt σ m w a r Q)
    (hN : ∀ tm' m', self b (.mk tm' m') = some r → ∀ a' w' σ', TRel σ' nt tm' a' → Rel P base σ' m' w' → RsQ P base nt σ' m' w' a' r Q → N a' w') : RsQ P base nt σ m w a r1 (Exit.then N Q) := by
  cases r1 with
  | normal st =>
    obtain ⟨tm', m'⟩ := st
    intro a' w' σ' h1 h2 h3 h4 h5
    exact hN tm' m' hr a' w' σ' h1 h2 (hQ.step h3 h4 h5)
  | exit id st => injection (show some (Rs.exit id st) = some r from hr) with hr; subst hr; exact hQ
  | ret st => injection (show some (Rs.ret st) = some r from hr) with hr; subst hr; exact hQ
  | panic v m' => injection (show some (Rs.panic v m') = some r from hr) with hr; subst hr; exact hQ

theorem eval_bool (ht : TRel σ nt tm a) {x : Operand} {c : Oc} (hc : cO x = some c) {v : Value} (hv : c.ev tm = some v) {t : Bool} (hb : vBool v = some t) : a.eval x = .bool t := by
  have hyp : OpHyp σ tm a.eval { dst := none, op := .move x, type := 0, pos := "", after := #[], guard := none } := NamesOk.hyp (ops := #[]) (ht.names _)
  have := hyp x (by simp [Op.operands]) c v hc hv
  rw [vBool_some hb] at this
  exact this.bool_inv

theorem exec_sim (F : Fit P) {callF : FuncId → Hook} (HCF : ∀ f, CallOk P base f (callF f)) : ∀ (n : Nat) (c : Code) (tm : Tr Value) (m : Mem) (r : Rs), execA P callF nt n c (.mk tm m) = some r →
    ∀ (σ : Sg) (a : Go.Act) (w : World) (Q : Exit → Go.Act → World → Prop), TRel σ nt tm a → Rel P base σ m w → RsQ P base nt σ m w a r Q → c.wp P Q a w ∧ ∀ b, c = .loop b → LoopW P b Q a w := by
  intro n
  induction n with
  | zero => intro c tm m r h; cases h
  | succ n ih =>
    intro c tm m r h σ a w Q ht rel hQ
    obtain ⟨x, hx, h⟩ := b_some.1 (show ((exC P nt c).b fun x => x callF (execA P callF nt n) (.mk tm m)) = some r from h)
    cases c with
    | skip =>
      injection (show some xNormal = some x from hx) with hx; subst hx
      injection (show some (Rs.normal (.mk tm m)) = some r from h) with h; subst h
      exact ⟨wp_skip (hQ a w σ ht rel (Ext.refl σ m) (Below.refl base w) rfl), fun b hb => by cases hb⟩
    | label l =>
      injection (show some xNormal = some x from hx) with hx; subst hx
      injection (show some (Rs.normal (.mk tm m)) = some r from h) with h; subst h
      exact ⟨wp_label (hQ a w σ ht rel (Ext.refl σ m) (Below.refl base w) rfl), fun b hb => by cases hb⟩
    | region id ops draw =>
      refine ⟨?_, fun b hb => by cases hb⟩
      cases draw with
      | true =>
        obtain ⟨l, ck, hp, hx⟩ := b2_some.1 (show (b2 (planOf P nt ops.toList) fun l a => some (xDraw l a)) = some x from hx)
        injection hx with hx; subst hx
        obtain ⟨HL, hany⟩ := planOf_pln hp
        exact draw_sim F HL hany HCF (show drawsA callF ck 100 l 0 tm m [] = some r from h) ht rel hQ
      | false =>
        obtain ⟨l, hl, hx⟩ := b_some.1 (show ((cOps P nt ops.toList ops.toList).b fun l => some (xOps l)) = some x from hx)
        injection hx with hx; subst hx
        have := ops_sim F HCF (ops := ops) (Q := Q) ops.toList l 0 rfl hl tm m r h σ a w ht rel hQ
        refine wp_region ?_
        rw [List.range_eq_range']
        simpa using this
    | seq c d =>
      refine ⟨?_, fun b hb => by cases hb⟩
      injection (show some (xSeq c d) = some x from hx) with hx; subst hx
      obtain ⟨r1, hr1, h⟩ := b_some.1 (show ((execA P callF nt n c (.mk tm m)).b (seqK (execA P callF nt n) d)) = some r from h)
      refine wp_seq ((ih c tm m r1 hr1 σ a w _ ht rel (hQ.seq h ?_)).1)
      exact fun tm' m' hs a' w' σ' h1 h2 h3 => (ih d tm' m' r hs σ' a' w' Q h1 h2 h3).1
    | cond y c d =>
      refine ⟨?_, fun b hb => by cases hb⟩
      obtain ⟨oc, hoc, hx⟩ := b_some.1 (show ((cO y).b fun y => some (xCond y c d)) = some x from hx)
      injection hx with hx; subst hx
      obtain ⟨v, hv, h⟩ := b_some.1 (show ((oc.ev tm).b fun v => (vBool v).b fun t => bC t (execA P callF nt n c (.mk tm m)) (execA P callF nt n d (.mk tm m))) = some r from h)
      obtain ⟨t, hb, h⟩ := b_some.1 h
      have he := eval_bool ht hoc hv hb
      cases t with
      | true => exact wp_cond_true he (ih c tm m r h σ a w Q ht rel hQ).1
      | false => exact wp_cond_false he (ih d tm m r h σ a w Q ht rel hQ).1
    | block id c =>
      refine ⟨?_, fun b hb => by cases hb⟩
      injection (show some (xBlock id c) = some x from hx) with hx; subst hx
      obtain ⟨r1, hr1, h⟩ := b_some.1 (show ((execA P callF nt n c (.mk tm m)).b (blockK id)) = some r from h)
      refine wp_block ((ih c tm m r1 hr1 σ a w _ ht rel ?_).1)
      cases r1 with
      | normal st => injection (show some (Rs.normal st) = some r from h) with h; subst h; exact hQ
      | ret st => injection (show some (Rs.ret st) = some r from h) with h; subst h; exact hQ
      | panic v m' => injection (show some (Rs.panic v m') = some r from h) with h; subst h; exact hQ
      | exit i st =>
        obtain ⟨tm', m'⟩ := st
        replace h : bC (Nat.beq i id) (some (Rs.normal (.mk tm' m'))) (some (Rs.exit i (.mk tm' m'))) = some r := h
        intro a' w' σ' h1 h2 h3 h4 h5
        show (if i = id then Q .normal a' w' else Q (.exit i) a' w')
        cases hb : Nat.beq i id with
        | true =>
          rw [hb] at h
          injection (show some (Rs.normal (.mk tm' m')) = some r from h) with h; subst h
          rw [if_pos ((nbeq _ _).1 hb)]
          exact hQ a' w' σ' h1 h2 h3 h4 h5
        | false =>
          rw [hb] at h
          injection (show some (Rs.exit i (.mk tm' m')) = some r from h) with h; subst h
          rw [if_neg ((nbeqf _ _).1 hb)]
          exact hQ a' w' σ' h1 h2 h3 h4 h5
    | loop b =>
      injection (show some (xLoop b) = some x from hx) with hx; subst hx
      obtain ⟨r1, hr1, h⟩ := b_some.1 (show ((execA P callF nt n b (.mk tm m)).b (seqK (execA P callF nt n) (.loop b))) = some r from h)
      have : LoopW P b Q a w := by
        refine LoopW.unfold ((ih b tm m r1 hr1 σ a w _ ht rel (hQ.seq h ?_)).1)
        exact fun tm' m' hs a' w' σ' h1 h2 h3 => (ih (.loop b) tm' m' r hs σ' a' w' Q h1 h2 h3).2 b rfl
      exact ⟨this.wp, fun b' hb => by injection hb with hb; subst hb; exact this⟩
    | exit id =>
      injection (show some (xExit id) = some x from hx) with hx; subst hx
      injection (show some (Rs.exit id (.mk tm m)) = some r from h) with h; subst h
      exact ⟨wp_exit (hQ a w σ ht rel (Ext.refl σ m) (Below.refl base w) rfl), fun b hb => by cases hb⟩
    | ret =>
      injection (show some xRet = some x from hx) with hx; subst hx
      injection (show some (Rs.ret (.mk tm m)) = some r from h) with h; subst h
      exact ⟨wp_ret (hQ a w σ ht rel (Ext.refl σ m) (Below.refl base w) rfl), fun b hb => by cases hb⟩
    | _ => cases hx

/-! Bodies. -/
theorem argsT_get : ∀ (l : List Value) (i : Nat) (t t' : Tr Value), argsT l i t = some t' → ∀ n, t'.get n = if i ≤ n ∧ n < i + l.length then l[n - i]? else t.get n := by
  intro l
  induction l with
  | nil =>
    intro i t t' h n
    injection (show some t = some t' from h) with h; subst h
    rw [if_neg (by simp)]
  | cons v l ih =>
    intro i t t' h n
    obtain ⟨t1, h1, h⟩ := b_some.1 (show ((t.set i (some v)).b fun t => argsT l (Nat.succ i) t) = some t' from h)
    rw [ih _ _ _ h n, Tr.set_get h1 n]
    by_cases e : n = i
    · subst e
      rw [if_neg (by omega), if_pos rfl, if_pos (by simp)]; simp
    · by_cases h2 : i ≤ n ∧ n < i + (v :: l).length
      · rw [if_pos (by simp at h2; omega), if_pos h2]
        obtain ⟨k, hk⟩ : ∃ k, n = i + (k + 1) := ⟨n - i - 1, by omega⟩
        subst hk
        rw [show i + (k + 1) - i.succ = k from by omega, show i + (k + 1) - i = k + 1 from by omega]; rfl
      · rw [if_neg (by simp at h2; omega), if_neg h2, if_neg e]

theorem trel_start {args args' : List Value} (h : LRel σ args args') (hle : args.length ≤ nt) {tm : Tr Value} (ht : argsT args 0 .lf = some tm) :
    TRel σ nt tm { tmps := (⟨args'⟩ : Array Value) ++ Array.replicate (nt - (⟨args'⟩ : Array Value).size) undef, defers := [] } := by
  have hl : args'.length = args.length := h.1.symm
  refine ⟨by simp [hl]; omega, fun t p hp => ?_⟩
  have hg := argsT_get args 0 .lf tm ht t
  have : tm.get t = tm.getP p := by unfold Tr.get; rw [hp]; first | done | rfl
  rw [this] at hg
  rw [hg, Tr.get_lf]
  show TV σ _ (((⟨args'⟩ : Array Value) ++ Array.replicate (nt - (⟨args'⟩ : Array Value).size) undef).getD t undef)
  rw [Array.getD_eq_getD_getElem?]
  by_cases ht : t < args.length
  · rw [if_pos (by omega), Nat.sub_zero, List.getElem?_eq_getElem ht, Array.getElem?_append_left (by simp; omega)]
    show VRel σ args[t] _
    have : (⟨args'⟩ : Array Value)[t]? = some args'[t] := by simp
    rw [this]
    exact h.2 t _ _ (List.getElem?_eq_getElem ht) (List.getElem?_eq_getElem (by omega))
  · rw [if_neg (by omega), Array.getElem?_append_right (by simp; omega)]
    show _ = undef
    rw [Array.getElem?_replicate]
    split <;> rfl

theorem run_loadV (h : Rel P base σ m w) {t : TypeId} {b k : Nat} {v : Value} (hv : loadV P t b k m = some v) {p : Pl} (hp : σ b = some p) : ∃ v', (loadVar t ⟨p.blk, p.sh + k, none⟩).run P w = .ok v' w ∧ VRel σ v v' := by
  unfold loadV at hv
  obtain ⟨g, hg, hv⟩ := b_some.1 hv
  obtain ⟨n, hn, hv⟩ := b_some.1 hv
  cases g with
  | true =>
    obtain ⟨l, hl, hv⟩ := b_some.1 (show ((m.loadCells b k n).b fun l => some (Value.agg ⟨l⟩)) = some v from hv)
    injection hv with hv; subst hv
    obtain ⟨l', hr, hl', hln⟩ := h.load hl hp
    refine ⟨.agg ⟨l'⟩, ?_, hl'.agg⟩
    unfold loadVar
    rw [Sem.run_bind, run_isAgg hg, Result.andThen_ok, if_pos rfl, Sem.run_bind, run_size hn, Result.andThen_ok, Sem.run_bind, hr]
    rfl
  | false =>
    obtain ⟨l, hl, h1⟩ := b_some.1 (show ((m.loadCells b k 1).b oneL) = some v from hv)
    have := (oneL_eq _ _).1 h1; subst this
    obtain ⟨rw', e, vs, hgb, hlen, hvs⟩ := loadCells_some hl
    obtain ⟨_, _, _, _, arr, fz, h4, _, _, h7⟩ := h.cells b rw' e vs hgb p hp
    have hk : vs[k]? = some v := by
      have h0 := congrArg (fun l : List Value => l[0]?) hvs
      simp only [List.getElem?_take, List.getElem?_drop] at h0
      simpa using h0.symm
    obtain ⟨v', hv', hr⟩ := h7 k v hk
    refine ⟨v', ?_, hr⟩
    unfold loadVar
    rw [Sem.run_bind, run_isAgg hg, Result.andThen_ok]
    show Sem.run P (Go.load _) w = _
    simp only [Go.load, Sem.run, cell_of h4, hv']

theorem packA_rel {l l' : List Value} (h : LRel σ l l') {v : Value} (hv : packA l = some v) : VRel σ v (if h : (⟨l'⟩ : Array Value).size = 1 then (⟨l'⟩ : Array Value)[0] else .tuple ⟨l'⟩) := by
  cases l with
  | nil =>
    injection (show some (Value.tuple ⟨[]⟩) = some v from hv) with hv; subst hv
    rw [h.nil_inv, dif_neg (by simp)]
    exact LRel.tuple .nil
  | cons x l =>
    obtain ⟨x', r', rfl, hx, hr⟩ := h.head
    have hv : bC (isNil l) (some x) (some (.tuple ⟨x :: l⟩)) = some v := hv
    cases l with
    | nil =>
      injection (show some x = some v from hv) with hv; subst hv
      rw [hr.nil_inv, dif_pos (by simp)]
      exact hx
    | cons y l =>
      injection (show some (Value.tuple ⟨x :: y :: l⟩) = some v from hv) with hv; subst hv
      obtain ⟨y', r2, rfl, hy, hr2⟩ := hr.head
      rw [dif_neg (by simp)]
      exact LRel.tuple h

theorem out_sim (ht : TRel σ nt tm a) (rel : Rel P base σ m w) {fn : Func} {r : Ro} (hr : outA P fn.results.toList (.mk tm m) = some r) : ∃ v v', r = .ret v m ∧ VRel σ v v' ∧ (results fn a.tmps).run P w = .ok v' w := by
  obtain ⟨l, hl, hr⟩ := b_some.1 (show ((resA P fn.results.toList tm m).b fun l => (packA l).b fun v => some (Ro.ret v m)) = some r from hr)
  obtain ⟨v, hv, hr⟩ := b_some.1 hr
  injection hr with hr
  have key : ∀ (rs : List ResultVar) (l : List Value), resA P rs tm m = some l → ∃ l', (rs.mapM (fun (x : ResultVar) => match x with
      | .tmp t => pure (a.tmps.getD t undef)
      | .cell c t => do loadVar t (← asAddr (a.tmps.getD c undef)) : ResultVar → Sem Value)).run P w = .ok l' w ∧ LRel σ l l' := by
    intro rs
    induction rs with
    | nil =>
      intro l hl
      injection (show some ([] : List Value) = some l from hl) with hl; subst hl
      exact ⟨[], rfl, .nil⟩
    | cons x rs ih =>
      intro l hl
      obtain ⟨f, hf, hl⟩ := b_some.1 (show ((resOne P x).b fun f => (f tm m).b fun v => (resA P rs tm m).b fun l => some (v :: l)) = some l from hl)
      obtain ⟨v, hv, hl⟩ := b_some.1 hl
      obtain ⟨l0, hl0, hl⟩ := b_some.1 hl
      injection hl with hl; subst hl
      obtain ⟨l', h1, h2⟩ := ih l0 hl0
      cases x with
      | tmp t =>
        obtain ⟨p, hp, hf⟩ := b_some.1 (show ((path t).b fun p => some fun tm (_ : Mem) => Tr.getP p tm) = some f from hf)
        injection hf with hf; subst hf
        have hv := ht.2 t p hp
        rw [show tm.getP p = some v from ‹_›] at hv
        refine ⟨a.tmps.getD t undef :: l', ?_, .cons hv h2⟩
        rw [List.mapM_cons]
        simp only [Sem.run_bind, Sem.run_pure, Result.andThen_ok, h1]
      | cell c t =>
        obtain ⟨p, hp, hf⟩ := b_some.1 (show ((path c).b fun p => some fun tm m => (Tr.getP p tm).b fun v => b2 (vAt v) fun b o => loadV P t b o m) = some f from hf)
        injection hf with hf; subst hf
        obtain ⟨u, hu, hv⟩ := b_some.1 (show ((Tr.getP p tm).b fun v => b2 (vAt v) fun b o => loadV P t b o m) = some v from hv)
        obtain ⟨b, k, hbk, hv⟩ := b2_some.1 hv
        obtain ⟨s, rfl⟩ := vAt_some hbk
        have hc := ht.2 c p hp
        rw [hu] at hc
        obtain ⟨pl, hpl, he⟩ := (show VRel σ _ _ from hc).ptr_inv
        obtain ⟨v', hv', hvr⟩ := run_loadV rel hv hpl
        refine ⟨v' :: l', ?_, .cons hvr h2⟩
        rw [List.mapM_cons]
        have : (asAddr (a.tmps.getD c undef)).run P w = .ok ⟨pl.blk, pl.sh + k, none⟩ w := by rw [he]; rfl
        simp only [Sem.run_bind, this, Sem.run_pure, Result.andThen_ok, h1, hv']
  obtain ⟨l', h1, h2⟩ := key _ _ hl
  refine ⟨v, _, hr.symm, packA_rel h2 hv, ?_⟩
  unfold results
  rw [Sem.run_bind, Array.mapM_eq_mapM_toList, map_eq_pure_bind, Sem.run_bind]
  erw [h1]
  rfl

theorem body_sim (F : Fit P) {f : FuncId} {fn : Func} (hf : P.funcs[f]? = some fn) {callF : FuncId → Hook} (HCF : ∀ f, CallOk P base f (callF f)) {fuel : Nat} {args : List Value} {m : Mem} {r : Ro} (hr : bodyA P fn callF fuel args m = some r)
    {args' : List Value} (rel : Rel P base σ m w) (ha : LRel σ args args') : fn.body.isSome = true ∧ Calls P f ⟨args'⟩ w (CallR P base σ m w r) := by
  obtain ⟨c, hc, hr⟩ := b_some.1 hr
  obtain ⟨hle, hr⟩ := bC_some.1 hr
  obtain ⟨tm, ht, hr⟩ := b_some.1 hr
  rw [fN_eq] at hr
  obtain ⟨r1, hr1, hr⟩ := b_some.1 hr
  refine ⟨by rw [hc]; rfl, calls_of_wp hf hc ?_⟩
  refine (exec_sim F HCF fuel c tm m r1 hr1 σ _ w _ (trel_start ha ((nble _ _).1 hle) ht) rel ?_).1
  cases r1 with
  | normal st =>
    obtain ⟨tm', m'⟩ := st
    intro a' w' σ' h1 h2 h3 h4 h5
    obtain ⟨v, v', rfl, hv, hres⟩ := out_sim (fn := fn) h1 h2 hr
    exact ⟨h5, v', hres, σ', h3, h4, h2, v', rfl, hv⟩
  | ret st =>
    obtain ⟨tm', m'⟩ := st
    intro a' w' σ' h1 h2 h3 h4 h5
    obtain ⟨v, v', rfl, hv, hres⟩ := out_sim (fn := fn) h1 h2 hr
    exact ⟨h5, v', hres, σ', h3, h4, h2, v', rfl, hv⟩
  | panic v m' =>
    injection (show some (Ro.panic v m') = some r from hr) with hr; subst hr
    intro a' w' σ' v' h1 h2 h3 h4 h5
    exact ⟨h5, σ', h3, h4, h2, v', rfl, h1⟩
  | exit id st => cases hr

/-- What is asked of a program's functions. -/
def NoNum (P : Program) : Prop := ∀ (f : Nat) (fn : Func), P.funcs[f]? = some fn → (fn.name == "runtime.NumGoroutine") = false

theorem call_sim (F : Fit P) (hN : NoNum P) {hooks : Tr Hook} (HH : ∀ f h, hooks.get f = some h → CallOk P base f h) (fuel : Nat) : ∀ (n : Nat) (f : FuncId), CallOk P base f (callA P (treeOr P.funcs.toList) hooks fuel n f) := by
  intro n
  induction n with
  | zero => intro f args m r h; cases h
  | succ n ih =>
    intro f args m r h σ w args' rel ha
    have h : (oC (hooks.get f) (((treeOr P.funcs.toList).get f).b fun fn => bodyA P fn (callA P (treeOr P.funcs.toList) hooks fuel n) fuel args m) (fun h => h args m)) = some r := h
    cases hh : hooks.get f with
    | some hk => rw [hh] at h; exact HH f hk hh args m r h σ w args' rel ha
    | none =>
      rw [hh] at h
      obtain ⟨fn, hfn, h⟩ := b_some.1 (show (((treeOr P.funcs.toList).get f).b fun fn => bodyA P fn (callA P (treeOr P.funcs.toList) hooks fuel n) fuel args m) = some r from h)
      have hf : P.funcs[f]? = some fn := by simpa using treeOr_get _ hfn
      obtain ⟨hb, hc⟩ := body_sim F hf ih h rel ha
      exact ⟨⟨fn, hf, hb, hN f fn hf⟩, hc⟩

end
end Go.Am
namespace Go.Am
set_option linter.unusedSectionVars false
variable [Env]
open Go.RowKit (Below)
set_option linter.unusedSimpArgs false
set_option linter.unusedVariables false

/-! Heaps, compared. -/
noncomputable def eqEnt (x y : MapEntry) : Bool := bC (eqV (keyE x) (keyE y)) (bC (eqV (valE x) (valE y)) (Nat.beq (bornE x) (bornE y)) false) false
noncomputable def eqList {α : Type} (f : α → α → Bool) (xs : List α) : List α → Bool :=
  List.rec (motive := fun _ => List α → Bool) (fun ys => isNil ys) (fun x _ ih ys => List.rec (motive := fun _ => Bool) false (fun y ys _ => bC (f x y) (ih ys) false) ys) xs
noncomputable def eqBlk (x y : Blk) : Bool :=
  Blk.rec (motive := fun _ => Bool)
    (fun a e vs => Blk.rec (motive := fun _ => Bool) (fun b f ws => bC (eqB a b) (bC (Nat.beq e f) (eqList eqCellV vs ws) false) false) (fun _ _ => false) (fun _ _ _ _ => false) y)
    (fun es c => Blk.rec (motive := fun _ => Bool) (fun _ _ _ => false) (fun fs d => bC (Nat.beq c d) (eqList eqEnt es fs) false) (fun _ _ _ _ => false) y)
    (fun a b c d => Blk.rec (motive := fun _ => Bool) (fun _ _ _ => false) (fun _ _ => false) (fun a' b' c' d' => bC (eqON a a') (bC (Nat.beq b b') (bC (eqList Nat.beq c c') (Nat.beq d d') false) false) false) y) x

theorem bC_tt {b x : Bool} (h : bC b x false = true) : b = true ∧ x = true := by cases b <;> cases x <;> first | exact ⟨rfl, rfl⟩ | cases h
theorem eqList_eq {α : Type} {f : α → α → Bool} (hf : ∀ x y, f x y = true → x = y) : ∀ (xs ys : List α), eqList f xs ys = true → xs = ys := by
  intro xs
  induction xs with
  | nil => intro ys h; exact ((isNil_eq _).1 (show isNil ys = true from h)).symm
  | cons x xs ih =>
    intro ys h
    cases ys with
    | nil => cases h
    | cons y ys =>
      obtain ⟨h1, h2⟩ := bC_tt (show bC (f x y) (eqList f xs ys) false = true from h)
      rw [hf x y h1, ih ys h2]
theorem eqEnt_eq {x y : MapEntry} (h : eqEnt x y = true) : x = y := by
  obtain ⟨k, v, b⟩ := x
  obtain ⟨k', v', b'⟩ := y
  obtain ⟨h1, h⟩ := bC_tt (show bC (eqV k k') (bC (eqV v v') (Nat.beq b b') false) false = true from h)
  obtain ⟨h2, h3⟩ := bC_tt h
  rw [eqV_eq h1, eqV_eq h2, (nbeq _ _).1 h3]
theorem eqON_eq {a b : Option Nat} (h : eqON a b = true) : a = b := by
  unfold eqON at h
  cases a with
  | none =>
    cases b with
    | none => rfl
    | some b => cases h
  | some a =>
    cases b with
    | none => cases h
    | some b => rw [(nbeq _ _).1 (show Nat.beq a b = true from h)]
theorem eqBlk_eq {x y : Blk} (h : eqBlk x y = true) : x = y := by
  cases x with
  | cells a e vs =>
    cases y with
    | cells b f ws =>
      obtain ⟨h1, h⟩ := bC_tt (show bC (eqB a b) (bC (Nat.beq e f) (eqList eqCellV vs ws) false) false = true from h)
      obtain ⟨h2, h3⟩ := bC_tt h
      rw [(eqB_eq _ _).1 h1, (nbeq _ _).1 h2, eqList_eq (fun _ _ => eqCellV_eq) _ _ h3]
    | _ => cases h
  | map es c =>
    cases y with
    | map fs d =>
      obtain ⟨h1, h2⟩ := bC_tt (show bC (Nat.beq c d) (eqList eqEnt es fs) false = true from h)
      rw [(nbeq _ _).1 h1, eqList_eq (fun _ _ => eqEnt_eq) _ _ h2]
    | _ => cases h
  | iter a b c d =>
    cases y with
    | iter a' b' c' d' =>
      obtain ⟨h1, h⟩ := bC_tt (show bC (eqON a a') (bC (Nat.beq b b') (bC (eqList Nat.beq c c') (Nat.beq d d') false) false) false = true from h)
      obtain ⟨h2, h⟩ := bC_tt h
      obtain ⟨h3, h4⟩ := bC_tt h
      rw [eqON_eq h1, (nbeq _ _).1 h2, eqList_eq (fun _ _ => (nbeq _ _).1) _ _ h3, (nbeq _ _).1 h4]
    | _ => cases h

noncomputable def eqOB (x y : Option Blk) : Bool := oC x (oC y true fun _ => false) fun a => oC y false fun b => eqBlk a b
theorem eqOB_eq {x y : Option Blk} (h : eqOB x y = true) : x = y := by
  unfold eqOB at h
  cases x with
  | none =>
    cases y with
    | none => rfl
    | some b => cases h
  | some a =>
    cases y with
    | none => cases h
    | some b => rw [eqBlk_eq (show eqBlk a b = true from h)]

/-- Are two heaps' trees the same at every number? (What one of them has not, the other one has not.) -/
noncomputable def isLf (t : Tr Blk) : Bool := Tr.rec (motive_1 := fun _ => Bool) (motive_2 := fun _ => PUnit) true (fun _ _ _ => false) (fun _ _ _ _ _ _ _ _ _ _ _ _ _ _ _ _ => ⟨⟩) t
noncomputable def all8 (b1 b2 b3 b4 b5 b6 b7 b8 : Bool) : Bool := bC b1 (bC b2 (bC b3 (bC b4 (bC b5 (bC b6 (bC b7 b8 false) false) false) false) false) false) false
noncomputable def eqTr (t : Tr Blk) : Tr Blk → Bool :=
  Tr.rec (motive_1 := fun _ => Tr Blk → Bool) (motive_2 := fun _ => N8 (Tr Blk) → Bool) isLf
    (fun v _ ih u => Tr.rec (motive_1 := fun _ => Bool) (motive_2 := fun _ => PUnit) false (fun w d _ => bC (eqOB v w) (ih d) false) (fun _ _ _ _ _ _ _ _ _ _ _ _ _ _ _ _ => ⟨⟩) u)
    (fun _ _ _ _ _ _ _ _ a b c d e f g h n => N8.rec (motive := fun _ => Bool) (fun a' b' c' d' e' f' g' h' => all8 (a a') (b b') (c c') (d d') (e e') (f f') (g g') (h h')) n) t

theorem all8_tt {b1 b2 b3 b4 b5 b6 b7 b8 : Bool} (h : all8 b1 b2 b3 b4 b5 b6 b7 b8 = true) : b1 = true ∧ b2 = true ∧ b3 = true ∧ b4 = true ∧ b5 = true ∧ b6 = true ∧ b7 = true ∧ b8 = true := by
  obtain ⟨h1, h⟩ := bC_tt h
  obtain ⟨h2, h⟩ := bC_tt h
  obtain ⟨h3, h⟩ := bC_tt h
  obtain ⟨h4, h⟩ := bC_tt h
  obtain ⟨h5, h⟩ := bC_tt h
  obtain ⟨h6, h⟩ := bC_tt h
  obtain ⟨h7, h8⟩ := bC_tt h
  exact ⟨h1, h2, h3, h4, h5, h6, h7, h8⟩

theorem eqTr_eq (t : Tr Blk) : ∀ u, eqTr t u = true → t = u := by
  refine Tr.rec (motive_1 := fun t => ∀ u, eqTr t u = true → t = u)
    (motive_2 := fun n => ∀ d, (N8.rec (motive := fun _ => N8 (Tr Blk) → Bool) (fun a b c d e f g h n => N8.rec (motive := fun _ => Bool) (fun a' b' c' d' e' f' g' h' => all8 (eqTr a a') (eqTr b b') (eqTr c c') (eqTr d d') (eqTr e e') (eqTr f f') (eqTr g g') (eqTr h h')) n) n : N8 (Tr Blk) → Bool) d = true → n = d) ?_ ?_ ?_ t
  · intro u h
    cases u with
    | lf => rfl
    | nd v c => cases h
  · intro v c ih u h
    cases u with
    | lf => cases h
    | nd w d =>
      cases c with
      | mk a b c d' e f g h' =>
        obtain ⟨h1, h2⟩ := bC_tt (show bC (eqOB v w) ((N8.rec (motive := fun _ => Bool) (fun a1 b1 c1 d1 e1 f1 g1 h1 => all8 (eqTr a a1) (eqTr b b1) (eqTr c c1) (eqTr d' d1) (eqTr e e1) (eqTr f f1) (eqTr g g1) (eqTr h' h1)) d)) false = true from h)
        rw [eqOB_eq h1, ih d h2]
  · intro a b c d e f g h ha hb hc hd he hf hg hh n hn
    cases n with
    | mk a' b' c' d' e' f' g' h' =>
      obtain ⟨h1, h2, h3, h4, h5, h6, h7, h8⟩ := all8_tt hn
      rw [ha _ h1, hb _ h2, hc _ h3, hd _ h4, he _ h5, hf _ h6, hg _ h7, hh _ h8]

noncomputable def eqMem (m m' : Mem) : Bool := Mem.rec (motive := fun _ => Bool) (fun t n => Mem.rec (motive := fun _ => Bool) (fun t' n' => bC (Nat.beq n n') (eqTr t t') false) m') m
theorem eqMem_eq {m m' : Mem} (h : eqMem m m' = true) : m = m' := by
  cases m with
  | mk t n =>
    cases m' with
    | mk t' n' =>
      obtain ⟨h1, h2⟩ := bC_tt (show bC (Nat.beq n n') (eqTr t t') false = true from h)
      rw [(nbeq _ _).1 h1, eqTr_eq _ _ h2]

/-! A heap of which part is forgotten: what the first one has the second one has as the third one; what the second one has the third one has. -/
noncomputable def tri1 (a b c : Option Blk) : Bool := oC a (oC b true fun y => oC c false fun z => eqBlk y z) fun _ => eqOB b c
theorem tri1_spec {a b c : Option Blk} (h : tri1 a b c = true) : (a ≠ none → b = c) ∧ ∀ x, b = some x → c = some x := by
  unfold tri1 at h
  cases a with
  | some a =>
    have := eqOB_eq (show eqOB b c = true from h)
    exact ⟨fun _ => this, fun x hx => by rw [← this]; exact hx⟩
  | none =>
    refine ⟨fun h => absurd rfl h, fun x hx => ?_⟩
    subst hx
    cases c with
    | none => cases h
    | some z => rw [eqBlk_eq (show eqBlk x z = true from h)]

noncomputable def nodeV (t : Tr Blk) : Option Blk := t.getP []
noncomputable def kid (t : Tr Blk) : N8 (Tr Blk) := Tr.rec (motive_1 := fun _ => N8 (Tr Blk)) (motive_2 := fun _ => PUnit) lf8 (fun _ c _ => c) (fun _ _ _ _ _ _ _ _ _ _ _ _ _ _ _ _ => ⟨⟩) t
theorem getP_kid (t : Tr Blk) (d : Dg) (p : List Dg) : t.getP (d :: p) = (pk d (kid t)).getP p := by
  cases t with
  | lf => show none = (pk d lf8).getP p; rw [pk_lf8, Tr.getP_lf]
  | nd v c => rfl

/-- To so many steps down. (Where the second tree ends and the first one too, nothing is asked.) -/
noncomputable def triF (f : Nat) : Tr Blk → Tr Blk → Tr Blk → Bool :=
  Nat.rec (motive := fun _ => Tr Blk → Tr Blk → Tr Blk → Bool) (fun a b _ => bC (isLf a) (isLf b) false)
    (fun _ ih a b c => bC (bC (isLf a) (isLf b) false) true
      (bC (tri1 (nodeV a) (nodeV b) (nodeV c))
        (N8.rec (motive := fun _ => Bool) (fun a1 a2 a3 a4 a5 a6 a7 a8 => N8.rec (motive := fun _ => Bool) (fun b1 b2 b3 b4 b5 b6 b7 b8 => N8.rec (motive := fun _ => Bool)
          (fun c1 c2 c3 c4 c5 c6 c7 c8 => all8 (ih a1 b1 c1) (ih a2 b2 c2) (ih a3 b3 c3) (ih a4 b4 c4) (ih a5 b5 c5) (ih a6 b6 c6) (ih a7 b7 c7) (ih a8 b8 c8)) (kid c)) (kid b)) (kid a)) false)) f

theorem isLf_eq {t : Tr Blk} (h : isLf t = true) : t = .lf := by
  cases t with
  | lf => rfl
  | nd v c => cases h

theorem triF_spec : ∀ (f : Nat) (a b c : Tr Blk), triF f a b c = true → ∀ p, (a.getP p ≠ none → b.getP p = c.getP p) ∧ ∀ x, b.getP p = some x → c.getP p = some x := by
  intro f
  have hlf : ∀ (a b c : Tr Blk), bC (isLf a) (isLf b) false = true → ∀ p, (a.getP p ≠ none → b.getP p = c.getP p) ∧ ∀ x, b.getP p = some x → c.getP p = some x := by
    intro a b c h p
    obtain ⟨h1, h2⟩ := bC_tt h
    rw [isLf_eq h1, isLf_eq h2, Tr.getP_lf]
    exact ⟨fun h => absurd rfl h, fun x hx => by cases hx⟩
  induction f with
  | zero => intro a b c h p; exact hlf a b c h p
  | succ f ih =>
    intro a b c h p
    cases hc : bC (isLf a) (isLf b) false with
    | true => exact hlf a b c hc p
    | false =>
      replace h : bC (bC (isLf a) (isLf b) false) true
        (bC (tri1 (nodeV a) (nodeV b) (nodeV c))
          (N8.rec (motive := fun _ => Bool) (fun a1 a2 a3 a4 a5 a6 a7 a8 => N8.rec (motive := fun _ => Bool) (fun b1 b2 b3 b4 b5 b6 b7 b8 => N8.rec (motive := fun _ => Bool)
            (fun c1 c2 c3 c4 c5 c6 c7 c8 => all8 (triF f a1 b1 c1) (triF f a2 b2 c2) (triF f a3 b3 c3) (triF f a4 b4 c4) (triF f a5 b5 c5) (triF f a6 b6 c6) (triF f a7 b7 c7) (triF f a8 b8 c8)) (kid c)) (kid b)) (kid a)) false) = true := h
      rw [hc] at h
      obtain ⟨h1, h2⟩ := bC_tt (show bC (tri1 (nodeV a) (nodeV b) (nodeV c)) _ false = true from h)
      cases p with
      | nil => exact tri1_spec h1
      | cons d p =>
        rw [getP_kid, getP_kid, getP_kid]
        generalize kid a = ka at h2 ⊢
        generalize kid b = kb at h2 ⊢
        generalize kid c = kc at h2 ⊢
        cases ka; cases kb; cases kc
        obtain ⟨g1, g2, g3, g4, g5, g6, g7, g8⟩ := all8_tt h2
        cases d
        · exact ih _ _ _ g1 p
        · exact ih _ _ _ g2 p
        · exact ih _ _ _ g3 p
        · exact ih _ _ _ g4 p
        · exact ih _ _ _ g5 p
        · exact ih _ _ _ g6 p
        · exact ih _ _ _ g7 p
        · exact ih _ _ _ g8 p

/-- A result, and what is kept of it. -/
noncomputable def okOut (m1 : Mem) (v2 : Value) (m2 : Mem) (r : Option Ro) : Bool :=
  oC r false fun r => Ro.rec (motive := fun _ => Bool) (fun v m => bC (eqV v v2) (bC (Nat.beq m.nxt m2.nxt) (triF 12 m1.blk m2.blk m.blk) false) false) (fun _ _ => false) r

theorem Tr.get_none {α : Type} {t : Tr α} {n : Nat} (h : path n = none) : t.get n = none := by unfold Tr.get; rw [h]; first | done | rfl
theorem Mem.get_blk (m : Mem) (b : Nat) : m.get b = m.blk.get b := by cases m; rfl

theorem triF_get {a b c : Mem} {f : Nat} (h : triF f a.blk b.blk c.blk = true) (n : Nat) : (a.get n ≠ none → b.get n = c.get n) ∧ ∀ x, b.get n = some x → c.get n = some x := by
  rw [Mem.get_blk, Mem.get_blk, Mem.get_blk]
  cases hp : path n with
  | none => rw [Tr.get_none hp, Tr.get_none hp, Tr.get_none hp]; exact ⟨fun h => absurd rfl h, fun x hx => by cases hx⟩
  | some p =>
    have := triF_spec f _ _ _ h p
    unfold Tr.get
    rw [hp]
    exact this

section
variable {P : Program} {base : Nat} {σ : Sg} {m : Mem} {w : World}

/-- Part of a heap. -/
theorem Rel.part (h : Rel P base σ m w) {m' : Mem} (hs : ∀ b x, m'.get b = some x → m.get b = some x) (hn : m'.nxt = m.nxt) : Rel P base σ m' w :=
  ⟨fun b rw e vs hb => h.cells b rw e vs (hs _ _ hb), fun b es c hb => h.map b es c (hs _ _ hb), fun b r a s t hb => h.iter b r a s t (hs _ _ hb),
   fun b c x y p q hb hc => h.inj b c x y p q (hs _ _ hb) (hs _ _ hc), fun b hb => h.fresh b (by omega), h.base, fun b p hp hn => ⟨(h.own b p hp hn).1, fun c x q hc hq => (h.own b p hp hn).2 c x q (hs _ _ hc) hq⟩⟩

theorem okOut_some {m1 m2 : Mem} {v2 : Value} {r : Option Ro} (h : okOut m1 v2 m2 r = true) : ∃ m3, r = some (.ret v2 m3) ∧ m2.nxt = m3.nxt ∧ (∀ b, m1.get b ≠ none → m2.get b = m3.get b) ∧ ∀ b x, m2.get b = some x → m3.get b = some x := by
  unfold okOut at h
  cases r with
  | none => cases h
  | some r =>
    cases r with
    | panic v m => cases h
    | ret v m =>
      obtain ⟨h1, h⟩ := bC_tt (show bC (eqV v v2) (bC (Nat.beq m.nxt m2.nxt) (triF 12 m1.blk m2.blk m.blk) false) false = true from h)
      obtain ⟨h2, h3⟩ := bC_tt h
      have := triF_get h3
      refine ⟨m, by rw [eqV_eq h1], ((nbeq _ _).1 h2).symm, fun b hb => (this b).1 hb, fun b x hx => (this b).2 x hx⟩

/-- The same heap, block for block. -/
noncomputable def simMem (m m' : Mem) : Bool := bC (triF 12 .lf m.blk m'.blk) (triF 12 .lf m'.blk m.blk) false
theorem simMem_get {m m' : Mem} (h : simMem m m' = true) (b : Nat) : m'.get b = m.get b := by
  obtain ⟨h1, h2⟩ := bC_tt (show bC (triF 12 .lf m.blk m'.blk) (triF 12 .lf m'.blk m.blk) false = true from h)
  have k1 := (triF_get (a := .mk .lf 0) (b := m) (c := m') h1 b).2
  have k2 := (triF_get (a := .mk .lf 0) (b := m') (c := m) h2 b).2
  cases hb : m.get b with
  | some x => exact k1 x hb
  | none =>
    cases hb' : m'.get b with
    | none => rfl
    | some y => rw [k2 y hb'] at hb; cases hb
/-- A call at known arguments in a known heap. -/
noncomputable def hAt (args1 : List Value) (m1 : Mem) (v2 : Value) (m2 : Mem) (k : Hook) : Hook := fun args m =>
  bC (bC (Nat.beq m.nxt m1.nxt) (bC (eqList eqV args args1) (simMem m m1) false) false) (some (.ret v2 m2)) (k args m)
noncomputable def hNo : Hook := fun _ _ => none

theorem hNo_ok (f : FuncId) : CallOk P base f hNo := fun args m r h => by cases h

theorem hAt_ok {f : FuncId} {g k : Hook} (hg : CallOk P base f g) (hk : CallOk P base f k) {args1 : List Value} {m1 m2 : Mem} {v2 : Value} (h : okOut m1 v2 m2 (g args1 m1) = true) : CallOk P base f (hAt args1 m1 v2 m2 k) := by
  intro args m r hr σ w args' rel ha
  replace hr : bC (bC (Nat.beq m.nxt m1.nxt) (bC (eqList eqV args args1) (simMem m m1) false) false) (some (.ret v2 m2)) (k args m) = some r := hr
  cases hb : bC (Nat.beq m.nxt m1.nxt) (bC (eqList eqV args args1) (simMem m m1) false) false with
  | false => rw [hb] at hr; exact hk args m r hr σ w args' rel ha
  | true =>
    rw [hb] at hr
    obtain ⟨hnx, hb⟩ := bC_tt hb
    have hnx := (nbeq _ _).1 hnx
    obtain ⟨h1, h2⟩ := bC_tt hb
    have := eqList_eq (fun _ _ => eqV_eq) _ _ h1; subst this
    have hsm := simMem_get h2
    injection (show some (Ro.ret v2 m2) = some r from hr) with hr; subst hr
    obtain ⟨m3, g1, g2, g3, g4⟩ := okOut_some h
    obtain ⟨hf, hc⟩ := hg args m1 _ g1 σ w args' (rel.part (fun b x hx => by rw [← hsm b]; exact hx) hnx.symm) ha
    refine ⟨hf, hc.mono fun e w' he => ?_⟩
    obtain ⟨σ', e1, e2, e3, e4⟩ := he
    refine ⟨σ', ⟨e1.sub, by show m.nxt ≤ m2.nxt; rw [g2, hnx]; exact e1.nxt, fun b hb hs => ?_⟩, e2, e3.part g4 g2, e4⟩
    obtain ⟨k1, k2⟩ := e1.keep b (by rw [← hnx]; exact hb) hs
    refine ⟨k1, ?_⟩
    show m2.get b = m.get b
    rw [← hsm b]
    cases hmb : m1.get b with
    | some x =>
      rw [g3 b (by rw [hmb]; simp), ← hmb]; exact k2
    | none =>
      cases h2b : m2.get b with
      | none => rfl
      | some y =>
        have := g4 b y h2b
        rw [show m3.get b = m1.get b from k2, hmb] at this; cases this

/-! Calls of values without places. -/
theorem VRel.flat_eq {σ : Sg} {v v' : Value} (hf : Flat v) (h : VRel σ v v') : v' = v := by
  induction hf generalizing v' with
  | bool b => cases h; rfl
  | int k n => cases h; rfl
  | float k n => cases h; rfl
  | string s => cases h; rfl
  | nilPtr => cases h; rfl
  | nilSl l c => cases h; rfl
  | nilMap => cases h; rfl
  | nilFunc => cases h; rfl
  | nilIface => cases h; rfl
  | iface t hv ih => cases h with | iface _ h => rw [ih h]
  | fn f =>
    obtain ⟨a', b', rfl, h1, h2⟩ := h.func_inv
    rw [h1.nil_inv, h2.nil_inv]
  | agg hl ih =>
    obtain ⟨l', rfl, h1, h2⟩ := h.agg_inv
    congr 2
    apply List.ext_getElem?
    intro i
    rename_i l
    by_cases hi : i < l.length
    · have hi' : i < l'.length := h1 ▸ hi
      have := h2 i l[i] l'[i] (List.getElem?_eq_getElem hi) (List.getElem?_eq_getElem hi')
      rw [List.getElem?_eq_getElem hi, List.getElem?_eq_getElem hi', ih _ (List.getElem_mem hi) this]
    · rw [List.getElem?_eq_none (by omega), List.getElem?_eq_none (by omega)]
  | tuple hl ih =>
    obtain ⟨l', rfl, h1, h2⟩ := h.tuple_inv
    congr 2
    apply List.ext_getElem?
    intro i
    rename_i l
    by_cases hi : i < l.length
    · have hi' : i < l'.length := h1 ▸ hi
      have := h2 i l[i] l'[i] (List.getElem?_eq_getElem hi) (List.getElem?_eq_getElem hi')
      rw [List.getElem?_eq_getElem hi, List.getElem?_eq_getElem hi', ih _ (List.getElem_mem hi) this]
    · rw [List.getElem?_eq_none (by omega), List.getElem?_eq_none (by omega)]

theorem LRel.flat_eq {σ : Sg} {l l' : List Value} (hf : ∀ v ∈ l, Flat v) (h : LRel σ l l') : l' = l := by
  have := VRel.flat_eq (Flat.agg hf) h.agg
  injection this with this; injection this

def noSg : Sg := fun _ => none
theorem rel_empty (P : Program) (w : World) (n : Nat) : Rel P w.heap.size noSg (.mk .lf n) w := by
  have hn : ∀ b, (Mem.mk .lf n).get b = none := fun b => Tr.get_lf b
  exact ⟨(fun b rw' e vs hb => by rw [hn] at hb; cases hb), (fun b es c hb => by rw [hn] at hb; cases hb), (fun b r a s t hb => by rw [hn] at hb; cases hb),
   (fun b c x y p q hb => by rw [hn] at hb; cases hb), fun b _ => rfl, Nat.le_refl _, fun b p hp => by cases hp⟩

/-- What was there stays. -/
theorem Rel.later (h : Rel P base σ m w) {w' : World} (hb : Below w.heap.size w w') : Rel P base σ m w' := by
  have hk : ∀ k, k < w.heap.size → w'.heap[k]? = w.heap[k]? := fun k hk => hb.block k hk
  refine ⟨?_, ?_, ?_, h.inj, h.fresh, Nat.le_trans h.base hb.size, fun b p hp hn => by
    obtain ⟨⟨arr, e, fz, h1, h2⟩, h3⟩ := h.own b p hp hn
    exact ⟨⟨arr, e, fz, by rw [hk _ (h.ownLive hp hn)]; exact h1, h2⟩, h3⟩⟩
  · intro b rw' e vs hbk p hp
    obtain ⟨h0, h1, h2, h3, arr, fz, h4, h5⟩ := h.cells b rw' e vs hbk p hp
    exact ⟨h0, h1, h2, h3, arr, fz, by rw [hk _ (h.live hbk hp)]; exact h4, h5⟩
  · intro b es c hbk p hp
    obtain ⟨h1, es', h2, h3⟩ := h.map b es c hbk p hp
    exact ⟨h1, es', by rw [hk _ (h.live hbk hp)]; exact h2, h3⟩
  · intro b r a s t hbk p hp
    obtain ⟨h0, h1, r', h2, h3⟩ := h.iter b r a s t hbk p hp
    exact ⟨h0, h1, r', h2, by rw [hk _ (h.live hbk hp)]; exact h3⟩

theorem Below.less {n n' : Nat} {w w' : World} (h : Below n w w') (hn : n' ≤ n) (hw : n ≤ w.heap.size) : Below n' w w' := h.mono hn

/-- A call at known flat arguments: its result is known, and nothing is changed. -/
noncomputable def hFlat (args1 : List Value) (v2 : Value) (k : Hook) : Hook := fun args m => bC (eqList eqV args args1) (some (.ret v2 m)) (k args m)
noncomputable def okFlat (args1 : List Value) (v2 : Value) (r : Option Ro) : Bool :=
  bC (List.all args1 (isFlat 10)) (bC (isFlat 10 v2) (oC r false fun r => Ro.rec (motive := fun _ => Bool) (fun v _ => eqV v v2) (fun _ _ => false) r) false) false

theorem hFlat_ok {f : FuncId} {g k : Hook} (hg : ∀ base, CallOk P base f g) (hk : CallOk P base f k) {args1 : List Value} {v2 : Value} {n : Nat} (h : okFlat args1 v2 (g args1 (.mk .lf n)) = true) : CallOk P base f (hFlat args1 v2 k) := by
  intro args m r hr σ w args' rel ha
  replace hr : bC (eqList eqV args args1) (some (.ret v2 m)) (k args m) = some r := hr
  cases hb : eqList eqV args args1 with
  | false => rw [hb] at hr; exact hk args m r hr σ w args' rel ha
  | true =>
    rw [hb] at hr
    have := eqList_eq (fun _ _ => eqV_eq) _ _ hb; subst this
    injection (show some (Ro.ret v2 m) = some r from hr) with hr; subst hr
    obtain ⟨h1, h⟩ := bC_tt (show bC (List.all args (isFlat 10)) (bC (isFlat 10 v2) (oC (g args (.mk .lf n)) false fun r => Ro.rec (motive := fun _ => Bool) (fun v _ => eqV v v2) (fun _ _ => false) r) false) false = true from h)
    obtain ⟨h2, h⟩ := bC_tt h
    have hfa : ∀ v ∈ args, Flat v := fun v hv => isFlat_flat _ _ (List.all_eq_true.1 h1 v hv)
    have hfv := isFlat_flat _ _ h2
    cases hg1 : g args (.mk .lf n) with
    | none => rw [hg1] at h; cases h
    | some r1 =>
      rw [hg1] at h
      cases r1 with
      | panic v m1 => cases h
      | ret v m1 =>
        have := eqV_eq (show eqV v v2 = true from h); subst this
        have hargs := ha.flat_eq hfa; subst hargs
        obtain ⟨hf, hc⟩ := hg w.heap.size args' _ _ hg1 noSg w args' (rel_empty P w n) (LRel.flat hfa)
        refine ⟨hf, hc.mono fun e w' he => ?_⟩
        obtain ⟨σ', e1, e2, e3, v', rfl, e4⟩ := he
        exact ⟨σ, Ext.refl σ m, e2.mono rel.base, rel.later e2, v', rfl, by rw [VRel.flat_eq hfv e4]; exact hfv.rel⟩
end
end Go.Am
namespace Go.Am
set_option linter.unusedSectionVars false
noncomputable section
@[reducible] def u (n : Nat) : Value := .int .u8 (.ofNat n)
@[reducible] def i (n : Nat) : Value := .int .i64 (.ofNat n)
@[reducible] def im (n : Nat) : Value := .int .i64 (.negSucc n)
@[reducible] def uh (n : Nat) : Value := .int .u16 (.ofNat n)
@[reducible] def uw (n : Nat) : Value := .int .u32 (.ofNat n)
@[reducible] def ul (n : Nat) : Value := .int .u64 (.ofNat n)
@[reducible] def tt : Value := .bool true
@[reducible] def ff : Value := .bool false
@[reducible] def pp (b o : Nat) : Value := .pointer (some ⟨b, o, none⟩)
@[reducible] def pn : Value := .pointer none
@[reducible] def sl (b o l c : Nat) : Value := .slice (some ⟨b, o, none⟩) l c
@[reducible] def su (b o l : Nat) : Value := .slice (some ⟨b, o, none⟩) l unk
@[reducible] def sn (l c : Nat) : Value := .slice none l c
@[reducible] def mp (b : Nat) : Value := .map (some b)
@[reducible] def mn : Value := .map none
@[reducible] def ag (l : List Value) : Value := .agg ⟨l⟩
@[reducible] def tu (l : List Value) : Value := .tuple ⟨l⟩
@[reducible] def st (l : List UInt8) : Value := .string ⟨⟨l⟩⟩
@[reducible] def fl (n : Nat) : Value := .float .f64 n
@[reducible] def ce (e : Nat) (l : List Value) : Blk := .cells true e l
@[reducible] def cr (e : Nat) (l : List Value) : Blk := .cells false e l
@[reducible] def en (k v : Value) (b : Nat) : MapEntry := { key := k, val := v, born := b }
/-- So many bytes 0, ahead of a row. -/
def zz (n : Nat) (l : List Value) : List Value := Nat.rec (motive := fun _ => List Value) l (fun _ ih => u 0 :: ih) n
def trL (l : List (Nat × Blk)) : Tr Blk :=
  oC (List.rec (motive := fun _ => Option (Tr Blk)) (some .lf) (fun x _ ih => ih.b fun t => p2 x fun n b => t.set n (some b)) l) .lf fun t => t
def isTrueR (r : Option Ro) : Bool := oC r false fun r => Ro.rec (motive := fun _ => Bool) (fun v _ => oC (vBool v) false fun b => b) (fun _ _ => false) r
end

theorem isTrueR_some {r : Option Ro} (h : isTrueR r = true) : ∃ m, r = some (.ret (.bool true) m) := by
  unfold isTrueR at h
  cases r with
  | none => cases h
  | some r =>
    cases r with
    | panic v m => cases h
    | ret v m =>
      replace h : (oC (vBool v) false fun b => b) = true := h
      cases hv : vBool v with
      | none => rw [hv] at h; cases h
      | some b =>
        rw [hv] at h
        have : b = true := h
        subst this
        exact ⟨m, by rw [vBool_some hv]⟩
end Go.Am
