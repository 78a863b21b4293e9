/- The abstract machine, part 12: structs and arrays built, conversions, slices. · The abstract machine, part 13: conversions, indexes, slices made and cut, lengths. · The abstract machine, part 14: indexes, rows made and cut. · The abstract machine, part 15: calls, lengths, least and greatest. · The abstract machine, part 16: rows copied and made longer. -/
import Derived.Test.YtecihapafnpgbaaGreatAmB
set_option linter.unusedSimpArgs false
set_option linter.unusedVariables false
set_option linter.constructorNameAsVariable false
set_option linter.unusedSectionVars false
namespace Go.Am
set_option linter.unusedSectionVars false
variable [Env]
open Go.RowKit (Below)
set_option linter.unusedSimpArgs false
set_option linter.unusedVariables false

section
variable {P : Program} {base : Nat} {σ : Sg} {m : Mem} {w : World} {ρ : Operand → Value} {o : Oper} {tm : Tr Value} {act : Act}

/-! Parts laid into a row. -/
theorem splice_fold (off : Nat) : ∀ (vs : List Value) (k : Nat) (cs : Array Value), off + k + vs.length ≤ cs.size →
    ((vs.zipIdx k).foldl (fun (cs : Array Value) (x : Value × Nat) => cs.setIfInBounds (off + x.2) x.1) cs).toList = cs.toList.take (off + k) ++ vs ++ cs.toList.drop (off + k + vs.length) := by
  intro vs
  induction vs with
  | nil => intro k cs _; simp
  | cons v vs ih =>
    intro k cs h
    simp at h
    rw [List.zipIdx_cons, List.foldl_cons, ih (k + 1) _ (by simp; omega)]
    have := set_splice cs.toList v vs (off + k) (by simp; omega)
    rw [Array.toList_setIfInBounds]
    simpa [Nat.add_assoc] using this

/-- Parts, by their places. -/
def PRel (σ : Sg) (ps ps' : List (Nat × Value)) : Prop := ps.length = ps'.length ∧ ∀ (i : Nat) (x y : Nat × Value), ps[i]? = some x → ps'[i]? = some y → x.1 = y.1 ∧ VRel σ x.2 y.2

theorem PRel.head {x : Nat × Value} {l l' : List (Nat × Value)} (h : PRel σ (x :: l) l') : ∃ v' r', l' = (x.1, v') :: r' ∧ VRel σ x.2 v' ∧ PRel σ l r' := by
  obtain ⟨h1, h2⟩ := h
  cases l' with
  | nil => simp at h1
  | cons y r' =>
    obtain ⟨i, v'⟩ := y
    obtain ⟨e, hv⟩ := h2 0 x (i, v') rfl rfl
    simp at e
    subst e
    exact ⟨v', r', rfl, hv, by simpa using h1, fun i u u' a b => h2 (i + 1) u u' (by simpa using a) (by simpa using b)⟩

theorem fill_rel {pl : Nat → Option (Nat × Nat)} : ∀ (ps ps' : List (Nat × Value)) (z z' l : List Value), PRel σ ps ps' → LRel σ z z' → fillL pl ps z = some l → ∃ l', Instr.fill pl ⟨z'⟩ ps' = some ⟨l'⟩ ∧ LRel σ l l' := by
  intro ps
  induction ps with
  | nil =>
    intro ps' z z' l hp hz h
    injection (show some z = some l from h) with h; subst h
    have : ps' = [] := by have := hp.1; simp at this; exact List.length_eq_zero_iff.1 this.symm
    subst this
    exact ⟨z', rfl, hz⟩
  | cons x ps ih =>
    intro ps' z z' l hp hz h
    obtain ⟨i, v⟩ := x
    obtain ⟨v', r', rfl, hv, hr⟩ := hp.head
    obtain ⟨off, size, hpl, h⟩ := b2_some.1 (show (b2 (pl i) fun off size => bC (Nat.beq (cellsL v).length size) ((spl off (cellsL v) z).b (fillL pl ps)) none) = some l from h)
    obtain ⟨hsz, h⟩ := bC_some.1 h
    obtain ⟨z2, hspl, h⟩ := b_some.1 h
    obtain ⟨hlen, rfl⟩ := (spl_eq _ _ _ _).1 hspl
    have hc := hv.cells
    have hsz := (nbeq _ _).1 hsz
    have hcl : v'.cells.size = size := by have := hc.1; rw [hsz] at this; simpa using this.symm
    have hzl := hz.1
    have hvl : v'.cells.toList.length = size := by simpa using hcl
    obtain ⟨l', h1, h2⟩ := ih r' _ (z'.take off ++ v'.cells.toList ++ z'.drop (off + v'.cells.toList.length)) l hr
      (((hz.take off).append hc).append (by rw [← hc.1]; exact hz.drop _)) h
    refine ⟨l', ?_, h2⟩
    rw [← h1]
    conv => lhs; unfold Instr.fill
    simp only [hpl]
    rw [if_neg (by simp [hcl]; omega)]
    congr 1
    apply Array.ext'
    have := splice_fold off v'.cells.toList 0 ⟨z'⟩ (by simp; omega)
    simp only [Nat.add_zero] at this
    rw [← this]
    rw [← Array.foldl_toList]
    simp

theorem evP_rel : ∀ (xs : List (Nat × Operand)) (cs : List (Nat × Oc)), cP xs = some cs → (∀ x ∈ xs, ∀ c, cO x.2 = some c → Ev σ tm ρ x.2 c) → ∀ l, evP cs tm = some l → PRel σ l (xs.map fun x => (x.1, ρ x.2)) := by
  intro xs
  induction xs with
  | nil =>
    intro cs hc _ l hl
    injection (show some ([] : List (Nat × Oc)) = some cs from hc) with hc; subst hc
    injection (show some ([] : List (Nat × Value)) = some l from hl) with hl; subst hl
    exact ⟨rfl, fun i x y a => by simp at a⟩
  | cons x xs ih =>
    intro cs hc hx l hl
    obtain ⟨j, x⟩ := x
    obtain ⟨c, h1, hc⟩ := b_some.1 (show ((cO x).b fun x => (cP xs).b fun r => some ((j, x) :: r)) = some cs from hc)
    obtain ⟨r, h2, hc⟩ := b_some.1 hc
    injection hc with hc; subst hc
    obtain ⟨v, h3, hl⟩ := b_some.1 (show ((c.ev tm).b fun v => (evP r tm).b fun l => some ((j, v) :: l)) = some l from hl)
    obtain ⟨l', h4, hl⟩ := b_some.1 hl
    injection hl with hl; subst hl
    have hi := ih r h2 (fun y hy => hx y (by simp [hy])) l' h4
    refine ⟨by simpa using hi.1, fun i a b ha hb => ?_⟩
    cases i with
    | zero =>
      simp at ha hb; subst ha; subst hb
      exact ⟨rfl, hx (j, x) (by simp) c h1 v h3⟩
    | succ i => exact hi.2 i a b (by simpa using ha) (by simpa using hb)

theorem run_places : ∀ (fs : List Field) (l : List (Nat × Nat)), sizesL P fs = some l → ∀ w, (fs.mapM (fun f => (do pure (f.offset, ← sizeOf f.type) : Sem (Nat × Nat)))).run P w = .ok l w := by
  intro fs
  induction fs with
  | nil => intro l h w; injection (show some ([] : List (Nat × Nat)) = some l from h) with h; subst h; rfl
  | cons f fs ih =>
    intro l h w
    obtain ⟨n, hn, h⟩ := b_some.1 (show ((sizeT P f.type).b fun n => fN f.offset fun o => (sizesL P fs).b fun l => some ((o, n) :: l)) = some l from h)
    rw [fN_eq] at h
    obtain ⟨r, hr, h⟩ := b_some.1 h
    injection h with h; subst h
    rw [List.mapM_cons]
    simp only [Sem.run_bind, run_size hn, Result.andThen_ok, Sem.run_pure, ih r hr]

theorem placeT_some {u : TypeDesc} {pl : Nat → Option (Nat × Nat)} (h : placeT P u = some pl) : (∃ fs l, u = .struct ⟨fs⟩ ∧ sizesL P fs = some l ∧ pl = fun i => l[i]?) ∨ (∃ n e k, u = .array n e ∧ sizeT P e = some k ∧ pl = fun i => some (i * k, k)) := by
  unfold placeT at h
  cases hs : dStruct u with
  | some fs =>
    rw [hs] at h
    obtain ⟨l, hl, h⟩ := b_some.1 (show ((sizesL P fs).b fun l => some (placeL l)) = some pl from h)
    injection h with h
    exact .inl ⟨fs, l, dStruct_some hs, hl, by rw [← h]; rfl⟩
  | none =>
    rw [hs] at h
    obtain ⟨n, e, ha, h⟩ := b2_some.1 (show (b2 (dArray u) fun _ e => (sizeT P e).b fun n => some (placeN n)) = some pl from h)
    obtain ⟨k, hk, h⟩ := b_some.1 h
    injection h with h
    refine .inr ⟨n, e, k, dArray_some ha, hk, ?_⟩
    rw [← h]
    funext i
    unfold placeN
    rw [fN_eq]
    rfl

theorem sim_build (h : Rel P base σ m w) {t : TypeId} {ps : Array (Nat × Operand)} (ho : o.op = .build t ps) {cs : List (Nat × Oc)} (hcs : cP ps.toList = some cs) (hx : ∀ x ∈ ps.toList, ∀ c, cO x.2 = some c → Ev σ tm ρ x.2 c)
    {z : List Value} (hz : zeroT P t = some z) {u : TypeDesc} (hu : P.underlying t = some u) {pl : Nat → Option (Nat × Nat)} (hpl : placeT P u = some pl) (hf : oBuild pl z cs tm m = some act) : OpSim P base σ m w ρ o act := by
  obtain ⟨l, hl, hf⟩ := b_some.1 hf
  obtain ⟨r, hr, hf⟩ := b_some.1 hf
  injection hf with hf; subst hf
  obtain ⟨z0, n, hz0, hn, rfl, hlen⟩ := zeroT_some hz
  obtain ⟨_, _, _, hflat⟩ := zeroV_some hz0
  have hp := evP_rel _ _ hcs hx l hl
  obtain ⟨l', h1, h2⟩ := fill_rel (pl := pl) l _ _ z0.cells.toList r hp (hflat.rel (σ := σ)).cells hr
  refine OpSim.pureV h (s := Instr.build t (ps.map fun (i, x) => (i, ρ x))) (by rw [execOp, ho]) (v' := .agg ⟨l'⟩) ?_ h2.agg
  have hps : (ps.map fun (x : Nat × Operand) => (x.1, ρ x.2)).toList = ps.toList.map fun x => (x.1, ρ x.2) := by simp
  unfold Instr.build
  rw [Sem.run_bind, run_zero hz0, Result.andThen_ok, Sem.run_bind, run_under hu, Result.andThen_ok]
  rcases placeT_some hpl with ⟨fs, sl, rfl, hsl, rfl⟩ | ⟨k, e, sz, rfl, hsz, rfl⟩
  · simp only []
    rw [Sem.run_bind]
    have hm : ((⟨fs⟩ : Array Field).mapM (fun f => (do pure (f.offset, ← sizeOf f.type) : Sem (Nat × Nat)))).run P w = .ok ⟨sl⟩ w := by
      rw [Array.mapM_eq_mapM_toList]
      rw [Sem.run_map, run_places fs sl hsl]
      rfl
    rw [hm, Result.andThen_ok]
    have h1' : Instr.fill (fun i => (⟨sl⟩ : Array (Nat × Nat))[i]?) z0.cells (ps.map fun (x : Nat × Operand) => (x.1, ρ x.2)).toList = some ⟨l'⟩ := by
      rw [hps, show (fun i => (⟨sl⟩ : Array (Nat × Nat))[i]?) = fun i => sl[i]? from by funext i; simp]; exact h1
    simp only [h1']
    rfl
  · simp only []
    rw [Sem.run_bind, run_size hsz, Result.andThen_ok]
    have h1' : Instr.fill (fun i => some (i * sz, sz)) z0.cells (ps.map fun (x : Nat × Operand) => (x.1, ρ x.2)).toList = some ⟨l'⟩ := by rw [hps]; exact h1
    simp only [h1']
    rfl

/-- The zero cells of a row. -/
theorem range_zero (z : Array Value) (hz : z.size ≠ 0) (n : Nat) : (Array.range (n * z.size)).map (fun i => z[i % z.size]!) = ⟨reps z.toList n⟩ := by
  apply Array.ext'
  simp only [Array.toList_map, Array.toList_range]
  induction n with
  | zero => simp [reps]
  | succ n ih =>
    rw [reps, ← ih, Nat.add_mul, Nat.one_mul, Nat.add_comm, List.range_add, List.map_append]
    congr 1
    · apply List.ext_getElem?
      intro i
      simp only [List.getElem?_map, List.getElem?_range']
      by_cases hi : i < z.size
      · simp [List.getElem?_range, hi, Nat.mod_eq_of_lt hi]
      · simp [List.getElem?_range, hi]
    · rw [List.map_map]
      apply List.map_congr_left
      intro i _
      simp

theorem sim_buildSlice (h : Rel P base σ m w) {t : TypeId} {len : Nat} {ps : Array (Nat × Operand)} (ho : o.op = .buildSlice t len ps) {cs : List (Nat × Oc)} (hcs : cP ps.toList = some cs) (hx : ∀ x ∈ ps.toList, ∀ c, cO x.2 = some c → Ev σ tm ρ x.2 c)
    {e : TypeId} (ht : tSlice P t = some e) {size : Nat} (hs : sizeT P e = some size) {z z2 : List Value} (hz : zeroT P e = some z) (hle : len * size ≤ 10000000) (h0 : size ≠ 0) (hz2 : repL z len = some z2)
    (hf : oBuildSlice e size len z2 cs tm m = some act) : OpSim P base σ m w ρ o act := by
  obtain ⟨l, hl, hf⟩ := b_some.1 hf
  obtain ⟨r, hr, hf⟩ := b_some.1 hf
  obtain ⟨b, m', hn, hf⟩ := b2_some.1 hf
  injection hf with hf; subst hf
  obtain ⟨z0, n, hz0, hn0, rfl, hlen⟩ := zeroT_some hz
  obtain ⟨_, _, _, hflat⟩ := zeroV_some hz0
  rw [hs] at hn0; injection hn0 with hn0; subst hn0
  have := (repL_eq _ _ _).1 hz2; subst this
  have hp := evP_rel _ _ hcs hx l hl
  have hpl : (fun i => placeN size i) = fun i => some (i * size, size) := by funext i; unfold placeN; rw [fN_eq]; rfl
  have hcl : (cellsL z0) = z0.cells.toList := cellsL_eq z0
  rw [hcl] at hr hlen
  have hfl : LRel σ z0.cells.toList z0.cells.toList := by have := (hflat.rel (σ := σ)).cells; rw [hcl] at this; exact this
  obtain ⟨l', h1, h2⟩ := fill_rel (pl := placeN size) l _ _ (reps z0.cells.toList len) r hp (hfl.reps len) hr
  have hrl : r.length = len * size := by
    have key : ∀ (ps : List (Nat × Value)) (z r : List Value), fillL (placeN size) ps z = some r → r.length = z.length := by
      intro ps
      induction ps with
      | nil => intro z r h; injection (show some z = some r from h) with h; rw [h]
      | cons x ps ih =>
        intro z r h
        obtain ⟨i, v⟩ := x
        obtain ⟨off, sz, hpl, h⟩ := b2_some.1 (show (b2 (placeN size i) fun off size => bC (Nat.beq (cellsL v).length size) ((spl off (cellsL v) z).b (fillL (placeN _) ps)) none) = some r from h)
        obtain ⟨hsz, h⟩ := bC_some.1 h
        obtain ⟨z2, hspl, h⟩ := b_some.1 h
        obtain ⟨hl, rfl⟩ := (spl_eq _ _ _ _).1 hspl
        rw [ih _ _ h]
        simp; omega
    rw [key _ _ _ hr]
    have : ∀ n, (reps z0.cells.toList n).length = n * size := by
      intro n
      induction n with
      | zero => simp [reps]
      | succ n ih => rw [reps, List.length_append, ih, hlen, Nat.add_mul]; omega
    exact this len
  obtain ⟨r1, r2, r3⟩ := h.newRow hn h2 len size 0 (cellsOf_eq hs).symm (arr := ⟨l'⟩) (by simp [h2.1]) (by simp; rw [← h2.1, hrl]; exact Nat.le_refl _) (by omega) (0, 0) (.inl rfl)
  refine OpSim.valV (s := Instr.buildSlice t len (ps.map fun (i, x) => (i, ρ x))) (by rw [execOp, ho]) (v' := .slice (some ⟨w.heap.size, 0, none⟩) len len) ?_ ?_ r1 r2 r3
  · have hps : (ps.map fun (x : Nat × Operand) => (x.1, ρ x.2)).toList = ps.toList.map fun x => (x.1, ρ x.2) := by simp
    unfold Instr.buildSlice
    rw [Sem.run_bind, run_under (tSlice_some ht), Result.andThen_ok]
    simp only []
    rw [Sem.run_bind, run_size hs, Result.andThen_ok, Sem.run_ite, if_neg (by omega)]
    have h1' : Instr.fill (fun i => some (i * size, size)) ⟨reps z0.cells.toList len⟩ (ps.map fun (x : Nat × Operand) => (x.1, ρ x.2)).toList = some ⟨l'⟩ := by rw [hps, ← hpl]; exact h1
    by_cases hl0 : len = 0
    · subst hl0
      simp only [Nat.zero_mul, if_true, Sem.run_bind, Sem.run_pure, Result.andThen_ok]
      have hza : (Array.range 0).map (fun i => (#[] : Array Value)[i % (#[] : Array Value).size]!) = ⟨reps z0.cells.toList 0⟩ := by apply Array.ext'; simp [reps]
      rw [hza]
      simp only [h1']
      simp [Go.newRow, newObj, Sem.run]
    · have hne : len * size ≠ 0 := Nat.mul_ne_zero hl0 h0
      have hzs : z0.cells.size = size := by simpa using hlen
      have hza := range_zero z0.cells (by omega) len
      rw [hzs] at hza
      rw [if_neg hne]
      simp only [Sem.run_bind, run_zero hz0, Result.andThen_ok, Sem.run_pure, hzs, hza, h1']
      simp [Go.newRow, newObj, Sem.run]
  · exact .sl 0 len len (place_same b _) (by unfold unk; have : len ≤ len * size := Nat.le_mul_of_pos_right _ (by omega); omega)

end
end Go.Am
namespace Go.Am
set_option linter.unusedSectionVars false
variable [Env]
open Go.RowKit (Below)
set_option linter.unusedSimpArgs false
set_option linter.unusedVariables false

section
variable {P : Program} {base : Nat} {σ : Sg} {m : Mem} {w : World} {ρ : Operand → Value} {o : Oper} {tm : Tr Value} {act : Act}

theorem bytesOfCells_run {f : Value → ByteArray → Sem (ForInStep ByteArray)} (hf : ∀ (n : Int) (s : ByteArray) (w : World), (f (.int .u8 n) s).run P w = .ok (.yield (s.push (UInt8.ofNat n.toNat))) w) :
    ∀ (l : List Value) (bs : List UInt8), bytesOfCells l = some bs → ∀ (acc : ByteArray) (w : World), (forIn l acc f).run P w = .ok ⟨⟨acc.data.toList ++ bs⟩⟩ w := by
  intro l
  induction l with
  | nil =>
    intro bs h acc w
    injection (show some ([] : List UInt8) = some bs from h) with h; subst h
    obtain ⟨⟨a⟩⟩ := acc
    simp
  | cons v l ih =>
    intro bs h acc w
    obtain ⟨k, a, hv, h⟩ := b2_some.1 (show (b2 (vInt v) fun k a => bC (eqK k .u8) ((bytesOfCells l).b fun l => fN (toN a) fun a => some (UInt8.ofNat a :: l)) none) = some bs from h)
    obtain ⟨hk, h⟩ := bC_some.1 h
    obtain ⟨r, hr, h⟩ := b_some.1 h
    rw [fN_eq] at h
    injection h with h; subst h
    have := (eqK_eq _ _).1 hk; subst this
    have := vInt_some hv; subst this
    rw [List.forIn_cons]
    simp only [Sem.run_bind, hf, Result.andThen_ok]
    rw [ih r hr]
    obtain ⟨⟨b⟩⟩ := acc
    congr 1
    rw [toN_eq]
    show (⟨⟨((⟨⟨b⟩⟩ : ByteArray).push (UInt8.ofNat a.toNat)).data.toList ++ r⟩⟩ : ByteArray) = _
    simp [ByteArray.push]

theorem cellsOfBytes_eq : ∀ (s : List UInt8) (l : List Value), cellsOfBytes s = some l ↔ l = s.map fun b => .int .u8 (.ofNat b.toNat) := by
  intro s
  induction s with
  | nil => intro l; show some [] = some l ↔ _; simp [eq_comm]
  | cons b s ih =>
    intro l
    show ((cellsOfBytes s).b fun l => fN b.toNat fun a => some (Value.int .u8 (.ofNat a) :: l)) = some l ↔ _
    rw [b_some]
    constructor
    · rintro ⟨r, hr, h⟩
      rw [fN_eq] at h
      injection h with h
      rw [(ih _).1 hr] at h
      rw [← h]; rfl
    · rintro rfl
      exact ⟨_, (ih _).2 rfl, by rw [fN_eq]; rfl⟩

theorem run_bytesToString {l : List Value} {bs : List UInt8} (h : bytesOfCells l = some bs) {l' : List Value} (hl : LRel σ l l') {a : Addr} {n cap : Nat} (hr : (loadCells a n).run P w = .ok ⟨l'⟩ w) :
    (Conv.bytesToString (.slice (some a) n cap)).run P w = .ok (.string ⟨⟨bs⟩⟩) w := by
  have hb : bytesOfCells l' = some bs := by
    clear hr
    induction l generalizing l' bs with
    | nil => rw [hl.nil_inv]; exact h
    | cons v l ih =>
      obtain ⟨v', r', rfl, hv, hr⟩ := hl.head
      obtain ⟨k, q, hvi, h1⟩ := b2_some.1 (show (b2 (vInt v) fun k a => bC (eqK k .u8) ((bytesOfCells l).b fun l => fN (toN a) fun a => some (UInt8.ofNat a :: l)) none) = some bs from h)
      obtain ⟨hk, h1⟩ := bC_some.1 h1
      obtain ⟨r, hr2, h1⟩ := b_some.1 h1
      have := vInt_some hvi; subst this
      rw [hv.int_inv]
      show (b2 (vInt (.int k q)) fun k a => bC (eqK k .u8) ((bytesOfCells r').b fun l => fN (toN a) fun a => some (UInt8.ofNat a :: l)) none) = some bs
      exact b2_some.2 ⟨k, q, rfl, bC_some.2 ⟨hk, b_some.2 ⟨r, ih hr2 hr, h1⟩⟩⟩
  unfold Conv.bytesToString
  simp only []
  rw [Sem.run_bind, hr, Result.andThen_ok, Sem.run_bind, ← Array.forIn_toList]
  refine Eq.trans (congrArg (fun r : Result ByteArray => r.andThen fun a w' => Sem.run P (pure (Value.string a)) w') (bytesOfCells_run (P := P) ?_ l' bs hb ByteArray.empty w)) rfl
  intro n s w
  rfl

theorem run_loadCells0 (a : Addr) (w : World) : (loadCells a 0).run P w = .ok #[] w := by
  simp [loadCells, loadCellsFrom]

theorem run_stringToBytes (e : TypeId) (s : List UInt8) (w : World) : ∃ cap : Nat, s.length ≤ cap ∧
    (Conv.stringToBytes e ⟨⟨s⟩⟩).run P w = .ok (.slice (some ⟨w.heap.size, 0, none⟩) s.length cap)
      { w with heap := w.heap.push (.cells ((s.map fun b : UInt8 => Value.int .u8 (.ofNat b.toNat)) ++ List.replicate (cap - s.length) (Value.int .u8 0)).toArray e (cap, cap + 1)), drawn := w.drawn + 1 } := by
  refine ⟨s.length + (w.tape w.drawn (.appendCap s.length 0 e)) % (2 ^ 63 - s.length), by omega, ?_⟩
  unfold Conv.stringToBytes
  have hsz : (⟨⟨s⟩⟩ : ByteArray).size = s.length := rfl
  rw [hsz, Sem.run_bind, run_choose, if_neg (by simp [Question.forced]), Result.andThen_ok]
  simp only [Question.cut]
  have hle : s.length ≤ s.length + (w.tape w.drawn (.appendCap s.length 0 e)) % (2 ^ 63 - s.length) := by omega
  generalize s.length + (w.tape w.drawn (.appendCap s.length 0 e)) % (2 ^ 63 - s.length) = cap at hle ⊢
  have hrow : ((⟨s⟩ : Array UInt8).map fun b => Value.int .u8 (.ofNat b.toNat)) ++ Array.replicate (cap - s.length) (Value.int .u8 0) = ((s.map fun b : UInt8 => Value.int .u8 (.ofNat b.toNat)) ++ List.replicate (cap - s.length) (Value.int .u8 0)).toArray := by
    apply Array.ext'
    simp
  have hlen : ((s.map fun b : UInt8 => Value.int .u8 (.ofNat b.toNat)) ++ List.replicate (cap - s.length) (Value.int .u8 0)).toArray.size = cap := by
    simp; omega
  simp only [Sem.run_bind, Go.newRow, run_newObj, Sem.run_pure, Result.andThen_ok, markStringish, run_shape]
  have hrow2 : ((⟨⟨s⟩⟩ : ByteArray).data.map fun b => Value.int .u8 (↑b.toNat : Int)) ++ Array.replicate (cap - s.length) (Value.int .u8 0) = ((s.map fun b : UInt8 => Value.int .u8 (.ofNat b.toNat)) ++ List.replicate (cap - s.length) (Value.int .u8 0)).toArray := hrow
  rw [hrow2]
  generalize ((s.map fun b : UInt8 => Value.int .u8 (.ofNat b.toNat)) ++ List.replicate (cap - s.length) (Value.int .u8 0)).toArray = arr at hlen
  have hget : (w.heap.push (.cells arr e))[w.heap.size]? = some (.cells arr e) := by simp
  simp only [World.shape?, hget, Result.andThen_ok, Sem.run_bind, run_freeze, World.freeze, if_neg (show (1 : Nat) ≠ 0 by decide)]
  congr 2
  apply Array.ext_getElem?
  intro k
  rw [Array.getElem?_modify, Array.getElem?_push, Array.getElem?_push]
  by_cases hk : w.heap.size = k
  · subst hk; simp [hlen]
  · rw [if_neg hk]
    split <;> simp_all

/-- A mark is set. -/
theorem run_mark (h : Rel P base σ m w) {b : Nat} {rw' : Bool} {e : TypeId} {vs : List Value} (hb : m.get b = some (.cells rw' e vs)) {p : Pl} (hp : σ b = some p) (hu : isU8 P e = true) {m' : Mem} (hr : rw' = true) (hput : m.put b (some (.cells true e vs)) = some m') (o : Nat) (s : Option Nat) :
    ∃ w', (markStringish ⟨p.blk, o, s⟩).run P w = .ok () w' ∧ Rel P base σ m' w' ∧ Below base w w' ∧ Ext σ m σ m' := by
  obtain ⟨g0, g1, g2, g3, arr, fz, g4, g5, g6, g7⟩ := h.cells b rw' e vs hb p hp
  have hl := h.live hb hp
  obtain ⟨fz', hfz', hw⟩ : ∃ fz' : Nat × Nat, (fz'.1 = fz'.2 ∨ arr.size ≤ fz'.1 ∧ isU8 P e = true) ∧ (markStringish ⟨p.blk, o, s⟩).run P w = .ok () (setArr w p.blk (.cells arr e fz')) := by
    refine ⟨if fz.1 == fz.2 then (arr.size, arr.size + 1) else (min fz.1 arr.size, max fz.2 (arr.size + 1)), ?_, ?_⟩
    · right
      split
      · exact ⟨Nat.le_refl _, hu⟩
      · rename_i hne
        rcases g6 with g6 | g6
        · simp [g6] at hne
        · exact ⟨by simp; omega, hu⟩
    · unfold markStringish
      rw [Sem.run_bind, run_shape, Result.andThen_ok]
      simp only [World.shape?, g4]
      rw [run_freeze]
      congr 1
      unfold World.freeze setArr
      rw [if_neg (by decide)]
      congr 1
      apply Array.ext_getElem?
      intro k
      rw [Array.getElem?_modify, Array.getElem?_setIfInBounds]
      by_cases hk : p.blk = k
      · subst hk
        rw [if_pos rfl, if_pos rfl, if_pos hl, g4]
        obtain ⟨lo, hi⟩ := fz
        rfl
      · rw [if_neg hk, if_neg hk]
  obtain ⟨r1, r2, r3⟩ := h.update hb hp hput (g3 hr) (o := .cells arr e fz') ⟨g0, g1, g2, arr, fz', rfl, g5, hfz', g7⟩
  exact ⟨_, hw, r1, r2, r3⟩

theorem u8_under {e : TypeId} (h : isU8 P e = true) (w : World) : (underlying e).run P w = .ok (.int .u8) w := run_under (isU8_true h) w

theorem run_convS (h : Rel P base σ m w) {src dst : TypeId} {x x' v : Value} {m' : Mem} (hd : isStr P dst = true) (hx : VRel σ x x') (hc : convS P src x m = some (v, m')) :
    (convert src dst x').run P w = .ok v w ∧ Flat v ∧ m' = m := by
  have hd := isStr_true hd
  unfold convS at hc
  cases hs : vStr x with
  | some s =>
    rw [hs] at hc
    obtain ⟨u, hu, hc⟩ := b_some.1 (show ((undA P src).b fun _ => some (Value.string ⟨⟨s⟩⟩, m)) = some (v, m') from hc)
    replace hu := undA_some hu
    injection hc with hc
    injection hc with h1 h2
    subst h1; subst h2
    have := vStr_some hs; subst this
    rw [hx.string_inv]
    refine ⟨?_, .string _, rfl⟩
    unfold convert; rw [Sem.run_bind, run_under hu, Result.andThen_ok, Sem.run_bind, run_under hd, Result.andThen_ok]
    cases u <;> rfl
  | none =>
    rw [hs] at hc
    obtain ⟨e, he, hc⟩ := b_some.1 (show ((tSlice P src).b fun e => (vSlice x).b fun s => slC s fun a len _ => bC (isU8 P e)
      (oC a (some (Value.string ⟨⟨[]⟩⟩, m)) fun a => Prod.rec (motive := fun _ => Option (Value × Mem)) (fun b o => (m.loadCells b o len).b fun l => (bytesOfCells l).b fun bs => some (.string ⟨⟨bs⟩⟩, m)) (aT a)) none) = some (v, m') from hc)
    obtain ⟨⟨a, len, cap⟩, hs2, hc⟩ := b_some.1 hc
    have := vSlice_some hs2; subst this
    clear hs
    obtain ⟨hu8, hq⟩ := bC_some.1 hc
    clear hc
    have hc := hq
    have hsu := tSlice_some he
    have hrun : ∀ z : Value, (∀ s, z ≠ .string s) → (∀ k n, z ≠ .int k n) → (convert src dst z).run P w = (Conv.bytesToString z).run P w := by
      intro z hz1 hz2
      unfold convert; rw [Sem.run_bind, run_under hsu, Result.andThen_ok, Sem.run_bind, run_under hd, Result.andThen_ok]
      cases z <;> first | (exact absurd rfl (hz1 _)) | (exact absurd rfl (hz2 _ _)) | (simp only [Sem.run_bind, u8_under hu8, Result.andThen_ok])
    cases a with
    | none =>
      injection (show some (Value.string ⟨⟨[]⟩⟩, m) = some (v, m') from hc) with hc
      injection hc with h1 h2
      subst h1; subst h2
      rw [hx.nilSl_inv, hrun _ (by simp) (by simp)]
      exact ⟨rfl, .string _, rfl⟩
    | some a =>
      obtain ⟨b, o, s⟩ := a
      obtain ⟨l, hl, hc⟩ := b_some.1 (show ((m.loadCells b o len).b fun l => (bytesOfCells l).b fun bs => some (Value.string ⟨⟨bs⟩⟩, m)) = some (v, m') from hc)
      obtain ⟨bs, hbs, hc⟩ := b_some.1 hc
      injection hc with hc
      injection hc with h1 h2
      subst h1; subst h2
      obtain ⟨p, hp, rfl, hcase⟩ := hx.slice_inv
      refine ⟨?_, .string _, rfl⟩
      rcases hcase with ⟨_, rfl⟩ | ⟨_, i, c', _, _, _, _, rfl⟩ | ⟨_, rfl, _, a', rfl⟩
      · rw [hrun _ (by simp) (by simp)]
        obtain ⟨l', hr, hl', _⟩ := h.load hl hp
        exact run_bytesToString hbs hl' hr
      · rw [hrun _ (by simp) (by simp)]
        obtain ⟨l', hr, hl', _⟩ := h.load hl hp
        exact run_bytesToString hbs hl' hr
      · rw [hrun _ (by simp) (by simp)]
        obtain ⟨_, _, _, _, _, rfl⟩ := loadCells_some hl
        rw [List.take_zero] at hbs
        exact run_bytesToString (σ := σ) hbs LRel.nil (run_loadCells0 _ _)

theorem run_convB (h : Rel P base σ m w) {src dst e : TypeId} {x x' v : Value} {m' : Mem} (hd : tSlice P dst = some e) (hu8 : isU8 P e = true) (hx : VRel σ x x') (hc : convB P src dst e x m = some (v, m')) :
    ∃ v' w' σ', (convert src dst x').run P w = .ok v' w' ∧ VRel σ' v v' ∧ Rel P base σ' m' w' ∧ Ext σ m σ' m' ∧ Below base w w' := by
  have hd := tSlice_some hd
  unfold convB at hc
  cases hs : vStr x with
  | some s =>
    rw [hs] at hc
    have hc : (fN s.length fun n => bC (Nat.ble n mostLen) ((undA P src).b fun _ => (sizeT P e).b fun k => bC (Nat.beq k 1) ((cellsOfBytes s).b fun l => b2 (m.new (.cells true e l)) fun b m => some (Value.slice (some ⟨b, 0, none⟩) n unk, m)) none) none) = some (v, m') := hc
    rw [fN_eq] at hc
    obtain ⟨hle, hc⟩ := bC_some.1 hc
    obtain ⟨u, hu, hc⟩ := b_some.1 hc
    replace hu := undA_some hu
    obtain ⟨k, hk, hc⟩ := b_some.1 hc
    obtain ⟨hk1, hc⟩ := bC_some.1 hc
    have hk1 := (nbeq _ _).1 hk1; subst hk1
    obtain ⟨l, hl, hc⟩ := b_some.1 hc
    obtain ⟨b, m1, hn, hc⟩ := b2_some.1 hc
    injection hc with hc
    injection hc with h1 h2
    subst h1; subst h2
    have hl := (cellsOfBytes_eq _ _).1 hl
    have := vStr_some hs; subst this
    rw [hx.string_inv]
    obtain ⟨cap, hcap, hr⟩ := run_stringToBytes (P := P) e s w
    have hlen : l.length = s.length := by rw [hl]; simp
    have hsz : ((s.map fun b : UInt8 => Value.int .u8 (.ofNat b.toNat)) ++ List.replicate (cap - s.length) (Value.int .u8 0)).toArray.size = cap := by simp; omega
    obtain ⟨r1, r2, r3⟩ := h.newRow hn (LRel.flat (σ := σ) (l := l) (by rw [hl]; intro v hv; obtain ⟨b, _, rfl⟩ := List.mem_map.1 hv; exact .int _ _)) cap 1 1 (by rw [cellsOf_eq hk])
      (arr := ((s.map fun b : UInt8 => Value.int .u8 (.ofNat b.toNat)) ++ List.replicate (cap - s.length) (Value.int .u8 0)).toArray)
      (by rw [hlen, hl]; simp) (by omega) (by omega) (cap, cap + 1) (.inr ⟨by omega, hu8⟩)
    refine ⟨.slice (some ⟨w.heap.size, 0, none⟩) s.length cap, _, _, ?_, ?_, r1, r2, r3⟩
    · unfold convert; rw [Sem.run_bind, run_under hu, Result.andThen_ok, Sem.run_bind, run_under hd, Result.andThen_ok]
      refine Eq.trans ?_ hr
      cases u <;> simp only [Sem.run_bind, u8_under hu8, Result.andThen_ok]
    · have := VRel.slU (σ := Am.place σ b ⟨w.heap.size, 0, cap, 1, l.length⟩) 0 s.length 0 cap (place_same b _) (by simp) (by simp) (by simp) hcap
      simpa using this
  | none =>
    rw [hs] at hc
    obtain ⟨e1, he1, hc⟩ := b_some.1 (show ((tSlice P src).b fun _ => (vSlice x).b fun s => slC s fun a _ c => bC (Nat.beq c unk) none (a.b fun a => p2 (aT a) fun b _ => (m.row b).b fun r => rowC r fun rw e2 vs =>
      bC rw (bC (Nat.beq src dst) (bC (isU8 P e2) ((m.put b (some (.cells true e2 vs))).b fun m => some (x, m)) none) none) none)) = some (v, m') from hc)
    obtain ⟨⟨a, len, cap⟩, hs2, hc⟩ := b_some.1 hc
    obtain ⟨hunk, hc⟩ := bC_none.1 hc
    have hunk := (nbeqf _ _).1 hunk
    obtain ⟨⟨b, o, s⟩, rfl, hc⟩ := b_some.1 hc
    obtain ⟨⟨rw', e2, vs⟩, hrow, hc⟩ := b_some.1 (show ((m.row b).b fun r => rowC r fun rw e2 vs =>
      bC rw (bC (Nat.beq src dst) (bC (isU8 P e2) ((m.put b (some (.cells true e2 vs))).b fun m => some (x, m)) none) none) none) = some (v, m') from hc)
    obtain ⟨hrw, hc⟩ := bC_some.1 hc
    obtain ⟨hsd, hc⟩ := bC_some.1 hc
    obtain ⟨he2, hc⟩ := bC_some.1 hc
    obtain ⟨m1, hput, hc⟩ := b_some.1 hc
    injection hc with hc
    injection hc with h1 h2
    subst h1; subst h2
    have hsd := (nbeq _ _).1 hsd; subst hsd
    have := vSlice_some hs2; subst this
    obtain ⟨p, hp, rfl, hcase⟩ := hx.slice_inv
    rcases hcase with ⟨_, rfl⟩ | ⟨hu, _⟩ | ⟨hu, _⟩
    · obtain ⟨w', hr, r1, r2, r3⟩ := run_mark h (row_some hrow) hp he2 hrw hput (p.sh + o) none
      refine ⟨_, w', σ, ?_, hx, r1, r3, r2⟩
      unfold convert; rw [Sem.run_bind, run_under hd, Result.andThen_ok, Sem.run_bind, run_under hd, Result.andThen_ok]
      simp only [Sem.run_bind, u8_under hu8, Result.andThen_ok, beq_self_eq_true, hr, Sem.run_pure]
    · exact absurd hu hunk
    · exact absurd hu hunk

theorem sim_convert (h : Rel P base σ m w) {src dst : TypeId} {x : Operand} (ho : o.op = .convert src dst x) {c : Oc} (hx : Ev σ tm ρ x c) (hf : oConv P src dst c tm m = some act) : OpSim P base σ m w ρ o act := by
  obtain ⟨v0, hv0, hf⟩ := b_some.1 hf
  obtain ⟨v, m', hc, rfl⟩ := okVM_some hf
  have hx := hx v0 hv0
  have hex : execOp ρ o = (do pure (.value (← convert src dst (ρ x)))) := by unfold execOp; rw [ho]
  unfold convA at hc
  cases hi : tInt P dst with
  | some k =>
    rw [hi] at hc
    obtain ⟨u, hu, hc⟩ := b_some.1 (show ((undA P src).b fun _ => b2 (vInt v0) fun _ a => (vI k (wrapA k a)).b fun v => some (v, m)) = some (v, m') from hc)
    replace hu := undA_some hu
    obtain ⟨j, a, hva, hc⟩ := b2_some.1 hc
    obtain ⟨v1, hv1, hc⟩ := b_some.1 hc
    injection hc with hc
    injection hc with h1 h2
    subst h1; subst h2
    have := vInt_some hva; subst this
    have hv1 := vI_some hv1
    rw [wrapA_eq] at hv1; subst hv1
    have hxi := hx.int_inv
    refine OpSim.pureV h hex (v' := .int k (k.wrap a)) ?_ (.int _ _)
    rw [hxi]; unfold convert; rw [Sem.run_bind, run_under hu, Result.andThen_ok, Sem.run_bind, run_under (tInt_some hi), Result.andThen_ok]
    cases u <;> rfl
  | none =>
    rw [hi] at hc
    have hc : (bC (isStr P dst) (convS P src v0 m) ((tSlice P dst).b fun e => bC (isU8 P e) (convB P src dst e v0 m) none)) = some (v, m') := hc
    cases hst : isStr P dst with
    | true =>
      rw [hst] at hc
      obtain ⟨r1, r2, rfl⟩ := run_convS h hst hx (show convS P src v0 m = some (v, m') from hc)
      exact OpSim.pureV h hex r1 r2.rel
    | false =>
      rw [hst] at hc
      obtain ⟨e, he, hc⟩ := b_some.1 (show ((tSlice P dst).b fun e => bC (isU8 P e) (convB P src dst e v0 m) none) = some (v, m') from hc)
      obtain ⟨hu8, hc⟩ := bC_some.1 hc
      obtain ⟨v', w', σ', r1, r2, r3, r4, r5⟩ := run_convB h he hu8 hx hc
      exact OpSim.valV hex r1 r2 r3 r4 r5

end
end Go.Am
namespace Go.Am
set_option linter.unusedSectionVars false
variable [Env]
open Go.RowKit (Below)
set_option linter.unusedSimpArgs false
set_option linter.unusedVariables false

section
variable {P : Program} {base : Nat} {σ : Sg} {m : Mem} {w : World} {ρ : Operand → Value} {o : Oper} {tm : Tr Value} {act : Act}

theorem nthU_some {l : List UInt8} {n : Nat} {c : UInt8} (h : nthU l n = some c) : l[n]? = some c := by
  obtain ⟨r, hr, h⟩ := b_some.1 h
  obtain ⟨h1, rfl⟩ := (dropU_eq _ _ _).1 hr
  cases hd : l.drop n with
  | nil => rw [hd] at h; cases h
  | cons d r =>
    rw [hd] at h
    injection h with h; subst h
    have : (l.drop n)[0]? = some d := by rw [hd]; rfl
    rw [List.getElem?_drop] at this
    simpa using this

theorem sim_indexStr (h : Rel P base σ m w) {t : TypeId} {x i : Operand} (ho : o.op = .index t x i) {c d : Oc} (hx : Ev σ tm ρ x c) (hi : Ev σ tm ρ i d) (ht : isStr P t = true)
    (hf : oIndexStr c d tm m = some act) : OpSim P base σ m w ρ o act := by
  obtain ⟨v, hv, hf⟩ := b_some.1 hf
  obtain ⟨iv, hiv, hf⟩ := b_some.1 hf
  obtain ⟨k, j, hj, hf⟩ := b2_some.1 hf
  obtain ⟨s, hs, hf⟩ := b_some.1 hf
  obtain ⟨q, hq, hf⟩ := b_some.1 hf
  obtain ⟨u, hu, hf⟩ := b_some.1 hf
  obtain ⟨r, hr, rfl⟩ := okV_some hf
  have := vI_some hr; subst this
  have hx := hx v hv
  have hi := hi iv hiv
  have := vInt_some hj; subst this
  have := vStr_some hs; subst this
  obtain ⟨rfl, hlt⟩ := inRange_some hq
  have hu := nthU_some hu
  refine OpSim.pureV h (s := Instr.index t (ρ x) (ρ i)) (by unfold execOp; rw [ho]) (v' := .int .u8 (.ofNat u.toNat)) ?_ (.int _ _)
  rw [hx.string_inv, hi.int_inv]
  unfold Instr.index
  simp only [asIntOf, Sem.run_bind, Sem.run_pure, Result.andThen_ok, run_under (isStr_true ht)]
  have : (if 0 ≤ (q : Int) then (⟨⟨s⟩⟩ : ByteArray)[((q : Int)).toNat]? else none) = some u := by
    rw [if_pos (by omega)]
    have h1 : (q : Int).toNat = q := by omega
    rw [h1]
    have hlt' : q < (⟨⟨s⟩⟩ : ByteArray).size := hlt
    rw [getElem?_pos _ q hlt']
    rw [List.getElem?_eq_getElem hlt] at hu
    injection hu with hu
    rw [← hu]; rfl
  rw [this]
  rfl

theorem sim_index (h : Rel P base σ m w) {t : TypeId} {x i : Operand} (ho : o.op = .index t x i) {c d : Oc} (hx : Ev σ tm ρ x c) (hi : Ev σ tm ρ i d) {n size : Nat} {e : TypeId} (ht : tArray P t = some (n, e)) (hs : sizeT P e = some size)
    (hf : oIndex P n e size c d tm m = some act) : OpSim P base σ m w ρ o act := by
  obtain ⟨v, hv, hf⟩ := b_some.1 hf
  obtain ⟨iv, hiv, hf⟩ := b_some.1 hf
  obtain ⟨k, j, hj, hf⟩ := b2_some.1 hf
  obtain ⟨l, hl, hf⟩ := b_some.1 hf
  obtain ⟨q, hq, hf⟩ := b_some.1 hf
  obtain ⟨r, hr, rfl⟩ := okV_some hf
  have hx := hx v hv
  have hi := hi iv hiv
  have := vInt_some hj; subst this
  have := vAgg_some hl; subst this
  obtain ⟨rfl, hlt⟩ := inRange_some hq
  obtain ⟨l', hl', hrel⟩ := hx.agg_inv
  obtain ⟨v', hp, hv'⟩ := run_part hrel hr w
  refine OpSim.pureV h (s := Instr.index t (ρ x) (ρ i)) (by unfold execOp; rw [ho]) (v' := v') ?_ hv'
  rw [hl', hi.int_inv]
  unfold Instr.index
  simp only [asIntOf, Sem.run_bind, Sem.run_pure, Result.andThen_ok, run_under (tArray_some ht)]
  rw [if_pos (by omega), Sem.run_bind, run_size hs, Result.andThen_ok]
  have : (q : Int).toNat * size = Nat.mul q size := by rw [Int.toNat_natCast]; rfl
  rw [this]
  exact hp

theorem wrap_i64 {n : Nat} (h : n ≤ mostLen) : IntKind.i64.wrap (n : Int) = n := by
  have : n ≤ 1000000000 := h
  rw [← wrapN_eq]
  unfold wrapN
  rw [show Nat.ble (halfK .i64) n = false from (nblef _ _).2 (by simp [halfK]; omega)]
  rfl

theorem sim_makeSlice (h : Rel P base σ m w) {t : TypeId} {x y : Operand} (ho : o.op = .makeSlice t x y) {c d : Oc} (hx : Ev σ tm ρ x c) (hy : Ev σ tm ρ y d) {e : TypeId} {size bytes : Nat} {z : List Value} (ht : tSlice P t = some e)
    (hs : sizeT P e = some size) (hb : bytesT P e = some bytes) (hz : zeroT P e = some z) (h0 : size ≠ 0) (hf : oMakeSlice e bytes z c d tm m = some act) : OpSim P base σ m w ρ o act := by
  obtain ⟨lv, hlv, hf⟩ := b_some.1 hf
  obtain ⟨k, l, hl, hf⟩ := b2_some.1 hf
  obtain ⟨cv, hcv, hf⟩ := b_some.1 hf
  obtain ⟨k', q, hq, hf⟩ := b2_some.1 hf
  have hx := hx lv hlv
  have hy := hy cv hcv
  have := vInt_some hl; subst this
  have := vInt_some hq; subst this
  obtain ⟨hle, hf⟩ := bC_some.1 hf
  have hle : 0 ≤ l ∧ l ≤ q := by
    cases h1 : leI (.ofNat 0) l with
    | false => rw [h1] at hle; cases hle
    | true =>
      rw [h1] at hle
      exact ⟨(leI_eq _ _).1 h1, (leI_eq _ _).1 hle⟩
  rw [fN_eq, fN_eq] at hf
  obtain ⟨hmost, hf⟩ := bC_some.1 hf
  have hmost := (nble _ _).1 hmost
  obtain ⟨row, hrow, hf⟩ := b_some.1 hf
  obtain ⟨b, m', hn, hf⟩ := b2_some.1 hf
  injection hf with hf; subst hf
  rw [toN_eq] at hmost hrow
  obtain ⟨ln, rfl⟩ : ∃ n : Nat, l = n := ⟨l.toNat, by omega⟩
  obtain ⟨cn, rfl⟩ : ∃ n : Nat, q = n := ⟨q.toNat, by omega⟩
  have hrow := (repL_eq _ _ _).1 hrow
  obtain ⟨zv, zn, hzv, hzn, hzc, hzl⟩ := zeroT_some hz
  rw [hs] at hzn; injection hzn with hzn; subst hzn
  obtain ⟨ib, hib, hbb⟩ := bytesT_some hb
  simp only [Int.toNat_natCast] at hmost hrow hn
  rw [toN_eq, toN_eq, Int.toNat_natCast, Int.toNat_natCast]
  have hcn : cn ≤ mostLen := Nat.le_trans (Nat.le_mul_of_pos_right _ (by omega)) hmost
  have hln : ln ≤ cn := by omega
  have hml : mostLen = 1000000000 := rfl
  have hbc : bytes * cn ≤ 1000000000 := by
    have : bytes * cn ≤ cn * (bytes + 1) := by rw [Nat.mul_comm]; exact Nat.mul_le_mul_left _ (by omega)
    omega
  have hunk : cn ≠ unk := by unfold unk; omega
  obtain ⟨_, _, _, hflat⟩ := zeroV_some hzv
  have hcl : (cellsL zv) = zv.cells.toList := cellsL_eq zv
  rw [hzc, hcl] at hrow
  rw [hzc, hcl] at hzl
  have hfl : LRel σ zv.cells.toList zv.cells.toList := by have := (hflat.rel (σ := σ)).cells; rw [hcl] at this; exact this
  have hrl : ∀ n, (reps zv.cells.toList n).length = n * size := by
    intro n
    induction n with
    | zero => simp [reps]
    | succ n ih => rw [reps, List.length_append, ih, hzl, Nat.add_mul]; omega
  subst hrow
  obtain ⟨r1, r2, r3⟩ := h.newRow hn (hfl.reps cn) cn size 0 (cellsOf_eq hs).symm (arr := ⟨reps zv.cells.toList cn⟩) (List.take_length ..) (by show cn * size ≤ (reps zv.cells.toList cn).length; rw [hrl]; exact Nat.le_refl _) (by rw [hrl]; exact Nat.le_refl _) (0, 0) (.inl rfl)
  refine OpSim.valV (s := Instr.makeSlice t (ρ x) (ρ y)) (by rw [execOp, ho]) (v' := .slice (some ⟨w.heap.size, 0, none⟩) ln cn) ?_ (.sl 0 ln cn (place_same b _) hunk) r1 r2 r3
  rw [hx.int_inv, hy.int_inv]
  unfold Instr.makeSlice
  rw [Sem.run_bind, run_under (tSlice_some ht), Result.andThen_ok]
  simp only [asInt, asIntOf, Sem.run_bind, Sem.run_pure, Result.andThen_ok, run_info hib, hbb, wrap_i64 hcn, wrap_i64 (Nat.le_trans hln hcn)]
  have hlarge : (decide ((cn : Int) < 0) || decide ((bytes : Int) * (cn : Int) > 2 ^ 48) || decide ((ln : Int) < 0) || decide ((ln : Int) > (cn : Int))) = false := by
    have h1 : ((bytes * cn : Nat) : Int) ≤ 1000000000 := by omega
    rw [Int.natCast_mul] at h1
    simp; omega
  rw [hlarge, if_neg (by decide)]
  simp only [Sem.run_bind, run_askRoom, Result.andThen_ok, run_size hs, Int.toNat_natCast]
  by_cases hc0 : cn = 0
  · subst hc0
    rw [if_pos (Nat.zero_mul _), Nat.zero_mul]
    have hza : (Array.range 0).map (fun i => (#[] : Array Value)[i % (#[] : Array Value).size]!) = ⟨reps zv.cells.toList 0⟩ := by apply Array.ext'; simp [reps]
    rw [Sem.run_bind, Sem.run_pure, Result.andThen_ok, hza]
    rfl
  · have hzs : zv.cells.size = size := by simpa using hzl
    have hza := range_zero zv.cells (by omega) cn
    rw [hzs] at hza
    rw [if_neg (Nat.mul_ne_zero hc0 h0)]
    simp only [Sem.run_bind, run_zero hzv, Result.andThen_ok, Sem.run_pure, hzs, hza]
    rfl

/-- Values that need not be there. -/
def ORel (σ : Sg) (a b : Option Value) : Prop := (a = none ∧ b = none) ∨ ∃ v v', a = some v ∧ b = some v' ∧ VRel σ v v'

theorem optNat_rel {a b : Option Value} {d n : Nat} (h : ORel σ a b) (hn : optNat a d = some n) : (b = none ∧ a = none ∧ n = d) ∨ ∃ k, b = some (.int k (n : Int)) := by
  rcases h with ⟨rfl, rfl⟩ | ⟨v, v', rfl, rfl, hv⟩
  · injection (show some d = some n from hn) with hn
    exact .inl ⟨rfl, rfl, hn.symm⟩
  · obtain ⟨k, x, hx, hn⟩ := b2_some.1 (show (b2 (vInt v) fun _ a => bC (leI (.ofNat 0) a) (fN (toN a) some) none) = some n from hn)
    obtain ⟨hle, hn⟩ := bC_some.1 hn
    have hle : (0 : Int) ≤ x := (leI_eq _ _).1 hle
    rw [fN_eq, toN_eq] at hn
    injection hn with hn2
    have := vInt_some hx; subst this
    exact .inr ⟨k, by rw [hv.int_inv, ← hn2, Int.toNat_of_nonneg hle]⟩

theorem optMax_rel {a b : Option Value} {r : Option Nat} (h : ORel σ a b) (hn : optMax a = some r) : (b = none ∧ a = none ∧ r = none) ∨ ∃ k n, b = some (.int k (n : Nat)) ∧ r = some n ∧ a ≠ none := by
  rcases h with ⟨rfl, rfl⟩ | ⟨v, v', rfl, rfl, hv⟩
  · injection (show some none = some r from hn) with hn
    exact .inl ⟨rfl, rfl, hn.symm⟩
  · obtain ⟨k, x, hx, hn⟩ := b2_some.1 (show (b2 (vInt v) fun _ a => bC (leI (.ofNat 0) a) (fN (toN a) fun n => some (some n)) none) = some r from hn)
    obtain ⟨hle, hn⟩ := bC_some.1 hn
    have hle : (0 : Int) ≤ x := (leI_eq _ _).1 hle
    rw [fN_eq, toN_eq] at hn
    injection hn with hn2
    have := vInt_some hx; subst this
    exact .inr ⟨k, _, by rw [hv.int_inv, Int.toNat_of_nonneg hle], hn2.symm, by simp⟩

theorem run_bound (k : IntKind) {n y : Nat} (h : n ≤ y) (code : BoundsCode) (w : World) : (Instr.sliceBound (.int k (n : Int)) y code).run P w = .ok n w := by
  unfold Instr.sliceBound
  simp only [asIntOf, Sem.run_bind, Sem.run_pure, Result.andThen_ok]
  rw [if_pos (by omega)]
  simp

theorem run_bounds (isSlice : Bool) {len cap l h : Nat} {lo hi mx lo' hi' mx' : Option Value} {mo : Option Nat} (hlo : ORel σ lo lo') (hhi : ORel σ hi hi') (hmx : ORel σ mx mx') (h1 : optNat lo 0 = some l) (h2 : optNat hi len = some h)
    (h3 : optMax mx = some mo) (hok : mx ≠ none → hi ≠ none) (hl : l ≤ h) (hh : h ≤ mo.getD cap) (hm : mo.getD cap ≤ cap) (w : World) : (Instr.sliceBounds isSlice len cap lo' hi' mx').run P w = .ok (l, h, mo.getD cap) w := by
  unfold Instr.sliceBounds
  have a1 : ∀ code (q : Nat), Sem.run P (match lo' with | some v => (do let l ← Instr.sliceBound v h code; pure (l, h, q)) | none => (do let l ← pure 0; pure (l, h, q))) w = .ok (l, h, q) w := by
    intro code q
    rcases optNat_rel hlo h1 with ⟨rfl, _, rfl⟩ | ⟨k, rfl⟩
    · rfl
    · simp only [Sem.run_bind, run_bound k hl _ w, Result.andThen_ok, Sem.run_pure]
  rcases optMax_rel hmx h3 with ⟨rfl, e1, rfl⟩ | ⟨k, n, rfl, rfl, e1⟩
  · simp only [Option.getD_none] at hh ⊢
    rw [Sem.run_bind, Sem.run_pure, Result.andThen_ok]
    rcases optNat_rel hhi h2 with ⟨rfl, e2, rfl⟩ | ⟨k2, rfl⟩
    · simp only [Sem.run_bind, Sem.run_pure, Result.andThen_ok, Option.isSome_none, Bool.false_eq_true, if_false]
      exact a1 _ _
    · simp only [Sem.run_bind, Result.andThen_ok, Option.isSome_none, Bool.false_eq_true, if_false]
      rw [run_bound k2 hh, Result.andThen_ok]
      exact a1 _ _
  · simp only [Option.getD_some] at hh hm ⊢
    rw [Sem.run_bind, run_bound k hm, Result.andThen_ok]
    rcases optNat_rel hhi h2 with ⟨rfl, e2, rfl⟩ | ⟨k2, rfl⟩
    · exact absurd e2 (hok e1)
    · simp only [Sem.run_bind, Result.andThen_ok, Option.isSome_some, if_true]
      rw [run_bound k2 hh, Result.andThen_ok]
      exact a1 _ _

/-- Places, related. -/
def ARel (σ : Sg) (a a' : Option Addr) : Prop := (a = none ∧ a' = none) ∨ ∃ b o p, a = some ⟨b, o, none⟩ ∧ σ b = some p ∧ a' = some ⟨p.blk, p.sh + o, none⟩

theorem mkSliceK_some {a : Option Addr} {l c : Nat} {v : Value} (h : mkSliceK a l c = some v) : v = .slice a l c ∧ c ≠ unk := by
  unfold mkSliceK at h
  rw [fN_eq, fN_eq] at h
  obtain ⟨h1, h⟩ := bC_none.1 h
  injection h with h
  exact ⟨h.symm, by have := (nblef _ _).1 h1; omega⟩
theorem mkSlice_some {a : Option Addr} {l c : Nat} {v : Value} (h : mkSlice a l c = some v) : v = .slice a l c := by
  unfold mkSlice at h
  rw [fN_eq, fN_eq] at h
  injection h with h
  exact h.symm
theorem ARel.slice {a a' : Option Addr} (h : ARel σ a a') (l : Nat) {c : Nat} (hc : c ≠ unk) : VRel σ (.slice a l c) (.slice a' l c) := by
  rcases h with ⟨rfl, rfl⟩ | ⟨b, o, p, rfl, hp, rfl⟩
  · exact .nilSl l c
  · exact .sl o l c hp hc
theorem ARel.add {a a' b : Option Addr} {n : Nat} (h : ARel σ a a') (hb : addA a n = some b) : ARel σ b (a'.map (·.add n)) := by
  rcases h with ⟨rfl, rfl⟩ | ⟨c, o, p, rfl, hp, rfl⟩
  · injection hb with hb
    exact .inl ⟨hb.symm, rfl⟩
  · have hb : (fN (Nat.add o n) fun o => some (some (⟨c, o, none⟩ : Addr))) = some b := hb
    rw [fN_eq] at hb
    injection hb with hb
    exact .inr ⟨c, o + n, p, hb.symm, hp, by simp only [Option.map_some, add_eq, Nat.add_assoc]⟩

theorem sliceA_known {a a' : Option Addr} (ha : ARel σ a a') {size l h cap : Nat} {mo : Option Nat} {v : Value} (hc : cap ≠ unk) (hs : sliceA size a l h mo cap cap = some v) :
    l ≤ h ∧ h ≤ mo.getD cap ∧ mo.getD cap ≤ cap ∧ VRel σ v (.slice (if mo.getD cap = l then a' else a'.map (·.add (l * size))) (h - l) (mo.getD cap - l)) := by
  obtain ⟨h1, hs⟩ := bC_some.1 hs
  have h1 := (nble _ _).1 h1
  cases mo with
  | none =>
    obtain ⟨h2, hs⟩ := bC_some.1 (show bC (Nat.ble h cap) (bC (Nat.beq cap unk) ((addA a (Nat.mul l size)).b fun a => mkSlice a (Nat.sub h l) unk)
          (bC (Nat.beq cap l) (mkSliceK a (Nat.sub h l) (Nat.sub cap l)) ((addA a (Nat.mul l size)).b fun a => mkSliceK a (Nat.sub h l) (Nat.sub cap l)))) none = some v from hs)
    have h2 := (nble _ _).1 h2
    rw [(nbeqf _ _).2 hc] at hs
    have hs : bC (Nat.beq cap l) (mkSliceK a (Nat.sub h l) (Nat.sub cap l)) ((addA a (Nat.mul l size)).b fun a => mkSliceK a (Nat.sub h l) (Nat.sub cap l)) = some v := hs
    refine ⟨h1, h2, Nat.le_refl _, ?_⟩
    rw [bC_eq] at hs
    simp only [Option.getD_none]
    by_cases e : cap = l
    · rw [if_pos ((nbeq _ _).2 e)] at hs
      obtain ⟨rfl, hk⟩ := mkSliceK_some hs
      rw [if_pos e]
      exact ha.slice _ hk
    · rw [if_neg (by rw [(nbeqf _ _).2 e]; decide)] at hs
      obtain ⟨a2, ha2, hs⟩ := b_some.1 hs
      obtain ⟨rfl, hk⟩ := mkSliceK_some hs
      rw [if_neg e]
      exact (ha.add ha2).slice _ hk
  | some m =>
    obtain ⟨h2, hs⟩ := bC_some.1 (show bC (Nat.ble h m) (bC (Nat.ble m cap) (bC (Nat.beq m 0) none (bC (Nat.beq m l) (mkSliceK a (Nat.sub h l) (Nat.sub m l)) ((addA a (Nat.mul l size)).b fun a => mkSliceK a (Nat.sub h l) (Nat.sub m l)))) none) none = some v from hs)
    obtain ⟨h3, hs⟩ := bC_some.1 hs
    obtain ⟨h4, hs⟩ := bC_none.1 hs
    have h2 := (nble _ _).1 h2
    have h3 := (nble _ _).1 h3
    refine ⟨h1, h2, h3, ?_⟩
    rw [bC_eq] at hs
    simp only [Option.getD_some]
    by_cases e : m = l
    · rw [if_pos ((nbeq _ _).2 e)] at hs
      obtain ⟨rfl, hk⟩ := mkSliceK_some hs
      rw [if_pos e]
      exact ha.slice _ hk
    · rw [if_neg (by rw [(nbeqf _ _).2 e]; decide)] at hs
      obtain ⟨a2, ha2, hs⟩ := b_some.1 hs
      obtain ⟨rfl, hk⟩ := mkSliceK_some hs
      rw [if_neg e]
      exact (ha.add ha2).slice _ hk

theorem topOf_unk {a : Option Addr} {size len top : Nat} (ht : topOf P m a size len unk = some top) : ∃ b o s rw' e vs, a = some ⟨b, o, s⟩ ∧ m.get b = some (.cells rw' e vs) ∧ sizeT P e = some size ∧ top = max len ((vs.length - o) / size) := by
  obtain ⟨⟨b, o, s⟩, rfl, ht⟩ := b_some.1 (show (a.b fun a => p2 (aT a) fun b o => (m.row b).b fun r => rowC r fun _ e vs => (sizeT P e).b fun n => bC (Nat.beq n size) (fN (maxN len (Nat.div (Nat.sub vs.length o) size)) some) none) = some top from ht)
  obtain ⟨⟨rw', e, vs⟩, hr, ht⟩ := b_some.1 (show ((m.row b).b fun r => rowC r fun _ e vs => (sizeT P e).b fun n => bC (Nat.beq n size) (fN (maxN len (Nat.div (Nat.sub vs.length o) size)) some) none) = some top from ht)
  obtain ⟨n, hn, ht⟩ := b_some.1 ht
  obtain ⟨he, ht⟩ := bC_some.1 ht
  have := (nbeq _ _).1 he; subst this
  rw [fN_eq, maxN_eq] at ht
  injection ht with ht
  exact ⟨b, o, s, rw', e, vs, rfl, row_some hr, hn, ht.symm⟩

theorem topOf_known {a : Option Addr} {size len cap top : Nat} (hc : cap ≠ unk) (ht : topOf P m a size len cap = some top) : top = cap := by
  unfold topOf at ht
  rw [(nbeqf _ _).2 hc] at ht
  injection ht with ht
  exact ht.symm

/-- How far a slice of a capacity that is not known surely reaches. -/
theorem Rel.top (h : Rel P base σ m w) {b o len size top : Nat} {s : Option Nat} (ht : topOf P m (some ⟨b, o, s⟩) size len unk = some top) {p : Pl} (hp : σ b = some p) {i c' : Nat} (hz : 0 < p.sz) (ho : o = i * p.sz) (hc : c' + i = p.cap) (hl : len ≤ c') :
    p.sz = size ∧ top ≤ c' ∧ len ≤ top := by
  obtain ⟨b', o', s', rw', e, vs, he, hg, hn, rfl⟩ := topOf_unk ht
  injection he with he
  injection he with e1 e2 e3
  subst e1; subst e2
  obtain ⟨g0, g1, g2, _⟩ := h.cells _ _ _ _ hg p hp
  have hsz : p.sz = size := by rw [g0, cellsOf_eq hn]
  refine ⟨hsz, ?_, by omega⟩
  apply Nat.max_le.2 ⟨hl, ?_⟩
  rw [← hsz]
  have : vs.length - o ≤ c' * p.sz := by
    rw [← g1]
    have : p.cap * p.sz = c' * p.sz + i * p.sz := by rw [← hc, Nat.add_mul]
    omega
  exact Nat.div_le_of_le_mul (by rw [Nat.mul_comm]; exact this)

theorem sliceA_slU (hr : Rel P base σ m w) {b o len size top : Nat} (ht : topOf P m (some ⟨b, o, none⟩) size len unk = some top) {p : Pl} (hp : σ b = some p) {i c' : Nat} (hz : 0 < p.sz) (ho : o = i * p.sz) (hc : c' + i = p.cap) (hl : len ≤ c')
    {l h : Nat} {mo : Option Nat} {v : Value} (hs : sliceA size (some ⟨b, o, none⟩) l h mo unk top = some v) :
    l ≤ h ∧ h ≤ mo.getD c' ∧ mo.getD c' ≤ c' ∧ VRel σ v (.slice (if mo.getD c' = l then some ⟨p.blk, p.sh + o, none⟩ else (some (⟨p.blk, p.sh + o, none⟩ : Addr)).map (·.add (l * size))) (h - l) (mo.getD c' - l)) := by
  obtain ⟨hsz, htop, _⟩ := hr.top ht hp hz ho hc hl
  have ha : ARel σ (some ⟨b, o, none⟩) (some ⟨p.blk, p.sh + o, none⟩) := .inr ⟨b, o, p, rfl, hp, rfl⟩
  obtain ⟨h1, hs⟩ := bC_some.1 hs
  have h1 := (nble _ _).1 h1
  cases mo with
  | none =>
    obtain ⟨h2, hs⟩ := bC_some.1 (show bC (Nat.ble h top) (bC (Nat.beq unk unk) ((addA (some ⟨b, o, none⟩) (Nat.mul l size)).b fun a => mkSlice a (Nat.sub h l) unk)
          (bC (Nat.beq unk l) (mkSliceK (some ⟨b, o, none⟩) (Nat.sub h l) (Nat.sub unk l)) ((addA (some ⟨b, o, none⟩) (Nat.mul l size)).b fun a => mkSliceK a (Nat.sub h l) (Nat.sub unk l)))) none = some v from hs)
    have h2 := (nble _ _).1 h2
    rw [(nbeq _ _).2 rfl] at hs
    obtain ⟨a2, ha2, hs⟩ := b_some.1 (show ((addA (some ⟨b, o, none⟩) (Nat.mul l size)).b fun a => mkSlice a (Nat.sub h l) unk) = some v from hs)
    have := mkSlice_some hs; subst this
    have ha2 : (fN (Nat.add o (Nat.mul l size)) fun o => some (some (⟨b, o, none⟩ : Addr))) = some a2 := ha2
    rw [fN_eq] at ha2
    injection ha2 with ha2
    subst ha2
    simp only [Option.getD_none]
    refine ⟨h1, by omega, Nat.le_refl _, ?_⟩
    by_cases e : c' = l
    · rw [if_pos e]
      have : h = l := by omega
      subst this
      subst e
      rw [Nat.sub_self]
      show VRel σ (.slice _ (c' - c') unk) _
      rw [Nat.sub_self]
      refine .slE _ _ hp ?_
      obtain ⟨b', o', s', rw', e, vs, he, hg, hn, _⟩ := topOf_unk ht
      injection he with he
      injection he with e1 e2 e3
      subst e1; subst e2
      obtain ⟨g0, g1, g2, _⟩ := hr.cells _ _ _ _ hg p hp
      have : p.cap * p.sz = c' * p.sz + i * p.sz := by rw [← hc, Nat.add_mul]
      show p.n ≤ o + c' * size
      rw [← hsz]; omega
    · rw [if_neg e]
      simp only [Option.map_some, add_eq, Nat.add_assoc]
      show VRel σ (.slice (some ⟨b, o + l * size, none⟩) (h - l) unk) _
      refine .slU (o + l * size) (h - l) (i + l) (c' - l) hp hz ?_ (by omega) (by omega)
      rw [Nat.add_mul, hsz, ho, hsz]
  | some q =>
    obtain ⟨h2, hs⟩ := bC_some.1 (show bC (Nat.ble h q) (bC (Nat.ble q top) (bC (Nat.beq q 0) none (bC (Nat.beq q l) (mkSliceK (some ⟨b, o, none⟩) (Nat.sub h l) (Nat.sub q l)) ((addA (some ⟨b, o, none⟩) (Nat.mul l size)).b fun a => mkSliceK a (Nat.sub h l) (Nat.sub q l)))) none) none = some v from hs)
    obtain ⟨h3, hs⟩ := bC_some.1 hs
    obtain ⟨h4, hs⟩ := bC_none.1 hs
    have h2 := (nble _ _).1 h2
    have h3 := (nble _ _).1 h3
    simp only [Option.getD_some]
    refine ⟨h1, h2, by omega, ?_⟩
    rw [bC_eq] at hs
    by_cases e : q = l
    · rw [if_pos ((nbeq _ _).2 e)] at hs
      obtain ⟨rfl, hk⟩ := mkSliceK_some hs
      rw [if_pos e]
      exact ha.slice _ hk
    · rw [if_neg (by rw [(nbeqf _ _).2 e]; decide)] at hs
      obtain ⟨a2, ha2, hs⟩ := b_some.1 hs
      obtain ⟨rfl, hk⟩ := mkSliceK_some hs
      rw [if_neg e]
      exact (ha.add ha2).slice _ hk

theorem sliceA_slE (hr : Rel P base σ m w) {b o size top : Nat} (ht : topOf P m (some ⟨b, o, none⟩) size 0 unk = some top) {p : Pl} (hp : σ b = some p) (hn : p.n ≤ o) {a' : Addr}
    {l h : Nat} {mo : Option Nat} {v : Value} (hs : sliceA size (some ⟨b, o, none⟩) l h mo unk top = some v) :
    l = 0 ∧ h = 0 ∧ mo = none ∧ VRel σ v (.slice (some a') 0 0) := by
  obtain ⟨b', o', s', rw', e, vs, he, hg, hn', htop⟩ := topOf_unk ht
  injection he with he
  injection he with e1 e2 e3
  subst e1; subst e2
  obtain ⟨g0, g1, g2, _⟩ := hr.cells _ _ _ _ hg p hp
  have ht0 : top = 0 := by rw [htop, Nat.sub_eq_zero_of_le (by omega)]; simp
  obtain ⟨h1, hs⟩ := bC_some.1 hs
  have h1 := (nble _ _).1 h1
  cases mo with
  | none =>
    obtain ⟨h2, hs⟩ := bC_some.1 (show bC (Nat.ble h top) (bC (Nat.beq unk unk) ((addA (some ⟨b, o, none⟩) (Nat.mul l size)).b fun a => mkSlice a (Nat.sub h l) unk)
          (bC (Nat.beq unk l) (mkSliceK (some ⟨b, o, none⟩) (Nat.sub h l) (Nat.sub unk l)) ((addA (some ⟨b, o, none⟩) (Nat.mul l size)).b fun a => mkSliceK a (Nat.sub h l) (Nat.sub unk l)))) none = some v from hs)
    have h2 := (nble _ _).1 h2
    rw [(nbeq _ _).2 rfl] at hs
    obtain ⟨a2, ha2, hs⟩ := b_some.1 (show ((addA (some ⟨b, o, none⟩) (Nat.mul l size)).b fun a => mkSlice a (Nat.sub h l) unk) = some v from hs)
    have := mkSlice_some hs; subst this
    have ha2 : (fN (Nat.add o (Nat.mul l size)) fun o => some (some (⟨b, o, none⟩ : Addr))) = some a2 := ha2
    rw [fN_eq] at ha2
    injection ha2 with ha2
    subst ha2
    have hh0 : h = 0 := by omega
    have hl0 : l = 0 := by omega
    subst hh0; subst hl0
    refine ⟨rfl, rfl, rfl, ?_⟩
    exact .slE _ _ hp (by show p.n ≤ o + 0 * size; omega)
  | some q =>
    obtain ⟨h2, hs⟩ := bC_some.1 (show bC (Nat.ble h q) (bC (Nat.ble q top) (bC (Nat.beq q 0) none (bC (Nat.beq q l) (mkSliceK (some ⟨b, o, none⟩) (Nat.sub h l) (Nat.sub q l)) ((addA (some ⟨b, o, none⟩) (Nat.mul l size)).b fun a => mkSliceK a (Nat.sub h l) (Nat.sub q l)))) none) none = some v from hs)
    obtain ⟨h3, hs⟩ := bC_some.1 hs
    obtain ⟨h4, hs⟩ := bC_none.1 hs
    have h3 := (nble _ _).1 h3
    have h4 := (nbeqf _ _).1 h4
    omega

theorem evO_rel {lo : Option Operand} {c : Option Oc} (hc : cQ lo = some c) (hx : ∀ x, lo = some x → ∀ d, cO x = some d → Ev σ tm ρ x d) {r : Option Value} (hr : evO c tm = some r) : ORel σ r (lo.map ρ) ∧ (c = none ↔ r = none) := by
  cases lo with
  | none =>
    injection (show some none = some c from hc) with hc; subst hc
    injection (show some none = some r from hr) with hr; subst hr
    exact ⟨.inl ⟨rfl, rfl⟩, by simp⟩
  | some x =>
    obtain ⟨d, hd, hc⟩ := b_some.1 (show ((cO x).b fun x => some (some x)) = some c from hc)
    injection hc with hc; subst hc
    obtain ⟨v, hv, hr⟩ := b_some.1 (show ((d.ev tm).b fun v => some (some v)) = some r from hr)
    injection hr with hr; subst hr
    exact ⟨.inr ⟨v, ρ x, rfl, rfl, hx x rfl d hd v hv⟩, by simp⟩

theorem run_sliceOp (h : Rel P base σ m w) {t : TypeId} {x x' v : Value} (hx : VRel σ x x') {lo hi mx lo' hi' mx' : Option Value} (hlo : ORel σ lo lo') (hhi : ORel σ hi hi') (hmx : ORel σ mx mx') (hok : mx ≠ none → hi ≠ none)
    (hs : sliceOp P t x lo hi mx m = some v) : ∃ v', (Instr.sliceAt t x' lo' hi' mx').run P w = .ok v' w ∧ VRel σ v v' := by
  obtain ⟨l, hl, hs⟩ := b_some.1 hs
  obtain ⟨mo, hm, hs⟩ := b_some.1 hs
  cases hstr : vStr x with
  | some s =>
    rw [hstr] at hs
    have hs : (fN s.length fun n => (optNat hi n).b fun h => bC (isStr P t) (oC mo (bC (Nat.ble l h) ((takeU h s).b fun s => (dropU l s).b fun s => some (Value.string ⟨⟨s⟩⟩)) none) fun _ => none) none) = some v := hs
    rw [fN_eq] at hs
    obtain ⟨q, hq, hs⟩ := b_some.1 hs
    obtain ⟨hstt, hs⟩ := bC_some.1 hs
    cases mo with
    | some _ => cases hs
    | none =>
    obtain ⟨hle, hs⟩ := bC_some.1 (show bC (Nat.ble l q) ((takeU q s).b fun s => (dropU l s).b fun s => some (Value.string ⟨⟨s⟩⟩)) none = some v from hs)
    have hle := (nble _ _).1 hle
    obtain ⟨s1, hs1, hs⟩ := b_some.1 hs
    obtain ⟨s2, hs2, hs⟩ := b_some.1 hs
    injection hs with hs
    subst hs
    obtain ⟨hqs, rfl⟩ := (takeU_eq _ _ _).1 hs1
    obtain ⟨_, rfl⟩ := (dropU_eq _ _ _).1 hs2
    have := vStr_some hstr; subst this
    have e1 : mx' = none ∧ mx = none := by
      rcases optMax_rel hmx hm with ⟨a, b, _⟩ | ⟨_, _, _, hh, _⟩
      · exact ⟨a, b⟩
      · cases hh
    obtain ⟨rfl, rfl⟩ := e1
    refine ⟨_, ?_, .string _⟩
    rw [hx.string_inv]
    unfold Instr.sliceAt
    rw [Sem.run_bind, run_under (isStr_true hstt), Result.andThen_ok]
    simp only []
    unfold Instr.slice
    rw [Sem.run_bind, run_under (isStr_true hstt), Result.andThen_ok]
    simp only []
    have hsz : (⟨⟨s⟩⟩ : ByteArray).size = s.length := rfl
    rw [hsz]
    have hb := run_bounds (P := P) false (cap := s.length) hlo hhi (.inl ⟨rfl, rfl⟩ : ORel σ none none) hl hq (mo := none) rfl (by simp) hle hqs (Nat.le_refl _) w
    simp only [Option.isSome_none, Bool.false_eq_true, if_false]
    rw [Sem.run_bind, hb, Result.andThen_ok]
    simp only []
    rw [Sem.run_pure]
    congr 2
    apply ByteArray.ext
    rw [ByteArray.data_extract]
    apply Array.ext'
    simp [List.drop_take, List.extract_eq_take_drop]
  | none =>
  rw [hstr] at hs
  cases hsl : vSlice x with
  | none =>
    rw [hsl] at hs
    obtain ⟨n, e, ht, hs⟩ := b2_some.1 (show (b2 (tArray P t) fun n e => (vPtr x).b fun a => (optNat hi n).b fun h => (sizeT P e).b fun size => bC (Nat.beq size 0) none (bC (Nat.beq n unk) none (sliceA size (some a) l h mo n n))) = some v from hs)
    obtain ⟨⟨b, o, s⟩, ha, hs⟩ := b_some.1 hs
    obtain ⟨q, hq, hs⟩ := b_some.1 hs
    obtain ⟨size, hsize, hs⟩ := b_some.1 hs
    obtain ⟨_, hs⟩ := bC_none.1 hs
    obtain ⟨hn, hfin⟩ := bC_none.1 hs
    have hn := (nbeqf _ _).1 hn
    have := vPtr_some ha; subst this
    have hss : s = none := by cases hx; rfl
    subst hss
    obtain ⟨p, hp, rfl⟩ := hx.ptr_inv
    obtain ⟨g1, g2, g3, g4⟩ := sliceA_known (.inr ⟨b, o, p, rfl, hp, rfl⟩) hn hfin
    refine ⟨_, ?_, g4⟩
    unfold Instr.sliceAt
    rw [Sem.run_bind, run_under (tArray_some ht), Result.andThen_ok]
    simp only [Instr.sureAddr, Sem.run_bind, Sem.run_pure, Result.andThen_ok]
    rw [run_bounds false hlo hhi hmx hl hq hm hok g1 g2 g3, Result.andThen_ok]
    simp only [Sem.run_bind, run_size hsize, Result.andThen_ok, Sem.run_pure]
    congr 2
    split <;> rfl
  | some sl =>
    obtain ⟨a, len, cap⟩ := sl
    rw [hsl] at hs
    obtain ⟨q, hq, hs⟩ := b_some.1 (show ((optNat hi len).b fun h => (tSlice P t).b fun e => (sizeT P e).b fun size => bC (Nat.beq size 0) none ((topOf P m a size len cap).b fun top => sliceA size a l h mo cap top)) = some v from hs)
    obtain ⟨e, ht, hs⟩ := b_some.1 hs
    obtain ⟨size, hsize, hs⟩ := b_some.1 hs
    obtain ⟨_, hs⟩ := bC_none.1 hs
    obtain ⟨top, htop, hfin⟩ := b_some.1 hs
    have := vSlice_some hsl; subst this
    have hmain : ∀ (a' : Option Addr) (c' : Nat), l ≤ q → q ≤ mo.getD c' → mo.getD c' ≤ c' →
        (Instr.sliceAt t (.slice a' len c') lo' hi' mx').run P w = .ok (.slice (if mo.getD c' = l then a' else a'.map (·.add (l * size))) (q - l) (mo.getD c' - l)) w := by
      intro a' c' g1 g2 g3
      unfold Instr.sliceAt
      rw [Sem.run_bind, run_under (tSlice_some ht), Result.andThen_ok]
      simp only []
      unfold Instr.slice
      rw [Sem.run_bind, run_under (tSlice_some ht), Result.andThen_ok]
      simp only []
      rw [Sem.run_bind, run_bounds true hlo hhi hmx hl hq hm hok g1 g2 g3, Result.andThen_ok]
      simp only [Sem.run_bind, run_size hsize, Result.andThen_ok, Sem.run_pure]
    cases a with
    | none =>
      rw [hx.nilSl_inv]
      by_cases hc : cap = unk
      · subst hc; cases htop
      · have := topOf_known hc htop; subst this
        obtain ⟨g1, g2, g3, g4⟩ := sliceA_known (.inl ⟨rfl, rfl⟩) hc hfin
        exact ⟨_, hmain _ _ g1 g2 g3, g4⟩
    | some a =>
      obtain ⟨b, o, s⟩ := a
      obtain ⟨p, hp, rfl, hcase⟩ := hx.slice_inv
      rcases hcase with ⟨hc, rfl⟩ | ⟨rfl, i, c', hz, ho, hc, hle, rfl⟩ | ⟨rfl, rfl, hn, a', rfl⟩
      · have := topOf_known hc htop; subst this
        obtain ⟨g1, g2, g3, g4⟩ := sliceA_known (.inr ⟨b, o, p, rfl, hp, rfl⟩) hc hfin
        exact ⟨_, hmain _ _ g1 g2 g3, g4⟩
      · obtain ⟨g1, g2, g3, g4⟩ := sliceA_slU h htop hp hz ho hc hle hfin
        exact ⟨_, hmain _ _ g1 g2 g3, g4⟩
      · obtain ⟨rfl, rfl, rfl, g4⟩ := sliceA_slE h htop hp hn (a' := a') hfin
        refine ⟨_, hmain (some a') 0 (Nat.le_refl _) (Nat.le_refl _) (Nat.le_refl _), ?_⟩
        simpa using g4

theorem sim_slice (h : Rel P base σ m w) {t : TypeId} {x : Operand} {lo hi mx : Option Operand} (ho : o.op = .slice t x lo hi mx) {c : Oc} {clo chi cmx : Option Oc} (hx : Ev σ tm ρ x c) (h1 : cQ lo = some clo) (h2 : cQ hi = some chi) (h3 : cQ mx = some cmx)
    (hlo : ∀ x, lo = some x → ∀ d, cO x = some d → Ev σ tm ρ x d) (hhi : ∀ x, hi = some x → ∀ d, cO x = some d → Ev σ tm ρ x d) (hmx : ∀ x, mx = some x → ∀ d, cO x = some d → Ev σ tm ρ x d) (hok : okHi chi cmx = true)
    (hf : oSlice P t c clo chi cmx tm m = some act) : OpSim P base σ m w ρ o act := by
  obtain ⟨v, hv, hf⟩ := b_some.1 hf
  obtain ⟨r1, hr1, hf⟩ := b_some.1 hf
  obtain ⟨r2, hr2, hf⟩ := b_some.1 hf
  obtain ⟨r3, hr3, hf⟩ := b_some.1 hf
  obtain ⟨u, hu, rfl⟩ := okV_some hf
  obtain ⟨g1, _⟩ := evO_rel h1 hlo hr1
  obtain ⟨g2, e2⟩ := evO_rel h2 hhi hr2
  obtain ⟨g3, e3⟩ := evO_rel h3 hmx hr3
  have hok' : r3 ≠ none → r2 ≠ none := by
    intro hne hn
    have := e2.2 hn
    subst this
    cases cmx with
    | none => exact hne (e3.1 rfl)
    | some _ => cases hok
  obtain ⟨v', hr, hv'⟩ := run_sliceOp h (hx v hv) g1 g2 g3 hok' hu
  exact OpSim.pureV h (by rw [execOp, ho]) hr hv'

end
end Go.Am
namespace Go.Am
set_option linter.unusedSectionVars false
variable [Env]
open Go.RowKit (Below)
set_option linter.unusedSimpArgs false
set_option linter.unusedVariables false

section
variable {P : Program} {base : Nat} {σ : Sg} {m : Mem} {w : World} {ρ : Operand → Value} {o : Oper} {tm : Tr Value} {act : Act}

/-- A builtin's call. -/
theorem exec_builtin {c : Call} (ho : o.op = .call c) {b : Builtin} (hc : c.callee = .builtin b) :
    execOp ρ o = builtin b c.argTypes o.type (c.args.map fun | .const _ => true | _ => false) (c.args.map ρ) := by
  obtain ⟨callee, args, tys⟩ := c
  simp only at hc
  subst hc
  unfold execOp
  rw [ho]
  rfl

theorem goN_some {n : Nat} {v : Value} (h : goN n = some v) : v = .int .i64 (.ofNat n) := by
  unfold goN at h
  rw [fN_eq] at h
  injection h with h; exact h.symm

theorem ofMap_some {b c : Nat} {es : List MapEntry} (h : m.ofMap b = some (es, c)) : m.get b = some (.map es c) := by
  obtain ⟨x, hx, h⟩ := b_some.1 h
  cases x with
  | map es' c' => injection h with h; injection h with h1 h2; rw [hx, h1, h2]
  | cells _ _ _ => cases h
  | iter _ _ _ _ => cases h

theorem VRel.map_inv {r : Option Nat} {v' : Value} (h : VRel σ (.map r) v') : (r = none ∧ v' = .map none) ∨ ∃ b p, r = some b ∧ σ b = some p ∧ v' = .map (some p.blk) := by
  cases h with
  | nilMap => exact .inl ⟨rfl, rfl⟩
  | map h => exact .inr ⟨_, _, rfl, h, rfl⟩

theorem run_getMap {b c : Nat} {es : Array MapEntry} (h : w.heap[b]? = some (.map es c)) : (getObj b).run P w = .ok (.map es c) w := by
  simp [getObj, Sem.run, h]

theorem run_len (h : Rel P base σ m w) {tys : Array TypeId} {ty : TypeId} {x x' v : Value} (hx : VRel σ x x') (hl : lenB P tys.toList x m = some v) : ∃ v', (Builtin.len_ tys ty #[x']).run P w = .ok v' w ∧ VRel σ v v' := by
  obtain ⟨t, ht, hl⟩ := b_some.1 hl
  have ht : tys[0]? = some t := by simpa using ht
  unfold Builtin.len_
  rw [ht]
  simp only [List.getElem?_toArray, List.getElem?_cons_zero]
  cases hsl : vSlice x with
  | some s =>
    obtain ⟨a, n, c⟩ := s
    rw [hsl] at hl
    obtain ⟨e, he, hl⟩ := b_some.1 (show ((tSlice P t).b fun _ => goN n) = some v from hl)
    have := goN_some hl; subst this
    have := vSlice_some hsl; subst this
    refine ⟨_, ?_, .int _ _⟩
    rw [Sem.run_bind, run_under (tSlice_some he), Result.andThen_ok]
    have : ∃ a' c', x' = .slice a' n c' := by cases hx <;> exact ⟨_, _, rfl⟩
    obtain ⟨a', c', rfl⟩ := this
    rfl
  | none =>
  rw [hsl] at hl
  cases hst : vStr x with
  | some s =>
    rw [hst] at hl
    obtain ⟨hs, hl⟩ := bC_some.1 (show bC (isStr P t) (goN s.length) none = some v from hl)
    have := goN_some hl; subst this
    have := vStr_some hst; subst this
    refine ⟨_, ?_, .int _ _⟩
    rw [Sem.run_bind, run_under (isStr_true hs), Result.andThen_ok, hx.string_inv]
    rfl
  | none =>
  rw [hst] at hl
  cases hmp : vMap x with
  | some r =>
    rw [hmp] at hl
    obtain ⟨k, e, ht2, hfin⟩ := b2_some.1 (show (b2 (tMap P t) fun _ _ => oC r (goN 0) fun r => b2 (m.ofMap r) fun es _ => goN es.length) = some v from hl)
    have := vMap_some hmp; subst this
    rw [Sem.run_bind, run_under (tMap_some ht2), Result.andThen_ok]
    rcases hx.map_inv with ⟨rfl, rfl⟩ | ⟨b, p, rfl, hp, rfl⟩
    · have := goN_some (show goN 0 = some v from hfin); subst this
      exact ⟨_, rfl, .int _ _⟩
    · obtain ⟨es, c, hes, hl⟩ := b2_some.1 (show (b2 (m.ofMap b) fun es _ => goN es.length) = some v from hfin)
      have := goN_some hl; subst this
      obtain ⟨_, es', hh, he⟩ := h.map b es c (ofMap_some hes) p hp
      refine ⟨_, ?_, .int _ _⟩
      simp only [Sem.run_bind, run_getMap hh, Result.andThen_ok, Sem.run_pure]
      rw [he.1]
      rfl
  | none =>
    rw [hmp] at hl
    cases hnm : nmV x with
    | some nm =>
      rw [hnm] at hl
      obtain ⟨nb, nk⟩ := nm
      obtain ⟨e, he, hl9⟩ := b_some.1 (show ((tSlice P t).b fun _ => (rowNo nk).b fun j => some (.complex .f64 j 3)) = some v from hl)
      clear hl
      have := nmV_some hnm; subst this
      rw [Sem.run_bind, run_under (tSlice_some he), Result.andThen_ok]
      obtain ⟨j, hj, hl9⟩ := b_some.1 hl9
      injection hl9 with hl9; subst hl9
      have hk := rowNo_some hj
      cases hx with
      | nm _ hx =>
      cases hx with
      | flt hk' => simp only at hk'; omega
      | len hk' => simp only at hk'; omega
      | ptr c' hk' => simp only at hk'; omega
      | row j' hk' hp hn hb hc =>
        obtain rfl : j' = j := by simp only at hk'; omega
        exact ⟨_, rfl, .nm _ (.len rfl)⟩
      | nil j' hk' hb =>
        obtain rfl : j' = j := by simp only at hk'; omega
        refine ⟨.int .i64 (Env.bytes j').length, ?_, .nm _ (.len rfl)⟩
        rw [hb]; rfl
    | none =>
    rw [hnm] at hl
    obtain ⟨n, e, hn, hl⟩ := b2_some.1 (show (b2 (oC (tArray P t) ((tPointer P t).b fun arr => tArray P arr) some) fun n _ => goN n) = some v from hl)
    have := goN_some hl; subst this
    refine ⟨_, ?_, .int _ _⟩
    cases hta : tArray P t with
    | some ne =>
      rw [hta] at hn
      injection (show some ne = some (n, e) from hn) with hn; subst hn
      rw [Sem.run_bind, run_under (tArray_some hta), Result.andThen_ok]
      rfl
    | none =>
      rw [hta] at hn
      obtain ⟨arr, har, hn⟩ := b_some.1 (show ((tPointer P t).b fun arr => tArray P arr) = some (n, e) from hn)
      rw [Sem.run_bind, run_under (tPointer_some har), Result.andThen_ok]
      simp only [Sem.run_bind, run_under (tArray_some hn), Result.andThen_ok, Sem.run_pure]
      rfl

theorem sim_len (h : Rel P base σ m w) {cl : Call} (ho : o.op = .call cl) (hc : cl.callee = .builtin .len) {x : Operand} (hargs : cl.args = #[x]) {c : Oc} (hx : Ev σ tm ρ x c) (hf : oLen P cl.argTypes.toList c tm m = some act) : OpSim P base σ m w ρ o act := by
  obtain ⟨v, hv, hf⟩ := b_some.1 hf
  obtain ⟨u, hu, rfl⟩ := okV_some hf
  obtain ⟨u', r1, r2⟩ := run_len h (ty := o.type) (hx v hv) hu
  refine OpSim.pureV h ?_ r1 r2
  have : (#[x] : Array Operand).map ρ = #[ρ x] := by simp
  rw [exec_builtin ho hc, hargs, this]
  rfl

theorem run_min (k : IntKind) : ∀ (l l' : List Value) (x : Int) (v : Value), LRel σ l l' → minL k l x = some v → ∀ w : World, (l'.foldlM Builtin.min2 (.int k x)).run P w = .ok v w ∧ Flat v := by
  intro l
  induction l with
  | nil =>
    intro l' x v hl h w
    rw [hl.nil_inv]
    have := vI_some (show vI k x = some v from h); subst this
    exact ⟨rfl, .int _ _⟩
  | cons y l ih =>
    intro l' x v hl h w
    obtain ⟨y', r', rfl, hy, hr⟩ := hl.head
    obtain ⟨j, a, ha, hfin⟩ := b2_some.1 (show (b2 (vInt y) fun _ a => bC (leI x a) (minL k l x) (minL k l a)) = some v from h)
    have := vInt_some ha; subst this
    rw [hy.int_inv, List.foldlM_cons, Sem.run_bind]
    have : (Builtin.min2 (.int k x) (.int j a)).run P w = .ok (.int k (if a < x then a else x)) w := rfl
    rw [this, Result.andThen_ok]
    rw [bC_eq] at hfin
    by_cases hle : x ≤ a
    · rw [if_pos ((leI_eq _ _).2 hle)] at hfin
      rw [if_neg (by omega)]
      exact ih _ _ _ hr hfin w
    · rw [if_neg (by rw [leI_eq]; exact hle)] at hfin
      rw [if_pos (by omega)]
      exact ih _ _ _ hr hfin w

theorem run_max (k : IntKind) : ∀ (l l' : List Value) (x : Int) (v : Value), LRel σ l l' → maxL k l x = some v → ∀ w : World, (l'.foldlM Builtin.max2 (.int k x)).run P w = .ok v w ∧ Flat v := by
  intro l
  induction l with
  | nil =>
    intro l' x v hl h w
    rw [hl.nil_inv]
    have := vI_some (show vI k x = some v from h); subst this
    exact ⟨rfl, .int _ _⟩
  | cons y l ih =>
    intro l' x v hl h w
    obtain ⟨y', r', rfl, hy, hr⟩ := hl.head
    obtain ⟨j, a, ha, hfin⟩ := b2_some.1 (show (b2 (vInt y) fun _ a => bC (leI a x) (maxL k l x) (maxL k l a)) = some v from h)
    have := vInt_some ha; subst this
    rw [hy.int_inv, List.foldlM_cons, Sem.run_bind]
    have : (Builtin.max2 (.int k x) (.int j a)).run P w = .ok (.int k (if a > x then a else x)) w := rfl
    rw [this, Result.andThen_ok]
    rw [bC_eq] at hfin
    by_cases hle : a ≤ x
    · rw [if_pos ((leI_eq _ _).2 hle)] at hfin
      rw [if_neg (by omega)]
      exact ih _ _ _ hr hfin w
    · rw [if_neg (by rw [leI_eq]; exact hle)] at hfin
      rw [if_pos (by omega)]
      exact ih _ _ _ hr hfin w

theorem uncons_some {l : List Value} {x : Value} {r : List Value} (h : uncons l = some (x, r)) : l = x :: r := by
  cases l with
  | nil => cases h
  | cons y l => injection h with h; injection h with h1 h2; rw [h1, h2]

theorem sim_min (h : Rel P base σ m w) {cl : Call} (ho : o.op = .call cl) (hc : cl.callee = .builtin .min) {cs : List Oc} (hcs : cL cl.args.toList = some cs) (hx : ∀ x ∈ cl.args.toList, ∀ c, cO x = some c → Ev σ tm ρ x c)
    (hf : oMin cs tm m = some act) : OpSim P base σ m w ρ o act := by
  obtain ⟨l, hl, hf⟩ := b_some.1 hf
  obtain ⟨x, r, hxr, hf⟩ := b2_some.1 hf
  obtain ⟨k, a, ha, hf⟩ := b2_some.1 hf
  obtain ⟨u, hu, rfl⟩ := okV_some hf
  have := uncons_some hxr; subst this
  have := vInt_some ha; subst this
  obtain ⟨x', r', he, hx', hr'⟩ := (evL_rel _ _ hcs hx _ hl).head
  rw [hx'.int_inv] at he
  obtain ⟨g1, g2⟩ := run_min (P := P) k r r' a u hr' hu w
  refine OpSim.pureV h (s := Builtin.min_ cl.argTypes o.type (cl.args.map ρ)) (by rw [exec_builtin ho hc]; rfl) ?_ g2.rel
  unfold Builtin.min_
  rw [Array.toList_map, he]
  exact g1

theorem sim_max (h : Rel P base σ m w) {cl : Call} (ho : o.op = .call cl) (hc : cl.callee = .builtin .max) {cs : List Oc} (hcs : cL cl.args.toList = some cs) (hx : ∀ x ∈ cl.args.toList, ∀ c, cO x = some c → Ev σ tm ρ x c)
    (hf : oMax cs tm m = some act) : OpSim P base σ m w ρ o act := by
  obtain ⟨l, hl, hf⟩ := b_some.1 hf
  obtain ⟨x, r, hxr, hf⟩ := b2_some.1 hf
  obtain ⟨k, a, ha, hf⟩ := b2_some.1 hf
  obtain ⟨u, hu, rfl⟩ := okV_some hf
  have := uncons_some hxr; subst this
  have := vInt_some ha; subst this
  obtain ⟨x', r', he, hx', hr'⟩ := (evL_rel _ _ hcs hx _ hl).head
  rw [hx'.int_inv] at he
  obtain ⟨g1, g2⟩ := run_max (P := P) k r r' a u hr' hu w
  refine OpSim.pureV h (s := Builtin.max_ cl.argTypes o.type (cl.args.map ρ)) (by rw [exec_builtin ho hc]; rfl) ?_ g2.rel
  unfold Builtin.max_
  rw [Array.toList_map, he]
  exact g1

theorem sim_callV {cl : Call} (ho : o.op = .call cl) {f : Operand} (hc : cl.callee = .value f) {cf : Oc} (hfe : Ev σ tm ρ f cf) {cs : List Oc} (hcs : cL cl.args.toList = some cs) (hx : ∀ x ∈ cl.args.toList, ∀ c, cO x = some c → Ev σ tm ρ x c)
    (hf : oCallV cf cs tm m = some act) : OpSim P base σ m w ρ o act := by
  obtain ⟨v, hv, hf⟩ := b_some.1 hf
  obtain ⟨⟨g, first, cap⟩, hg, hf⟩ := b_some.1 hf
  obtain ⟨l, hl, hf⟩ := b_some.1 (show ((evL cs tm).b fun as => (appL as cap).b fun as => (appL first as).b fun as => some (Act.call g as)) = some act from hf)
  obtain ⟨l2, hl2, hf⟩ := b_some.1 hf
  obtain ⟨l3, hl3, hf⟩ := b_some.1 hf
  injection hf with hf
  subst hf
  have := (appL_eq _ _ _).1 hl2; subst this
  have := (appL_eq _ _ _).1 hl3; subst this
  have := vFn_some hg; subst this
  obtain ⟨a', b', he, ha, hb⟩ := (hfe _ hv).func_inv
  have hl := evL_rel _ _ hcs hx _ hl
  refine ⟨a' ++ (cl.args.toList.map ρ ++ b'), ?_, ha.append (hl.append hb)⟩
  obtain ⟨callee, args, tys⟩ := cl
  simp only at hc
  subst hc
  unfold execOp
  rw [ho]
  simp only [resolve, Deferred.ofValue, he]
  rw [Sem.run_bind, Sem.run_pure, Result.andThen_ok]
  have : (⟨a'⟩ : Array Value) ++ args.map ρ ++ (⟨b'⟩ : Array Value) = ⟨a' ++ (args.toList.map ρ ++ b')⟩ := by
    apply Array.ext'; simp
  simp only [invoke, this]

end
end Go.Am
namespace Go.Am
set_option linter.unusedSectionVars false
variable [Env]
open Go.RowKit (Below)
set_option linter.unusedSimpArgs false
set_option linter.unusedVariables false

section
variable {P : Program} {base : Nat} {σ : Sg} {m : Mem} {w : World} {ρ : Operand → Value} {o : Oper} {tm : Tr Value} {act : Act}

theorem first_relK (h : Rel P base σ m w) {size n : Nat} {x x' : Value} {l : List Value} (hx : VRel σ x x') (hf : firstA size n x m = some l) :
    ∃ l', (∀ k, (Builtin.firstCells size n x').run P { w with drawn := k } = .ok ⟨l'⟩ { w with drawn := k }) ∧ LRel σ l l' ∧ l.length = n * size := by
  unfold firstA at hf
  cases hsl : vSlice x with
  | none =>
    rw [hsl] at hf
    obtain ⟨s, hs, hf⟩ := b_some.1 (show ((vStr x).b fun s => bC (Nat.beq size 1) ((cellsOfBytes s).b (takeL n)) none) = some l from hf)
    obtain ⟨h1, hf⟩ := bC_some.1 hf
    have := (nbeq _ _).1 h1; subst this
    obtain ⟨c, hc, hf⟩ := b_some.1 hf
    obtain ⟨hle, rfl⟩ := (takeL_eq _ _ _).1 hf
    have := (cellsOfBytes_eq _ _).1 hc
    subst this
    have := vStr_some hs; subst this
    rw [hx.string_inv]
    refine ⟨_, ?_, LRel.flat (by intro v hv; have hv := List.mem_of_mem_take hv; obtain ⟨b, _, rfl⟩ := List.mem_map.1 hv; exact .int _ _), ?_⟩
    · intro k
      show Result.ok _ { w with drawn := k } = _
      congr 1
      apply Array.ext'
      simp [ByteArray.data_extract, List.extract_eq_take_drop]
    · simp at hle ⊢; omega
  | some s =>
    obtain ⟨a, len, cap⟩ := s
    have := vSlice_some hsl; subst this
    cases a with
    | none =>
      obtain ⟨h0, hf⟩ := bC_some.1 (show bC (Nat.beq n 0) (some []) none = some l from hf)
      have := (nbeq _ _).1 h0; subst this
      injection hf with hf; subst hf
      rw [hx.nilSl_inv]
      exact ⟨[], fun k => rfl, .nil, by simp⟩
    | some a =>
      obtain ⟨b, q, s⟩ := a
      have hf : m.loadCells b q (n * size) = some l := hf
      obtain ⟨p, hp, rfl, hcase⟩ := hx.slice_inv
      rcases hcase with ⟨_, rfl⟩ | ⟨_, i, c', _, _, _, _, rfl⟩ | ⟨_, rfl, hn, a', rfl⟩
      · exact h.loadK hf hp
      · exact h.loadK hf hp
      · obtain ⟨rw', e, vs, hg, hlen, rfl⟩ := loadCells_some hf
        obtain ⟨_, g1, _⟩ := h.cells _ _ _ _ hg p hp
        have h0 : n * size = 0 := by omega
        refine ⟨[], ?_, ?_, ?_⟩
        · intro k
          show (loadCells a' (n * size)).run P { w with drawn := k } = _
          rw [h0]; exact run_loadCells0 _ _
        · rw [h0, List.take_zero]; exact .nil
        · rw [h0]; simp

theorem first_rel (h : Rel P base σ m w) {size n : Nat} {x x' : Value} {l : List Value} (hx : VRel σ x x') (hf : firstA size n x m = some l) :
    ∃ l', (Builtin.firstCells size n x').run P w = .ok ⟨l'⟩ w ∧ LRel σ l l' ∧ l.length = n * size := by
  obtain ⟨l', h1, h2⟩ := first_relK h hx hf
  exact ⟨l', h1 w.drawn, h2⟩

theorem len_rel {x x' : Value} {n : Nat} (hx : VRel σ x x') (hn : lenA x = some n) (w : World) : (Builtin.lenOf x').run P w = .ok n w := by
  unfold lenA at hn
  cases hsl : vSlice x with
  | none =>
    rw [hsl] at hn
    obtain ⟨s, hs, hn⟩ := b_some.1 (show ((vStr x).b fun s => fN s.length some) = some n from hn)
    rw [fN_eq] at hn
    injection hn with hn; subst hn
    have := vStr_some hs; subst this
    rw [hx.string_inv]
    rfl
  | some s =>
    obtain ⟨a, len, cap⟩ := s
    rw [hsl] at hn
    injection hn with hn; subst hn
    have := vSlice_some hsl; subst this
    have : ∃ a' c', x' = .slice a' len c' := by cases hx <;> exact ⟨_, _, rfl⟩
    obtain ⟨a', c', rfl⟩ := this
    rfl

theorem run_copy (h : Rel P base σ m w) {tys : Array TypeId} {ty : TypeId} {d d' s s' v : Value} {m' : Mem} (hd : VRel σ d d') (hs : VRel σ s s') (hc : copyA P tys.toList d s m = some (v, m')) :
    ∃ v' w', (Builtin.copy_ tys ty #[d', s']).run P w = .ok v' w' ∧ VRel σ v v' ∧ Rel P base σ m' w' ∧ Ext σ m σ m' ∧ Below base w w' := by
  obtain ⟨dt, hdt, hc⟩ := b_some.1 hc
  obtain ⟨e, he, hc⟩ := b_some.1 hc
  obtain ⟨⟨a, len, cap⟩, hsl, hc⟩ := b_some.1 hc
  obtain ⟨sn, hsn, hc⟩ := b_some.1 (show ((lenA s).b fun sl => (sizeT P e).b fun size =>
    fN (minN sl len) fun n => (firstA size n s m).b fun l =>
      oC a (some (Value.int .i64 (.ofNat n), m))
        (fun a => Prod.rec (motive := fun _ => Option (Value × Mem)) (fun b o => bC (Nat.beq n 0) (some (.int .i64 (.ofNat n), m)) ((m.storeCells b o l).b fun m' => some (.int .i64 (.ofNat n), m'))) (aT a))) = some (v, m') from hc)
  obtain ⟨size, hsz, hc⟩ := b_some.1 hc
  rw [fN_eq, minN_eq] at hc
  obtain ⟨l, hl, hfin⟩ := b_some.1 hc
  clear hc
  have := vSlice_some hsl; subst this
  obtain ⟨l', hr, hlr, hlen⟩ := first_rel h hs hl
  have hdt : tys[0]? = some dt := by simpa using hdt
  have hstart : ∀ (a' : Option Addr) (c' : Nat), (Builtin.copy_ tys ty #[.slice a' len c', s']).run P w =
      (Sem.run P (match a' with | some a => storeCells a l' | none => pure ()) w).andThen fun _ w' => .ok (goInt (min sn len : Nat)) w' := by
    intro a' c'
    unfold Builtin.copy_
    rw [hdt]
    simp only [List.getElem?_toArray, List.getElem?_cons_zero, List.getElem?_cons_succ, Sem.run_bind, run_under (tSlice_some he), Result.andThen_ok, len_rel hs hsn, run_size hsz]
    rw [show Nat.min sn len = min sn len from rfl, hr]
    cases a' with
    | none => rfl
    | some a' =>
      simp only [Result.andThen_ok, Sem.run_bind]
      rfl
  cases a with
  | none =>
    injection (show some (Value.int .i64 (.ofNat (min sn len)), m) = some (v, m') from hfin) with hfin
    injection hfin with h1 h2
    subst h1; subst h2
    rw [hd.nilSl_inv, hstart]
    exact ⟨_, w, rfl, .int _ _, h, Ext.refl _ _, Below.refl _ _⟩
  | some a =>
    obtain ⟨b, q, st⟩ := a
    have hfin : bC (Nat.beq (min sn len) 0) (some (Value.int .i64 (.ofNat (min sn len)), m)) ((m.storeCells b q l).b fun m' => some (.int .i64 (.ofNat (min sn len)), m')) = some (v, m') := hfin
    obtain ⟨p, hp, rfl, hcase⟩ := hd.slice_inv
    obtain ⟨a', c', hd', ha'⟩ : ∃ a' c', d' = .slice (some a') len c' ∧ (a' = ⟨p.blk, p.sh + q, none⟩ ∨ len = 0) := by
      rcases hcase with ⟨_, rfl⟩ | ⟨_, i, c', _, _, _, _, rfl⟩ | ⟨_, rfl, hn, a', rfl⟩
      · exact ⟨_, _, rfl, .inl rfl⟩
      · exact ⟨_, _, rfl, .inl rfl⟩
      · exact ⟨_, _, rfl, .inr rfl⟩
    subst hd'
    rw [hstart]
    by_cases h0 : min sn len = 0
    · rw [(nbeq _ _).2 h0] at hfin
      injection hfin with hfin
      injection hfin with h1 h2
      subst h1; subst h2
      have : l' = [] := by
        have := hlr.1
        rw [hlen, h0, Nat.zero_mul] at this
        exact List.length_eq_zero_iff.1 this.symm
      subst this
      exact ⟨_, w, rfl, .int _ _, h, Ext.refl _ _, Below.refl _ _⟩
    · rw [(nbeqf _ _).2 h0] at hfin
      obtain ⟨m1, hst, hfin⟩ := b_some.1 (show ((m.storeCells b q l).b fun m' => some (Value.int .i64 (.ofNat (min sn len)), m')) = some (v, m') from hfin)
      injection hfin with hfin
      injection hfin with h1 h2
      subst h1; subst h2
      rcases ha' with rfl | h00
      · obtain ⟨w', hr', r1, r2, r3⟩ := h.store hst hp hlr
        refine ⟨_, w', ?_, .int _ _, r1, r2, r3⟩
        simp only [hr', Result.andThen_ok]
        rfl
      · omega

theorem two'_some {l : List Oc} {a b : Oc} (h : two' l = some (a, b)) : l = [a, b] := by
  match l with
  | [] => cases h
  | [_] => cases h
  | [x, y] => injection h with h; injection h with h1 h2; rw [h1, h2]
  | _ :: _ :: _ :: _ => cases h

theorem one'_some {l : List Oc} {a : Oc} (h : one' l = some a) : l = [a] := by
  match l with
  | [] => cases h
  | [x] => injection h with h; rw [h]
  | _ :: _ :: _ => cases h

theorem cL_two {l : List Operand} {a b : Oc} (h : cL l = some [a, b]) : ∃ x y, l = [x, y] ∧ cO x = some a ∧ cO y = some b := by
  match l with
  | [] => cases h
  | x :: l =>
    obtain ⟨c, hc, h⟩ := b_some.1 (show ((cO x).b fun x => (cL l).b fun r => some (x :: r)) = some [a, b] from h)
    obtain ⟨r, hr, h⟩ := b_some.1 h
    injection h with h
    injection h with h1 h2
    subst h1; subst h2
    match l with
    | [] => cases hr
    | y :: l =>
      obtain ⟨c, hc2, h⟩ := b_some.1 (show ((cO y).b fun x => (cL l).b fun r => some (x :: r)) = some [b] from hr)
      obtain ⟨r, hr, h⟩ := b_some.1 h
      injection h with h
      injection h with h1 h2
      subst h1; subst h2
      match l with
      | [] => exact ⟨x, y, rfl, hc, hc2⟩
      | z :: l =>
        obtain ⟨c, hc2, h⟩ := b_some.1 (show ((cO z).b fun x => (cL l).b fun r => some (x :: r)) = some [] from hr)
        obtain ⟨r, hr, h⟩ := b_some.1 h
        cases h

theorem cL_one {l : List Operand} {a : Oc} (h : cL l = some [a]) : ∃ x, l = [x] ∧ cO x = some a := by
  match l with
  | [] => cases h
  | x :: l =>
    obtain ⟨c, hc, h⟩ := b_some.1 (show ((cO x).b fun x => (cL l).b fun r => some (x :: r)) = some [a] from h)
    obtain ⟨r, hr, h⟩ := b_some.1 h
    injection h with h
    injection h with h1 h2
    subst h1; subst h2
    match l with
    | [] => exact ⟨x, rfl, hc⟩
    | z :: l =>
      obtain ⟨c, hc2, h⟩ := b_some.1 (show ((cO z).b fun x => (cL l).b fun r => some (x :: r)) = some [] from hr)
      obtain ⟨r, hr, h⟩ := b_some.1 h
      cases h

theorem sim_copy (h : Rel P base σ m w) {cl : Call} (ho : o.op = .call cl) (hc : cl.callee = .builtin .copy) {x y : Operand} (hargs : cl.args = #[x, y]) {c d : Oc} (hx : Ev σ tm ρ x c) (hy : Ev σ tm ρ y d)
    (hf : oCopy P cl.argTypes.toList c d tm m = some act) : OpSim P base σ m w ρ o act := by
  obtain ⟨v, hv, hf⟩ := b_some.1 hf
  obtain ⟨u, hu, hf⟩ := b_some.1 hf
  obtain ⟨r, m', hr, rfl⟩ := okVM_some hf
  obtain ⟨v', w', r1, r2, r3, r4, r5⟩ := run_copy h (ty := o.type) (hx v hv) (hy u hu) hr
  refine OpSim.valV ?_ r1 r2 r3 r4 r5
  have : (#[x, y] : Array Operand).map ρ = #[ρ x, ρ y] := by simp
  rw [exec_builtin ho hc, hargs, this]
  rfl

theorem run_clear (h : Rel P base σ m w) {tys : Array TypeId} {ty : TypeId} {x x' : Value} {m' : Mem} (hx : VRel σ x x') (hc : clearA P tys.toList x m = some m') :
    ∃ w', (Builtin.clear_ tys ty #[x']).run P w = .ok (.tuple #[]) w' ∧ Rel P base σ m' w' ∧ Ext σ m σ m' ∧ Below base w w' := by
  obtain ⟨t, ht, hc⟩ := b_some.1 hc
  obtain ⟨e, he, hc⟩ := b_some.1 hc
  obtain ⟨⟨a, len, cap⟩, hsl, hc⟩ := b_some.1 hc
  have := vSlice_some hsl; subst this
  have ht : tys[0]? = some t := by simpa using ht
  cases a with
  | none =>
    injection (show some m = some m' from hc) with hc; subst hc
    refine ⟨w, ?_, h, Ext.refl _ _, Below.refl _ _⟩
    rw [hx.nilSl_inv]
    unfold Builtin.clear_
    rw [ht]
    simp only [List.getElem?_toArray, List.getElem?_cons_zero, Sem.run_bind, run_under (tSlice_some he), Result.andThen_ok]
    rfl
  | some a =>
    obtain ⟨b, q, st⟩ := a
    have hfin : bC (Nat.beq len 0) (some m) ((zeroT P e).b fun z => bC (Nat.beq z.length 0) none ((repL z len).b fun l => m.storeCells b q l)) = some m' := hc
    clear hc
    obtain ⟨p, hp, rfl, hcase⟩ := hx.slice_inv
    obtain ⟨a', c', hd', ha'⟩ : ∃ a' c', x' = .slice (some a') len c' ∧ (a' = ⟨p.blk, p.sh + q, none⟩ ∨ len = 0) := by
      rcases hcase with ⟨_, rfl⟩ | ⟨_, i, c', _, _, _, _, rfl⟩ | ⟨_, rfl, hn, a', rfl⟩
      · exact ⟨_, _, rfl, .inl rfl⟩
      · exact ⟨_, _, rfl, .inl rfl⟩
      · exact ⟨_, _, rfl, .inr rfl⟩
    subst hd'
    by_cases h0 : len = 0
    · rw [(nbeq _ _).2 h0] at hfin
      injection hfin with hfin; subst hfin
      subst h0
      refine ⟨w, ?_, h, Ext.refl _ _, Below.refl _ _⟩
      unfold Builtin.clear_
      rw [ht]
      simp only [List.getElem?_toArray, List.getElem?_cons_zero, Sem.run_bind, run_under (tSlice_some he), Result.andThen_ok]
      rfl
    · rw [(nbeqf _ _).2 h0] at hfin
      obtain ⟨z, hz, hfin⟩ := b_some.1 (show ((zeroT P e).b fun z => bC (Nat.beq z.length 0) none ((repL z len).b fun l => m.storeCells b q l)) = some m' from hfin)
      obtain ⟨hnz, hfin⟩ := bC_none.1 hfin
      obtain ⟨l, hl, hst⟩ := b_some.1 hfin
      have hl := (repL_eq _ _ _).1 hl; subst hl
      obtain ⟨zv, n, hzv, hzn, rfl, hzl⟩ := zeroT_some hz
      obtain ⟨_, _, _, hfl⟩ := zeroV_some hzv
      rcases ha' with rfl | h00
      · have hflz : LRel σ (cellsL zv) zv.cells.toList := (Flat.rel hfl).cells
        obtain ⟨w', hr', r1, r2, r3⟩ := h.store hst hp (hflz.reps len)
        refine ⟨w', ?_, r1, r2, r3⟩
        obtain ⟨k, rfl⟩ : ∃ k, len = k + 1 := ⟨len - 1, by omega⟩
        unfold Builtin.clear_
        rw [ht]
        simp only [List.getElem?_toArray, List.getElem?_cons_zero, Sem.run_bind, run_under (tSlice_some he), Result.andThen_ok, run_zero hzv]
        have hsz : zv.cells.size ≠ 0 := by
          have h1 := (nbeqf _ _).1 hnz
          rw [cellsL_eq] at h1; simpa using h1
        have hza : Builtin.zeroCells zv.cells (k + 1) = ⟨reps zv.cells.toList (k + 1)⟩ := range_zero zv.cells hsz (k + 1)
        rw [hza]
        simp only [Sem.run_bind, hr', Result.andThen_ok]
        rfl
      · exact absurd h00 h0

theorem sim_clear (h : Rel P base σ m w) {cl : Call} (ho : o.op = .call cl) (hc : cl.callee = .builtin .clear) {x : Operand} (hargs : cl.args = #[x]) {c : Oc} (hx : Ev σ tm ρ x c)
    (hf : oClear P cl.argTypes.toList c tm m = some act) : OpSim P base σ m w ρ o act := by
  obtain ⟨v, hv, hf⟩ := b_some.1 hf
  obtain ⟨m', hr, rfl⟩ := okM_some hf
  obtain ⟨w', r1, r3, r4, r5⟩ := run_clear h (ty := o.type) (hx v hv) hr
  refine OpSim.valV ?_ r1 (LRel.tuple .nil) r3 r4 r5
  have : (#[x] : Array Operand).map ρ = #[ρ x] := by simp
  rw [exec_builtin ho hc, hargs, this]
  rfl

end
end Go.Am
