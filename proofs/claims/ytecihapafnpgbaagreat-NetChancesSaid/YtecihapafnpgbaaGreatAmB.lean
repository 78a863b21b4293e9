/- The abstract machine, part 6: cells read and written; what a type is. · The abstract machine, part 7: the operations, first half. · The abstract machine, part 8: the operations that only compute, and those that make a block. · The abstract machine, part 9: numbers. · The abstract machine, part 10: equality of plain values. · The abstract machine, part 11: operators, structs and arrays built, conversions, slices. -/
import Derived.Test.YtecihapafnpgbaaGreatAmA
import Derived.ChangeKeysEq
import Derived.Laws.StructEq
set_option linter.unusedSimpArgs false
set_option linter.unusedVariables false
set_option linter.constructorNameAsVariable false
set_option linter.unusedSectionVars false
namespace Go.Am
set_option linter.unusedSectionVars false
variable [Env]
open Go.RowKit (Below)
set_option linter.unusedSimpArgs false
set_option linter.unusedVariables false

theorem isFlat_flat : ∀ (n : Nat) (v : Value), isFlat n v = true → Flat v := by
  intro n
  induction n with
  | zero => intro v h; simp [isFlat] at h
  | succ n ih =>
    intro v h
    cases v with
    | bool b => exact .bool b
    | int k n => exact .int k n
    | float k n => exact .float k n
    | string s => exact .string s
    | pointer a => cases a with
      | none => exact .nilPtr
      | some a => simp [isFlat] at h
    | slice a l c => cases a with
      | none => exact .nilSl l c
      | some a => simp [isFlat] at h
    | map a => cases a with
      | none => exact .nilMap
      | some a => simp [isFlat] at h
    | nilFunc => exact .nilFunc
    | nilIface => exact .nilIface
    | iface t v => exact .iface t (ih v (by simpa [isFlat] using h))
    | agg c => obtain ⟨l⟩ := c; exact .agg fun v hv => ih v (by simp [isFlat] at h; exact h v hv)
    | tuple c => obtain ⟨l⟩ := c; exact .tuple fun v hv => ih v (by simp [isFlat] at h; exact h v hv)
    | complex _ _ _ => simp [isFlat] at h
    | chan _ => simp [isFlat] at h
    | func _ _ _ => simp [isFlat] at h

section
variable {P : Program} {base : Nat} {σ : Sg} {m : Mem} {w : World}

/-! Types. -/
theorem run_under {t : TypeId} {d : TypeDesc} (h : P.underlying t = some d) (w : World) : (underlying t).run P w = .ok d w := by
  simp [underlying, program, Sem.run, h]
theorem run_info {t : TypeId} {i : TypeInfo} (h : P.info? t = some i) (w : World) : (typeInfo t).run P w = .ok i w := by
  simp [typeInfo, program, Sem.run, h]
theorem infoA_some {t : TypeId} {i : TypeInfo} (h : infoA P t = some i) : P.info? t = some i := by
  unfold infoA at h
  have h1 := treeOr_get _ h
  have h2 : P.types[t]? = some i := by simpa using h1
  have h3 : t < P.types.size := (Array.getElem?_eq_some_iff.1 h2).1
  unfold Tables.info?
  rw [if_pos h3]; exact h2
theorem undA_some {t : TypeId} {d : TypeDesc} (h : undA P t = some d) : P.underlying t = some d := by
  obtain ⟨i, hi, h⟩ := b_some.1 h
  have hi := infoA_some hi
  unfold Program.underlying
  rw [hi]
  obtain ⟨desc, str, size, bytes, hp, al, fa, zero, comp, meth⟩ := i
  cases desc with
  | named n u =>
    obtain ⟨j, hj, h⟩ := b_some.1 (show ((infoA P u).b fun j => some j.desc) = some d from h)
    injection h with h
    simp only [infoA_some hj, Option.map_some, h]
  | _ =>
    injection h with h
    subst h
    rfl
theorem sizeT_some {t : TypeId} {n : Nat} (h : sizeT P t = some n) : ∃ i, P.info? t = some i ∧ i.size = n := by
  obtain ⟨i, hi, h⟩ := b_some.1 h
  replace hi := infoA_some hi
  rw [fN_eq] at h; injection h with h
  exact ⟨i, hi, h⟩
theorem bytesT_some {t : TypeId} {n : Nat} (h : bytesT P t = some n) : ∃ i, P.info? t = some i ∧ i.bytes = n := by
  obtain ⟨i, hi, h⟩ := b_some.1 h
  replace hi := infoA_some hi
  rw [fN_eq] at h; injection h with h
  exact ⟨i, hi, h⟩
theorem run_size {t : TypeId} {n : Nat} (h : sizeT P t = some n) (w : World) : (sizeOf t).run P w = .ok n w := by
  obtain ⟨i, hi, rfl⟩ := sizeT_some h
  simp [sizeOf, run_info hi]
theorem isAggT_some {t : TypeId} {g : Bool} (h : isAggT P t = some g) : ∃ d, P.underlying t = some d ∧ dAgg d = g := by
  obtain ⟨d, hd, h⟩ := b_some.1 h
  rw [fB_eq] at h; injection h with h
  exact ⟨d, undA_some hd, h⟩
theorem run_isAgg {t : TypeId} {g : Bool} (h : isAggT P t = some g) (w : World) : (isAgg t).run P w = .ok g w := by
  obtain ⟨d, hd, rfl⟩ := isAggT_some h
  unfold isAgg
  rw [Sem.run_bind, run_under hd, Result.andThen_ok]
  cases d <;> rfl
theorem zeroV_some {t : TypeId} {z : Value} (h : zeroV P t = some z) : ∃ i, P.info? t = some i ∧ i.zero = some z ∧ Flat z := by
  obtain ⟨i, hi, h⟩ := b_some.1 h
  replace hi := infoA_some hi
  obtain ⟨z', hz, h⟩ := b_some.1 h
  obtain ⟨hf, h⟩ := bC_some.1 h
  injection h with h; subst h
  exact ⟨i, hi, hz, isFlat_flat _ _ hf⟩
theorem run_zero {t : TypeId} {z : Value} (h : zeroV P t = some z) (w : World) : (zeroValue t).run P w = .ok z w := by
  obtain ⟨i, hi, hz, _⟩ := zeroV_some h
  unfold zeroValue
  rw [Sem.run_bind, run_info hi, Result.andThen_ok, hz]
  rfl
theorem zeroT_some {t : TypeId} {l : List Value} (h : zeroT P t = some l) : ∃ z n, zeroV P t = some z ∧ sizeT P t = some n ∧ l = cellsL z ∧ l.length = n := by
  obtain ⟨z, hz, h⟩ := b_some.1 h
  obtain ⟨n, hn, h⟩ := b_some.1 h
  obtain ⟨hb, h⟩ := bC_some.1 h
  injection h with h
  exact ⟨z, n, hz, hn, h.symm, by rw [← h]; exact (nbeq _ _).1 hb⟩

theorem dSlice_some {d : TypeDesc} {e : TypeId} (h : dSlice d = some e) : d = .slice e := by cases d <;> simp [dSlice] at h; rw [h]
theorem dPointer_some {d : TypeDesc} {e : TypeId} (h : dPointer d = some e) : d = .pointer e := by cases d <;> simp [dPointer] at h; rw [h]
theorem dArray_some {d : TypeDesc} {n : Nat} {e : TypeId} (h : dArray d = some (n, e)) : d = .array n e := by cases d <;> simp [dArray] at h; rw [h.1, h.2]
theorem dMap_some {d : TypeDesc} {k e : TypeId} (h : dMap d = some (k, e)) : d = .map k e := by cases d <;> simp [dMap] at h; rw [h.1, h.2]
theorem dStruct_some {d : TypeDesc} {fs : List Field} (h : dStruct d = some fs) : d = .struct ⟨fs⟩ := by
  cases d <;> simp [dStruct] at h
  rename_i a; obtain ⟨l⟩ := a; simp at h; rw [h]
theorem dInt_some {d : TypeDesc} {k : IntKind} (h : dInt d = some k) : d = .int k := by cases d <;> simp [dInt] at h; rw [h]
theorem dString_true {d : TypeDesc} (h : dString d = true) : d = .string := by cases d <;> simp [dString] at h; rfl

theorem tSlice_some {t e : TypeId} (h : tSlice P t = some e) : P.underlying t = some (.slice e) := by
  obtain ⟨d, hd, h⟩ := b_some.1 h; rw [undA_some hd, dSlice_some h]
theorem tPointer_some {t e : TypeId} (h : tPointer P t = some e) : P.underlying t = some (.pointer e) := by
  obtain ⟨d, hd, h⟩ := b_some.1 h; rw [undA_some hd, dPointer_some h]
theorem tArray_some {t : TypeId} {n : Nat} {e : TypeId} (h : tArray P t = some (n, e)) : P.underlying t = some (.array n e) := by
  obtain ⟨d, hd, h⟩ := b_some.1 h; rw [undA_some hd, dArray_some h]
theorem tMap_some {t k e : TypeId} (h : tMap P t = some (k, e)) : P.underlying t = some (.map k e) := by
  obtain ⟨d, hd, h⟩ := b_some.1 h; rw [undA_some hd, dMap_some h]
theorem tStruct_some {t : TypeId} {fs : List Field} (h : tStruct P t = some fs) : P.underlying t = some (.struct ⟨fs⟩) := by
  obtain ⟨d, hd, h⟩ := b_some.1 h; rw [undA_some hd, dStruct_some h]
theorem tInt_some {t : TypeId} {k : IntKind} (h : tInt P t = some k) : P.underlying t = some (.int k) := by
  obtain ⟨d, hd, h⟩ := b_some.1 h; rw [undA_some hd, dInt_some h]
theorem isU8_true {t : TypeId} (h : isU8 P t = true) : P.underlying t = some (.int .u8) := by
  unfold isU8 at h
  cases ht : tInt P t with
  | none => rw [ht] at h; cases h
  | some k => rw [ht] at h; rw [tInt_some ht, (eqK_eq _ _).1 h]
theorem isStr_true {t : TypeId} (h : isStr P t = true) : P.underlying t = some .string := by
  unfold isStr at h
  cases ht : undA P t with
  | none => rw [ht] at h; cases h
  | some d => rw [ht] at h; rw [undA_some ht, dString_true h]
theorem fieldT_some {t : TypeId} {f off : Nat} {ty : TypeId} {n : Nat} (h : fieldT P t f = some (.mk off ty n)) :
    ∃ fs x, P.underlying t = some (.struct ⟨fs⟩) ∧ fs[f]? = some x ∧ x.offset = off ∧ x.type = ty ∧ sizeT P ty = some n := by
  obtain ⟨fs, hfs, h⟩ := b_some.1 h
  obtain ⟨x, hx, h⟩ := b_some.1 h
  obtain ⟨k, hk, h⟩ := b_some.1 h
  rw [fN_eq, fN_eq] at h
  injection h with h
  injection h with h1 h2 h3
  exact ⟨fs, x, tStruct_some hfs, hx, h1, h2, by rw [← h2, ← h3]; exact hk⟩

/-! Values. -/
theorem vInt_some {v : Value} {k : IntKind} {n : Int} (h : vInt v = some (k, n)) : v = .int k n := by
  cases v <;> first | (injection h with h; injection h with h1 h2; rw [h1, h2]) | cases h
theorem vAt_some {v : Value} {b o : Nat} (h : vAt v = some (b, o)) : ∃ s, v = .pointer (some ⟨b, o, s⟩) := by
  cases v <;> try (cases h; done)
  rename_i a
  cases a with
  | none => cases h
  | some a => obtain ⟨b', o', s⟩ := a; injection h with h; injection h with h1 h2; exact ⟨s, by rw [h1, h2]⟩
theorem vPtr_some {v : Value} {a : Addr} (h : vPtr v = some a) : v = .pointer (some a) := by
  cases v <;> first | (change _ = some a at h; rename_i x; change x = some a at h; rw [h]) | cases h
theorem vSlice_some {v : Value} {a : Option Addr} {l c : Nat} (h : vSlice v = some (.mk a l c)) : v = .slice a l c := by
  cases v <;> first | (injection h with h; injection h with h1 h2 h3; rw [h1, h2, h3]) | cases h
theorem vAgg_some {v : Value} {l : List Value} (h : vAgg v = some l) : v = .agg ⟨l⟩ := by
  cases v <;> try (cases h; done)
  rename_i a; obtain ⟨l'⟩ := a; injection h with h; rw [h]
theorem vTup_some {v : Value} {l : List Value} (h : vTup v = some l) : v = .tuple ⟨l⟩ := by
  cases v <;> try (cases h; done)
  rename_i a; obtain ⟨l'⟩ := a; injection h with h; rw [h]
theorem vBool_some {v : Value} {b : Bool} (h : vBool v = some b) : v = .bool b := by
  cases v <;> first | (injection h with h; rw [h]) | cases h
theorem vStr_some {v : Value} {s : List UInt8} (h : vStr v = some s) : v = .string ⟨⟨s⟩⟩ := by
  cases v <;> try (cases h; done)
  rename_i a; obtain ⟨⟨l'⟩⟩ := a; injection h with h; rw [h]
theorem nmV_some {v : Value} {x : Nat × Nat} (h : nmV v = some x) : v = .complex .f64 x.1 x.2 := by
  cases v <;> try (cases h; done)
  rename_i k a b
  cases k
  · cases h
  · injection h with h; subst h; rfl
theorem vMap_some {v : Value} {r : Option Nat} (h : vMap v = some r) : v = .map r := by
  cases v <;> first | (injection h with h; rw [h]) | cases h
theorem vFn_some {v : Value} {f : FuncId} {a b : List Value} (h : vFn v = some (.mk f a b)) : v = .func (.func f) ⟨a⟩ ⟨b⟩ := by
  cases v <;> try (cases h; done)
  rename_i fn x y
  obtain ⟨x⟩ := x; obtain ⟨y⟩ := y
  cases fn <;> first | (injection h with h; injection h with h1 h2 h3; rw [h1, h2, h3]) | cases h
theorem cellsL_eq (v : Value) : cellsL v = v.cells.toList := by
  cases v <;> try rfl
theorem isIface_true {v : Value} (h : isIface v = true) : ∃ t x, v = .iface t x := by
  cases v <;> first | exact ⟨_, _, rfl⟩ | cases h

theorem VRel.agg_inv {l : List Value} {v' : Value} (h : VRel σ (.agg ⟨l⟩) v') : ∃ l', v' = .agg ⟨l'⟩ ∧ LRel σ l l' := by cases h with | agg h1 h2 => exact ⟨_, rfl, h1, h2⟩
theorem VRel.tuple_inv {l : List Value} {v' : Value} (h : VRel σ (.tuple ⟨l⟩) v') : ∃ l', v' = .tuple ⟨l'⟩ ∧ LRel σ l l' := by cases h with | tuple h1 h2 => exact ⟨_, rfl, h1, h2⟩
theorem VRel.ptr_inv {b o : Nat} {s : Option Nat} {v' : Value} (h : VRel σ (.pointer (some ⟨b, o, s⟩)) v') : ∃ p, σ b = some p ∧ v' = .pointer (some ⟨p.blk, p.sh + o, none⟩) := by cases h with | ptr o h => exact ⟨_, h, rfl⟩
theorem LRel.agg {l l' : List Value} (h : LRel σ l l') : VRel σ (.agg ⟨l⟩) (.agg ⟨l'⟩) := .agg h.1 h.2
theorem LRel.tuple {l l' : List Value} (h : LRel σ l l') : VRel σ (.tuple ⟨l⟩) (.tuple ⟨l'⟩) := .tuple h.1 h.2
/-- The cells of related values are related. -/
theorem VRel.cells {v v' : Value} (h : VRel σ v v') : LRel σ (cellsL v) v'.cells.toList := by
  cases h with
  | agg h1 h2 => exact ⟨h1, h2⟩
  | bool b => exact .cons (.bool b) .nil
  | int k n => exact .cons (.int k n) .nil
  | float k n => exact .cons (.float k n) .nil
  | string s => exact .cons (.string s) .nil
  | nilPtr => exact .cons .nilPtr .nil
  | ptr o h => exact .cons (.ptr o h) .nil
  | nilSl l c => exact .cons (.nilSl l c) .nil
  | sl o l c h hc => exact .cons (.sl o l c h hc) .nil
  | slU o l i c' h hz ho hc hl => exact .cons (.slU o l i c' h hz ho hc hl) .nil
  | slE o a' h hn => exact .cons (.slE o a' h hn) .nil
  | nilMap => exact .cons .nilMap .nil
  | map h => exact .cons (.map h) .nil
  | func f h1 h2 h3 h4 => exact .cons (.func f h1 h2 h3 h4) .nil
  | nilFunc => exact .cons .nilFunc .nil
  | nilIface => exact .cons .nilIface .nil
  | iface t h => exact .cons (.iface t h) .nil
  | tuple h1 h2 => exact .cons (.tuple h1 h2) .nil
  | nm b h => cases h with
    | flt hk => exact .cons (.nm b (.flt hk)) .nil
    | len hk => exact .cons (.nm b (.len hk)) .nil
    | row j hk h hn hb hc => exact .cons (.nm b (.row j hk h hn hb hc)) .nil
    | nil j hk hb a c hc => exact .cons (.nm b (.nil j hk hb a c hc)) .nil
    | ptr c hk h hn h0 => exact .cons (.nm b (.ptr c hk h hn h0)) .nil
theorem VRel.cellOk {v v' : Value} (h : VRel σ v v') (hc : cellOk v = true) : cellOk v' = true := by
  cases h with
  | nm b h => cases h <;> rfl
  | agg => cases hc
  | tuple => cases hc
  | _ => rfl
theorem rowNo_some {k j : Nat} (h : rowNo k = some j) : k = 16 + 2 * j := by
  obtain ⟨h1, h⟩ := bC_some.1 (show bC (Nat.ble 16 k) (fN (Nat.sub k 16) fun d => bC (Nat.beq (Nat.mod d 2) 0) (fN (Nat.div d 2) fun j => some j) none) none = some j from h)
  rw [fN_eq] at h
  obtain ⟨h2, h⟩ := bC_some.1 h
  rw [fN_eq] at h
  injection h with h
  have h1 := Nat.le_of_ble_eq_true h1
  have h2 := Nat.eq_of_beq_eq_true h2
  have e1 : Nat.sub k 16 = k - 16 := rfl
  have e2 : Nat.mod (Nat.sub k 16) 2 = (k - 16) % 2 := rfl
  have e3 : Nat.div (Nat.sub k 16) 2 = (k - 16) / 2 := rfl
  omega
theorem firstK_some {j c : Nat} (h : firstK j = some c) : rowIp j = true ∧ (c = 5 ∧ rowFst j = 69 ∨ c = 6 ∧ rowFst j = 96) := by
  unfold firstK at h
  unfold rowIp rowFst
  cases h1 : Nat.beq (Nat.mod j 4) 1 with
  | true => rw [h1] at h; injection h with h; subst h; exact ⟨rfl, .inl ⟨rfl, rfl⟩⟩
  | false =>
    rw [h1] at h
    cases h2 : Nat.beq (Nat.mod j 4) 2 with
    | true => rw [h2] at h; injection h with h; subst h; exact ⟨rfl, .inr ⟨rfl, rfl⟩⟩
    | false => rw [h2] at h; cases h

/-! Cells read. -/
theorem cell_of {w : World} {b o : Nat} {arr : Array Value} {e : TypeId} {fz : Nat × Nat} (h : w.heap[b]? = some (.cells arr e fz)) : w.cell? ⟨b, o, none⟩ = arr[o]? := by
  simp [World.cell?, h]

theorem add_eq (b o n : Nat) : (⟨b, o, none⟩ : Addr).add n = ⟨b, o + n, none⟩ := by
  unfold Addr.add; split <;> simp_all

theorem row_some {m : Mem} {b : Nat} {rw' : Bool} {e : TypeId} {vs : List Value} (h : m.row b = some (.mk rw' e vs)) : m.get b = some (.cells rw' e vs) := by
  obtain ⟨x, hx, h⟩ := b_some.1 h
  cases x with
  | cells a e' l => injection h with h; injection h with h1 h2 h3; rw [hx, h1, h2, h3]
  | map _ _ => cases h
  | iter _ _ _ _ => cases h

theorem loadCells_some {m : Mem} {b o n : Nat} {l : List Value} (h : m.loadCells b o n = some l) : ∃ rw' e vs, m.get b = some (.cells rw' e vs) ∧ o + n ≤ vs.length ∧ l = (vs.drop o).take n := by
  obtain ⟨r, hr, h⟩ := b_some.1 h
  obtain ⟨a, e, vs⟩ := r
  obtain ⟨h1, h2⟩ := (sub_eq _ _ _ _).1 h
  exact ⟨a, e, vs, row_some hr, h1, h2⟩

theorem Rel.loadK (h : Rel P base σ m w) {b o n : Nat} {l : List Value} (hl : m.loadCells b o n = some l) {p : Pl} (hp : σ b = some p) :
    ∃ l', (∀ k, (loadCells ⟨p.blk, p.sh + o, none⟩ n).run P { w with drawn := k } = .ok ⟨l'⟩ { w with drawn := k }) ∧ LRel σ l l' ∧ l.length = n := by
  obtain ⟨a, e, vs, hb, hlen, rfl⟩ := loadCells_some hl
  obtain ⟨_, h1, _, _, arr, fz, h4, _, _, h7⟩ := h.cells b a e vs hb p hp
  have hsz : ∀ i, i < vs.length → p.sh + i < arr.size := by
    intro i hi
    obtain ⟨v', hv', _⟩ := h7 i vs[i] (List.getElem?_eq_getElem hi)
    exact (Array.getElem?_eq_some_iff.1 hv').1
  have hln : ((vs.drop o).take n).length = n := by simp; omega
  refine ⟨(arr.toList.drop (p.sh + o)).take n, ?_, ⟨?_, ?_⟩, hln⟩
  · intro k
    have hlen' : ((arr.toList.drop (p.sh + o)).take n).length = n := by
      simp
      rcases Nat.eq_zero_or_pos n with rfl | hn
      · simp
      · have := hsz (o + n - 1) (by omega); omega
    have := run_loadCells_list (P := P) { w with drawn := k } ⟨p.blk, p.sh + o, none⟩ ((arr.toList.drop (p.sh + o)).take n) (fun j v hv => by
      rw [add_eq, cell_of (w := { w with drawn := k }) h4]
      rw [List.getElem?_take] at hv
      split at hv
      · rw [List.getElem?_drop] at hv; simpa using hv
      · cases hv)
    rw [hlen'] at this
    exact this
  · rw [hln]
    simp
    rcases Nat.eq_zero_or_pos n with rfl | hn
    · simp
    · have := hsz (o + n - 1) (by omega); omega
  · intro i v v' hv hv'
    rw [List.getElem?_take] at hv hv'
    split at hv
    · rename_i hi
      rw [if_pos hi] at hv'
      rw [List.getElem?_drop] at hv hv'
      obtain ⟨u, hu, hr⟩ := h7 (o + i) v hv
      have : arr[p.sh + (o + i)]? = some v' := by rw [← Nat.add_assoc]; simpa using hv'
      rw [hu] at this
      injection this with this
      rw [← this]; exact hr
    · cases hv

theorem Rel.load (h : Rel P base σ m w) {b o n : Nat} {l : List Value} (hl : m.loadCells b o n = some l) {p : Pl} (hp : σ b = some p) :
    ∃ l', (loadCells ⟨p.blk, p.sh + o, none⟩ n).run P w = .ok ⟨l'⟩ w ∧ LRel σ l l' ∧ l.length = n := by
  obtain ⟨l', h1, h2⟩ := h.loadK hl hp
  exact ⟨l', h1 w.drawn, h2⟩

/-! Cells written. -/
/-- The world with a row of cells anew. -/
def setArr (w : World) (b : Nat) (o : Obj) : World := { w with heap := w.heap.setIfInBounds b o }

theorem setArr_get {w : World} {b : Nat} {o : Obj} (hb : b < w.heap.size) (k : Nat) : (setArr w b o).heap[k]? = if k = b then some o else w.heap[k]? := by
  simp only [setArr]
  rw [Array.getElem?_setIfInBounds]
  by_cases e : b = k
  · subst e; rw [if_pos rfl, if_pos rfl, if_pos hb]
  · rw [if_neg e, if_neg (by omega)]

theorem set_splice (l : List Value) (v : Value) (vs : List Value) (n : Nat) (hn : n < l.length) :
    (l.set n v).take (n + 1) ++ vs ++ (l.set n v).drop (n + 1 + vs.length) = l.take n ++ (v :: vs) ++ l.drop (n + (vs.length + 1)) := by
  have hs : l.set n v = (l.take n ++ [v]) ++ l.drop (n + 1) := by
    rw [List.set_eq_take_append_cons_drop, if_pos hn]; simp
  have hl : (l.take n ++ [v]).length = n + 1 := by simp; omega
  rw [hs, List.take_append_of_le_length (by omega), List.take_of_length_le (by omega), List.drop_append, hl]
  rw [List.drop_eq_nil_of_le (by omega)]
  simp
  omega
theorem run_storeCells {e : TypeId} {fz : Nat × Nat} {b o : Nat} : ∀ (vs : List Value) (i : Nat) (arr : Array Value) (w : World), w.heap[b]? = some (.cells arr e fz) →
    (∀ k, k < arr.size → ¬(fz.1 ≤ k ∧ k < fz.2)) → (∀ v ∈ vs, cellOk v = true) → o + i + vs.length ≤ arr.size →
    (storeCells ⟨b, o, none⟩ vs i).run P w = .ok () (setArr w b (.cells (arr.toList.take (o + i) ++ vs ++ arr.toList.drop (o + i + vs.length)).toArray e fz)) := by
  intro vs
  induction vs with
  | nil =>
    intro i arr w hb _ _ _
    have hlt := (Array.getElem?_eq_some_iff.1 hb).1
    show Result.ok () w = _
    congr 1
    have : setArr w b (.cells arr e fz) = w := by
      unfold setArr
      have : w.heap.setIfInBounds b (.cells arr e fz) = w.heap := by
        apply Array.ext_getElem?
        intro k
        rw [Array.getElem?_setIfInBounds]
        split
        · rename_i e'; subst e'; rw [hb]
        · rfl
      rw [this]
    simp [this]
  | cons v vs ih =>
    intro i arr w hb hfz hok hlen
    have hlt := (Array.getElem?_eq_some_iff.1 hb).1
    simp at hlen
    have hc : w.cell? ⟨b, o + i, none⟩ = some arr[o + i] := by rw [cell_of hb]; exact Array.getElem?_eq_getElem (by omega)
    have hfr : w.frozen? ⟨b, o + i, none⟩ = false := by
      simp only [World.frozen?, hb]
      have := hfz (o + i) (by omega)
      simp only [Bool.and_eq_false_iff, decide_eq_false_iff_not]
      omega
    have hv : Sem.run P (Go.store ⟨b, o + i, none⟩ v) w = .ok () (setArr w b (.cells (arr.set (o + i) v (by omega)) e fz)) := by
      have hset : w.setCell ⟨b, o + i, none⟩ v = setArr w b (.cells (arr.set (o + i) v (by omega)) e fz) := by
        unfold World.setCell setArr
        congr 1
        apply Array.ext_getElem?
        intro k
        rw [Array.getElem?_modify, Array.getElem?_setIfInBounds]
        split
        · rename_i e'
          have e2 : b = k := e'
          subst e2
          show Option.map _ w.heap[b]? = _
          rw [hb]
          simp [Array.setIfInBounds, show o + i < arr.size from by omega]
        · rfl
      rw [← hset]
      have hk := hok v (by simp)
      cases v <;> first | (simp [Go.store, Sem.run, hc, hfr]; done) | cases hk
    unfold storeCells
    rw [add_eq, Sem.run_bind, hv, Result.andThen_ok]
    have hb' : (setArr w b (.cells (arr.set (o + i) v (by omega)) e fz)).heap[b]? = some (.cells (arr.set (o + i) v (by omega)) e fz) := by
      rw [setArr_get hlt, if_pos rfl]
    rw [ih (i + 1) _ _ hb' (by simpa using hfz) (fun u hu => hok u (by simp [hu])) (by simp; omega)]
    congr 1
    unfold setArr
    congr 1
    simp only [Array.setIfInBounds_setIfInBounds]
    congr 2
    congr 1
    have := set_splice arr.toList v vs (o + i) (by simpa using (show o + i < arr.size by omega))
    simpa [Nat.add_assoc] using this

end
end Go.Am
namespace Go.Am
set_option linter.unusedSectionVars false
variable [Env]
open Go.RowKit (Below)
set_option linter.unusedSimpArgs false
set_option linter.unusedVariables false

section
variable {P : Program} {base : Nat} {σ : Sg} {m : Mem} {w : World}

theorem below_setArr {b : Nat} {o : Obj} (hb : base ≤ b) (hl : b < w.heap.size) : Below base w (setArr w b o) :=
  ⟨rfl, rfl, rfl, by simp [setArr], fun k hk => by rw [setArr_get hl, if_neg (by omega)]⟩

/-- The content of a block anew. -/
theorem Rel.update (h : Rel P base σ m w) {b : Nat} {x y : Blk} {p : Pl} {o : Obj} {m' : Mem} (hb : m.get b = some x) (hp : σ b = some p) (hput : m.put b (some y) = some m')
    (hbase : base ≤ p.blk) (ho : ObjRel P base σ y p o) : Rel P base σ m' (setArr w p.blk o) ∧ Below base w (setArr w p.blk o) ∧ Ext σ m σ m' := by
  obtain ⟨hn, hg⟩ := Mem.put_some hput
  have hl := h.live hb hp
  have hother : ∀ c z q, m'.get c = some z → σ c = some q → c ≠ b → m.get c = some z ∧ (setArr w p.blk o).heap[q.blk]? = w.heap[q.blk]? := by
    intro c z q hc hq hne
    rw [hg, if_neg hne] at hc
    refine ⟨hc, ?_⟩
    rw [setArr_get hl, if_neg]
    exact fun e => hne (h.inj c b z x q p hc hb hq hp e)
  have hsame : ∀ z, m'.get b = some z → z = y := fun z hz => by rw [hg, if_pos rfl] at hz; injection hz with hz; exact hz.symm
  have hnew : (setArr w p.blk o).heap[p.blk]? = some o := by rw [setArr_get hl, if_pos rfl]
  refine ⟨⟨?_, ?_, ?_, ?_, ?_, ?_, fun c q hq hn => ?_⟩, below_setArr hbase hl, Sub.refl σ, by omega, fun c hc hs => ⟨hs, ?_⟩⟩
  · intro c rw e vs hc q hq
    by_cases hcb : c = b
    · subst hcb
      rw [hp] at hq; injection hq with hq; subst hq
      have := hsame _ hc; subst this
      obtain ⟨h0, h1, h2, arr, fz, rfl, h3, h4, h5⟩ := ho
      exact ⟨h0, h1, h2, fun _ => hbase, arr, fz, hnew, h3, h4, h5⟩
    · obtain ⟨hc', he⟩ := hother c _ q hc hq hcb
      obtain ⟨h0, h1, h2, h3, arr, fz, h4, h5⟩ := h.cells c rw e vs hc' q hq
      exact ⟨h0, h1, h2, h3, arr, fz, by rw [he]; exact h4, h5⟩
  · intro c es k hc q hq
    by_cases hcb : c = b
    · subst hcb
      rw [hp] at hq; injection hq with hq; subst hq
      have := hsame _ hc; subst this
      obtain ⟨es', rfl, h1⟩ := ho
      exact ⟨hbase, es', hnew, h1⟩
    · obtain ⟨hc', he⟩ := hother c _ q hc hq hcb
      obtain ⟨h1, es', h2, h3⟩ := h.map c es k hc' q hq
      exact ⟨h1, es', by rw [he]; exact h2, h3⟩
  · intro c r a s t hc q hq
    by_cases hcb : c = b
    · subst hcb
      rw [hp] at hq; injection hq with hq; subst hq
      have := hsame _ hc; subst this
      obtain ⟨h0, r', h1, rfl⟩ := ho
      exact ⟨h0, hbase, r', h1, hnew⟩
    · obtain ⟨hc', he⟩ := hother c _ q hc hq hcb
      obtain ⟨h0, h1, r', h2, h3⟩ := h.iter c r a s t hc' q hq
      exact ⟨h0, h1, r', h2, by rw [he]; exact h3⟩
  · intro c d u v q r hc hd hq hr e
    have hc' : ∃ z, m.get c = some z := by
      by_cases hcb : c = b
      · subst hcb; exact ⟨x, hb⟩
      · rw [hg, if_neg hcb] at hc; exact ⟨_, hc⟩
    have hd' : ∃ z, m.get d = some z := by
      by_cases hcb : d = b
      · subst hcb; exact ⟨x, hb⟩
      · rw [hg, if_neg hcb] at hd; exact ⟨_, hd⟩
    obtain ⟨z, hz⟩ := hc'
    obtain ⟨z', hz'⟩ := hd'
    exact h.inj c d z z' q r hz hz' hq hr e
  · exact fun c hc => h.fresh c (by omega)
  · simp [setArr]; exact h.base
  · obtain ⟨⟨arr, e, fz, h1, h2⟩, h3⟩ := h.own c q hq hn
    refine ⟨⟨arr, e, fz, by rw [setArr_get hl, if_neg (fun e => h3 b x p hb hp e.symm)]; exact h1, h2⟩, fun d z r hd hr => ?_⟩
    by_cases hdb : d = b
    · subst hdb; exact h3 d x r hb hr
    · rw [hg, if_neg hdb] at hd; exact h3 d z r hd hr
  · rw [hg, if_neg]
    rintro rfl
    rw [hp] at hs; cases hs

/-- A block is given up. -/
theorem Rel.kill (h : Rel P base σ m w) {b : Nat} {m' : Mem} {p : Pl} (hp : σ b = some p) (hput : m.put b none = some m') : Rel P base σ m' w ∧ Ext σ m σ m' ∧ m'.get b = none ∧ m'.nxt = m.nxt ∧ (∀ c, c ≠ b → m'.get c = m.get c) := by
  obtain ⟨hn, hg⟩ := Mem.put_some hput
  have hback : ∀ c z, m'.get c = some z → m.get c = some z := fun c z hc => by
    rw [hg] at hc
    split at hc
    · cases hc
    · exact hc
  refine ⟨⟨?_, ?_, ?_, ?_, ?_, h.base, fun c q hq hn => ⟨(h.own c q hq hn).1, fun d z r hd hr => (h.own c q hq hn).2 d z r (hback _ _ hd) hr⟩⟩, ⟨Sub.refl σ, by omega, fun c hc hs => ⟨hs, ?_⟩⟩, by rw [hg, if_pos rfl], hn, fun c hc => by rw [hg, if_neg hc]⟩
  · exact fun c rw e vs hc q hq => h.cells c rw e vs (hback _ _ hc) q hq
  · exact fun c es k hc q hq => h.map c es k (hback _ _ hc) q hq
  · exact fun c r a s t hc q hq => h.iter c r a s t (hback _ _ hc) q hq
  · exact fun c d u v q r hc hd hq hr e => h.inj c d u v q r (hback _ _ hc) (hback _ _ hd) hq hr e
  · exact fun c hc => h.fresh c (by omega)
  · rw [hg, if_neg]
    rintro rfl
    rw [hp] at hs; cases hs

/-- A row of an abstract block is stored into. -/
theorem Rel.store (h : Rel P base σ m w) {b o : Nat} {ns ns' : List Value} {m' : Mem} (hst : m.storeCells b o ns = some m') {p : Pl} (hp : σ b = some p) (hns : LRel σ ns ns') :
    ∃ w', (storeCells ⟨p.blk, p.sh + o, none⟩ ns').run P w = .ok () w' ∧ Rel P base σ m' w' ∧ Ext σ m σ m' ∧ Below base w w' := by
  obtain ⟨r, hr, h1⟩ := b_some.1 hst
  obtain ⟨rw', e, vs⟩ := r
  have hb := row_some hr
  obtain ⟨h2, h3⟩ := bC_some.1 h1
  have h2' : rw' = true ∧ allOk ns = true := by
    cases rw' <;> simp [bC] at h2
    exact ⟨rfl, h2⟩
  obtain ⟨rfl, hok⟩ := h2'
  obtain ⟨vs', hspl, hput⟩ := b_some.1 h3
  obtain ⟨hlen, rfl⟩ := (spl_eq _ _ _ _).1 hspl
  obtain ⟨g0, g1, g2, g3, arr, fz, g4, g5, g6, g7⟩ := h.cells b true e vs hb p hp
  have hok' : ∀ v ∈ ns', cellOk v = true := by
    intro v hv
    obtain ⟨i, hi, rfl⟩ := List.getElem_of_mem hv
    have hi' : i < ns.length := by rw [hns.1]; exact hi
    exact (hns.2 i ns[i] ns'[i] (List.getElem?_eq_getElem hi') (List.getElem?_eq_getElem hi)).cellOk ((allOk_eq _).1 hok _ (List.getElem_mem hi'))
  have hfz : ∀ k, k < arr.size → ¬(fz.1 ≤ k ∧ k < fz.2) := by
    intro k hk
    rcases g6 with g6 | ⟨g6, _⟩ <;> omega
  have hln := hns.1
  have hin : p.sh + o + 0 + ns'.length ≤ arr.size := by omega
  have hrun := run_storeCells (P := P) ns' 0 arr w g4 hfz hok' hin
  refine ⟨_, hrun, ?_⟩
  have := h.update hb hp hput (g3 rfl) (o := .cells (arr.toList.take (p.sh + o + 0) ++ ns' ++ arr.toList.drop (p.sh + o + 0 + ns'.length)).toArray e fz) ⟨g0, ?_, g2, _, fz, rfl, ?_, ?_, ?_⟩
  · exact ⟨this.1, this.2.2, this.2.1⟩
  · simp; omega
  · simp; omega
  · rcases g6 with g6 | ⟨g6, g8⟩
    · exact .inl g6
    · exact .inr ⟨by simp; omega, g8⟩
  · intro i v hv
    have hall : ∀ i v, vs[i]? = some v → ∃ v', arr[p.sh + i]? = some v' ∧ VRel σ v v' := g7
    simp only [Nat.add_zero]
    have hsz : ((List.take (p.sh + o) arr.toList).length) = p.sh + o := by simp; omega
    simp only [List.getElem?_toArray, List.append_assoc]
    rw [List.append_assoc] at hv
    have hto : (List.take o vs).length = o := by simp; omega
    rcases Nat.lt_or_ge i o with hi | hi
    · rw [List.getElem?_append_left (by omega), List.getElem?_take, if_pos hi] at hv
      rw [List.getElem?_append_left (by omega), List.getElem?_take, if_pos (by omega)]
      obtain ⟨v', a, b⟩ := hall i v hv
      exact ⟨v', by simpa using a, b⟩
    · rw [List.getElem?_append_right (by omega), hto] at hv
      rw [List.getElem?_append_right (by omega), hsz, show p.sh + i - (p.sh + o) = i - o from by omega]
      rcases Nat.lt_or_ge (i - o) ns.length with hi2 | hi2
      · rw [List.getElem?_append_left hi2] at hv
        rw [List.getElem?_append_left (by omega)]
        exact hns.get hv
      · rw [List.getElem?_append_right hi2, List.getElem?_drop] at hv
        rw [List.getElem?_append_right (by omega), List.getElem?_drop]
        obtain ⟨v', a, b⟩ := hall _ v hv
        refine ⟨v', ?_, b⟩
        rw [← a]
        simp only [Array.getElem?_toList]
        congr 1; omega

theorem VRel.bool_inv {b : Bool} {v' : Value} (h : VRel σ (.bool b) v') : v' = .bool b := by cases h; rfl
theorem VRel.int_inv {k : IntKind} {n : Int} {v' : Value} (h : VRel σ (.int k n) v') : v' = .int k n := by cases h; rfl
theorem VRel.string_inv {s : ByteArray} {v' : Value} (h : VRel σ (.string s) v') : v' = .string s := by cases h; rfl
theorem VRel.func_inv {f : FuncId} {a b : List Value} {v' : Value} (h : VRel σ (.func (.func f) ⟨a⟩ ⟨b⟩) v') : ∃ a' b', v' = .func (.func f) ⟨a'⟩ ⟨b'⟩ ∧ LRel σ a a' ∧ LRel σ b b' := by
  cases h with | func f h1 h2 h3 h4 => exact ⟨_, _, rfl, ⟨h1, h2⟩, ⟨h3, h4⟩⟩
theorem VRel.iface_inv {t : TypeId} {v v' : Value} (h : VRel σ (.iface t v) v') : ∃ u, v' = .iface t u ∧ VRel σ v u := by cases h with | iface t h => exact ⟨_, rfl, h⟩
theorem VRel.nilSl_inv {l c : Nat} {v' : Value} (h : VRel σ (.slice none l c) v') : v' = .slice none l c := by cases h; rfl
theorem VRel.slice_inv {b q : Nat} {s : Option Nat} {l c : Nat} {v' : Value} (h : VRel σ (.slice (some ⟨b, q, s⟩) l c) v') :
    ∃ p, σ b = some p ∧ s = none ∧ ((c ≠ unk ∧ v' = .slice (some ⟨p.blk, p.sh + q, none⟩) l c) ∨
      (c = unk ∧ ∃ i c', 0 < p.sz ∧ q = i * p.sz ∧ c' + i = p.cap ∧ l ≤ c' ∧ v' = .slice (some ⟨p.blk, p.sh + q, none⟩) l c') ∨ (c = unk ∧ l = 0 ∧ p.n ≤ q ∧ ∃ a', v' = .slice (some a') 0 0)) := by
  cases h with
  | sl o l c h hc => exact ⟨_, h, rfl, .inl ⟨hc, rfl⟩⟩
  | slU o l i c' h hz ho hc hl => exact ⟨_, h, rfl, .inr (.inl ⟨rfl, i, c', hz, ho, hc, hl, rfl⟩)⟩
  | slE o a' h hn => exact ⟨_, h, rfl, .inr (.inr ⟨rfl, rfl, hn, a', rfl⟩)⟩

/-! What an operation does in the model. -/
def resV : Next → Option Value
  | .value v => some v
  | .skip => some undef
  | _ => none

def OpSim (P : Program) (base : Nat) (σ : Sg) (m : Mem) (w : World) (ρ : Operand → Value) (o : Oper) : Act → Prop
  | .val v m' => ∃ n v' w' σ', (execOp ρ o).run P w = .ok n w' ∧ resV n = some v' ∧ VRel σ' v v' ∧ Rel P base σ' m' w' ∧ Ext σ m σ' m' ∧ Below base w w'
  | .call f args => ∃ args', ((execOp ρ o).run P w = (callFunc f ⟨args'⟩).run P w) ∧ LRel σ args args'
  | .panic v => ∃ v', (execOp ρ o).run P w = .halt (.panic v') w ∧ VRel σ v v'

/-- The operands are related. -/
def OpHyp (σ : Sg) (tm : Tr Value) (ρ : Operand → Value) (o : Oper) : Prop :=
  ∀ x ∈ o.op.operands, ∀ c v, cO x = some c → c.ev tm = some v → VRel σ v (ρ x)

variable {ρ : Operand → Value} {o : Oper} {tm : Tr Value}

/-- An operation that gives a value and leaves all as it is. -/
theorem OpSim.pureV {s : Sem Value} (h : Rel P base σ m w) (ho : execOp ρ o = (do pure (.value (← s)))) {v v' : Value} (hr : s.run P w = .ok v' w) (hv : VRel σ v v') : OpSim P base σ m w ρ o (.val v m) :=
  ⟨.value v', v', w, σ, by rw [ho, Sem.run_bind, hr]; rfl, rfl, hv, h, Ext.refl σ m, Below.refl base w⟩

theorem OpSim.valV {s : Sem Value} (ho : execOp ρ o = (do pure (.value (← s)))) {v v' : Value} {w' : World} {σ' : Sg} {m' : Mem} (hr : s.run P w = .ok v' w') (hv : VRel σ' v v') (h : Rel P base σ' m' w') (he : Ext σ m σ' m')
    (hb : Below base w w') : OpSim P base σ m w ρ o (.val v m') :=
  ⟨.value v', v', w', σ', by rw [ho, Sem.run_bind, hr]; rfl, rfl, hv, h, he, hb⟩

/-- A new row of cells. -/
theorem Rel.newRow (h : Rel P base σ m w) {e : TypeId} {l l' : List Value} {b : Nat} {m' : Mem} (hn : m.new (.cells true e l) = some (b, m')) (hl : LRel σ l l') (cap sz extra : Nat) (hsz : sz = P.cellsOf e)
    {arr : Array Value} (harr : arr.toList.take l.length = l') (hcap : cap * sz ≤ arr.size) (hlc : l.length ≤ cap * sz) (fz : Nat × Nat) (hfz : fz.1 = fz.2 ∨ arr.size ≤ fz.1 ∧ isU8 P e = true) :
    let w' := { w with heap := w.heap.push (.cells arr e fz), drawn := w.drawn + extra }
    Rel P base (Am.place σ b ⟨w.heap.size, 0, cap, sz, l.length⟩) m' w' ∧ Ext σ m (Am.place σ b ⟨w.heap.size, 0, cap, sz, l.length⟩) m' ∧ Below base w w' := by
  intro w'
  have := h.new hn (p := ⟨w.heap.size, 0, cap, sz, l.length⟩) (o := .cells arr e fz) (w' := w') rfl rfl ⟨hsz, rfl, hlc, arr, fz, rfl, by simpa using hcap, hfz, ?_⟩ (fun hn => by have h1 : sz = 0 := hn.1; have h2 : 1 ≤ l.length := hn.2; rw [h1, Nat.mul_zero] at hlc; omega)
  · exact ⟨this.1, this.2.1, below_push h.base rfl rfl rfl rfl⟩
  · intro i v hv
    obtain ⟨v', hv', hr⟩ := hl.get hv
    refine ⟨v', ?_, hr⟩
    have hi := (List.getElem?_eq_some_iff.1 hv).1
    rw [← harr, List.getElem?_take, if_pos hi] at hv'
    simpa using hv'

theorem Rel.newCells (h : Rel P base σ m w) {e : TypeId} {l l' : List Value} {v : Value} {m' : Mem} (hn : newCells m e l = some (v, m')) (hl : LRel σ l l') (hsz : sizeT P e = some l.length) :
    ∃ σ' w', Sem.run P (Go.newRow e ⟨l'⟩) w = .ok ⟨w.heap.size, 0, none⟩ w' ∧ VRel σ' v (.pointer (some ⟨w.heap.size, 0, none⟩)) ∧ Rel P base σ' m' w' ∧ Ext σ m σ' m' ∧ Below base w w' := by
  unfold Am.newCells at hn
  obtain ⟨b, m1, hm, he⟩ := b2_some.1 hn
  injection he with he
  injection he with h1 h2
  subst h1; subst h2
  obtain ⟨r1, r2, r3⟩ := h.newRow hm hl 1 l.length 0 (by obtain ⟨i, hi, hs⟩ := sizeT_some hsz; simp [Program.cellsOf, hi, hs]) (arr := ⟨l'⟩) (by simp [hl.1]) (by simp [hl.1]) (by omega) (0, 0) (.inl rfl)
  refine ⟨_, _, ?_, VRel.ptr 0 (place_same b _), r1, r2, r3⟩
  simp [Go.newRow, newObj, Sem.run]

end
end Go.Am
namespace Go.Am
set_option linter.unusedSectionVars false
variable [Env]
open Go.RowKit (Below)
set_option linter.unusedSimpArgs false
set_option linter.unusedVariables false

section
variable {P : Program} {base : Nat} {σ : Sg} {m : Mem} {w : World} {ρ : Operand → Value} {o : Oper} {tm : Tr Value} {act : Act}

/-- An operand's value. -/
def Ev (σ : Sg) (tm : Tr Value) (ρ : Operand → Value) (x : Operand) (c : Oc) : Prop := ∀ v, c.ev tm = some v → VRel σ v (ρ x)

theorem OpHyp.ev (h : OpHyp σ tm ρ o) {x : Operand} (hx : x ∈ o.op.operands) {c : Oc} (hc : cO x = some c) : Ev σ tm ρ x c := fun v hv => h x hx c v hc hv

theorem okV_some {m : Mem} {ov : Option Value} (h : okV m ov = some act) : ∃ v, ov = some v ∧ act = .val v m := by
  obtain ⟨v, hv, h⟩ := b_some.1 h
  injection h with h
  exact ⟨v, hv, h.symm⟩
theorem okVM_some {ov : Option (Value × Mem)} (h : okVM ov = some act) : ∃ v m', ov = some (v, m') ∧ act = .val v m' := by
  unfold okVM at h
  obtain ⟨v, m', hv, h⟩ := b2_some.1 h
  injection h with h
  exact ⟨v, m', hv, h.symm⟩
theorem okM_some {ov : Option Mem} (h : okM ov = some act) : ∃ m', ov = some m' ∧ act = .val (.tuple ⟨[]⟩) m' := by
  obtain ⟨m', hv, h⟩ := b_some.1 h
  injection h with h
  exact ⟨m', hv, h.symm⟩

theorem sim_move (h : Rel P base σ m w) {x : Operand} (ho : execOp ρ o = pure (.value (ρ x))) {c : Oc} (hx : Ev σ tm ρ x c) (hf : oMove c tm m = some act) : OpSim P base σ m w ρ o act := by
  obtain ⟨v, hv, rfl⟩ := okV_some hf
  exact ⟨.value (ρ x), ρ x, w, σ, by rw [ho]; rfl, rfl, hx v hv, h, Ext.refl σ m, Below.refl base w⟩

theorem sim_pick (h : Rel P base σ m w) {x y z : Operand} (ho : o.op = .pick x y z) {a b c : Oc} (hx : Ev σ tm ρ x a) (hy : Ev σ tm ρ y b) (hz : Ev σ tm ρ z c) (hf : oPick a b c tm m = some act) : OpSim P base σ m w ρ o act := by
  obtain ⟨v, hv, hf⟩ := b_some.1 hf
  obtain ⟨t, ht, hf⟩ := b_some.1 hf
  obtain ⟨u, hu, rfl⟩ := okV_some hf
  have hb := vBool_some ht; subst hb
  have hρ := (hx _ hv).bool_inv
  have he : execOp ρ o = (do pure (.value (if ← asBool (ρ x) then ρ y else ρ z))) := by rw [execOp, ho]
  cases t with
  | true => exact ⟨.value (ρ y), ρ y, w, σ, by rw [he, hρ]; rfl, rfl, hy u hu, h, Ext.refl σ m, Below.refl base w⟩
  | false => exact ⟨.value (ρ z), ρ z, w, σ, by rw [he, hρ]; rfl, rfl, hz u hu, h, Ext.refl σ m, Below.refl base w⟩

theorem sim_alloc (h : Rel P base σ m w) {e : TypeId} (ho : o.op = .alloc e) {z : List Value} (hz : zeroT P e = some z) (hf : oAlloc e z tm m = some act) : OpSim P base σ m w ρ o act := by
  obtain ⟨v, m', hn, rfl⟩ := okVM_some hf
  obtain ⟨z', n, hz', hn', rfl, hl⟩ := zeroT_some hz
  obtain ⟨_, _, _, hflat⟩ := zeroV_some hz'
  obtain ⟨σ', w', hr, hv, r1, r2, r3⟩ := h.newCells hn (hflat.rel (σ := σ)).cells (by rw [hn', hl])
  refine OpSim.valV (s := Instr.alloc e true (.tuple #[])) (by rw [execOp, ho]) ?_ hv r1 r2 r3
  unfold Instr.alloc
  rw [Sem.run_bind, run_zero hz', Result.andThen_ok]
  show Sem.run P (do pure (Value.pointer (some (← newVar e z')))) w = _
  rw [Sem.run_bind]
  unfold newVar
  rw [show z'.cells = ⟨z'.cells.toList⟩ from rfl, hr]
  rfl

theorem sim_box (h : Rel P base σ m w) {e : TypeId} {x : Operand} (ho : o.op = .box e x) {c : Oc} (hx : Ev σ tm ρ x c) {n : Nat} (hs : sizeT P e = some n) (hf : oBox e n c tm m = some act) : OpSim P base σ m w ρ o act := by
  obtain ⟨u, hu, hf⟩ := b_some.1 hf
  obtain ⟨hlen, hf⟩ := bC_some.1 hf
  obtain ⟨v, m', hn, rfl⟩ := okVM_some hf
  obtain ⟨σ', w', hr, hv, r1, r2, r3⟩ := h.newCells hn (hx u hu).cells (by rw [hs, (nbeq _ _).1 hlen])
  refine OpSim.valV (s := Instr.box e (ρ x)) (by rw [execOp, ho]) ?_ hv r1 r2 r3
  unfold Instr.box newVar
  rw [Sem.run_bind, show (ρ x).cells = ⟨(ρ x).cells.toList⟩ from rfl, hr]
  rfl

theorem sim_load (h : Rel P base σ m w) {t : TypeId} {x : Operand} (ho : o.op = .load t x) {c : Oc} (hx : Ev σ tm ρ x c) {n : Nat} (hn : sizeT P t = some n) :
    (isAggT P t = some true → oLoadAgg n c tm m = some act → OpSim P base σ m w ρ o act) ∧ (isAggT P t = some false → oLoad1 c tm m = some act → OpSim P base σ m w ρ o act) := by
  have he : execOp ρ o = (do pure (.value (← Instr.loadAt t (ρ x)))) := by rw [execOp, ho]
  constructor
  · intro hg hf
    obtain ⟨u, hu, hf⟩ := b_some.1 hf
    obtain ⟨b, k, hb, hf⟩ := b2_some.1 hf
    obtain ⟨l, hl, hf⟩ := b_some.1 hf
    injection hf with hf; subst hf
    obtain ⟨s, rfl⟩ := vAt_some hb
    obtain ⟨p, hp, hρ⟩ := (hx _ hu).ptr_inv
    obtain ⟨l', hr, hl', hln⟩ := h.load hl hp
    refine OpSim.pureV h he (v' := .agg ⟨l'⟩) ?_ hl'.agg
    unfold Instr.loadAt
    rw [hρ, Sem.run_bind]
    show Sem.run P (loadVar t _) w = _
    unfold loadVar
    rw [Sem.run_bind, run_isAgg hg, Result.andThen_ok, if_pos rfl, Sem.run_bind, run_size hn, Result.andThen_ok, Sem.run_bind, hr]
    rfl
  · intro hg hf
    obtain ⟨u, hu, hf⟩ := b_some.1 hf
    cases hva : vAt u with
    | none =>
      rw [hva] at hf
      obtain ⟨a, hn, hf⟩ := b_some.1 (show ((nmV u).b (nm5 m)) = some act from hf)
      obtain ⟨b, k⟩ := a
      have hkc : ∃ c : Nat, (k = 5 ∧ c = 69 ∨ k = 6 ∧ c = 96) ∧ act = Act.val (.int .u8 (.ofNat c)) m := by
        replace hf : bC (Nat.beq k 5) (some (Act.val (.int .u8 (.ofNat 69)) m)) (bC (Nat.beq k 6) (some (Act.val (.int .u8 (.ofNat 96)) m)) none) = some act := hf
        cases h5 : Nat.beq k 5 with
        | true => rw [h5] at hf; injection hf with hf; exact ⟨69, .inl ⟨(nbeq _ _).1 h5, rfl⟩, hf.symm⟩
        | false =>
          rw [h5] at hf
          obtain ⟨h6, hf⟩ := bC_some.1 (show bC (Nat.beq k 6) (some (Act.val (.int .u8 (.ofNat 96)) m)) none = some act from hf)
          injection hf with hf; exact ⟨96, .inr ⟨(nbeq _ _).1 h6, rfl⟩, hf.symm⟩
      obtain ⟨c, hk, rfl⟩ := hkc
      have := nmV_some hn; subst this
      have hρ := hx _ hu
      generalize hρe : ρ x = y at hρ
      cases hρ with
      | nm _ hρ =>
      cases hρ with
      | flt hk' => simp only at hk'; omega
      | len hk' => simp only at hk'; omega
      | row j hk' => simp only at hk'; omega
      | nil j hk' => simp only at hk'; omega
      | ptr c' hk' hp hnm h0 =>
        rename_i p
        obtain rfl : c' = c := by simp only at hk'; omega
        obtain ⟨⟨arr, e, fz, h4, h5⟩, _⟩ := h.own b p hp hnm
        have h6 := h5 0 c' h0
        refine OpSim.pureV h he (v' := .int .u8 (Int.ofNat c')) ?_ (.int _ _)
        unfold Instr.loadAt
        rw [hρe, Sem.run_bind]
        show Sem.run P (loadVar t _) w = _
        unfold loadVar
        rw [Sem.run_bind, run_isAgg hg, Result.andThen_ok]
        show Sem.run P (Go.load _) w = _
        simp only [Nat.add_zero] at h6
        simp only [Go.load, Sem.run, cell_of h4, h6]
    | some bk =>
    obtain ⟨b, k⟩ := bk
    have hb := hva
    rw [hva] at hf
    obtain ⟨v, hv, rfl⟩ := okV_some (show okV m ((m.loadCells b k 1).b oneL) = some act from hf)
    obtain ⟨l, hl, h1⟩ := b_some.1 hv
    have := (oneL_eq _ _).1 h1; subst this
    obtain ⟨s, rfl⟩ := vAt_some hb
    obtain ⟨p, hp, hρ⟩ := (hx _ hu).ptr_inv
    obtain ⟨rw', e, vs, hgb, hlen, hvs⟩ := loadCells_some hl
    obtain ⟨_, _, _, _, arr, fz, h4, _, _, h7⟩ := h.cells b rw' e vs hgb p hp
    have hk : vs[k]? = some v := by
      have h0 := congrArg (fun l : List Value => l[0]?) hvs
      simp only [List.getElem?_take, List.getElem?_drop] at h0
      simpa using h0.symm
    obtain ⟨v', hv', hr⟩ := h7 k v hk
    refine OpSim.pureV h he (v' := v') ?_ hr
    unfold Instr.loadAt
    rw [hρ, Sem.run_bind]
    show Sem.run P (loadVar t _) w = _
    unfold loadVar
    rw [Sem.run_bind, run_isAgg hg, Result.andThen_ok]
    show Sem.run P (Go.load _) w = _
    simp only [Go.load, Sem.run, cell_of h4, hv']

theorem sim_store (h : Rel P base σ m w) {t : TypeId} {x y : Operand} (ho : o.op = .store t x y) {c d : Oc} (hx : Ev σ tm ρ x c) (hy : Ev σ tm ρ y d) {n : Nat} (hn : sizeT P t = some n)
    (hf : oStore n c d tm m = some act) : OpSim P base σ m w ρ o act := by
  obtain ⟨u, hu, hf⟩ := b_some.1 hf
  obtain ⟨b, k, hb, hf⟩ := b2_some.1 hf
  obtain ⟨v, hv, hf⟩ := b_some.1 hf
  obtain ⟨hlen, hf⟩ := bC_some.1 hf
  obtain ⟨m', hst, rfl⟩ := okM_some hf
  obtain ⟨s, rfl⟩ := vAt_some hb
  obtain ⟨p, hp, hρ⟩ := (hx _ hu).ptr_inv
  have hcl := (hy _ hv).cells
  obtain ⟨w', hr, r1, r2, r3⟩ := h.store hst hp hcl
  have he : execOp ρ o = (do Instr.storeAt t (ρ x) (ρ y); pure .skip) := by rw [execOp, ho]
  refine ⟨.skip, undef, w', σ, ?_, rfl, LRel.nil.tuple, r1, r2, r3⟩
  rw [he, Sem.run_bind]
  unfold Instr.storeAt
  rw [hρ, Sem.run_bind]
  show Result.andThen (Sem.run P (storeVar t _ (ρ y)) w) _ = _
  unfold storeVar
  have hsz : (ρ y).cells.size = n := by
    have := hcl.1
    rw [(nbeq _ _).1 hlen] at this
    simpa using this.symm
  rw [Sem.run_bind, run_size hn, Result.andThen_ok, if_neg (by simp [hsz])]
  show Result.andThen (Sem.run P (storeCells _ (ρ y).cells.toList) w) _ = _
  rw [hr]
  rfl

theorem sim_nilCheck (h : Rel P base σ m w) {x : Operand} (ho : o.op = .nilCheck x) {c : Oc} (hx : Ev σ tm ρ x c) (hf : oNilCheck c tm m = some act) : OpSim P base σ m w ρ o act := by
  obtain ⟨v, hv, hf⟩ := b_some.1 hf
  obtain ⟨hk, hf⟩ := bC_some.1 hf
  injection hf with hf; subst hf
  have hr := hx v hv
  refine ⟨.value (ρ x), ρ x, w, σ, ?_, rfl, hr, h, Ext.refl σ m, Below.refl base w⟩
  unfold okNil at hk
  cases hp : vPtr v with
  | some a =>
    have := vPtr_some hp; subst this
    obtain ⟨b, k, s⟩ := a
    obtain ⟨p, hp, hρ⟩ := hr.ptr_inv
    simp only [execOp, ho, hρ]; rfl
  | none =>
    rw [hp] at hk
    cases hfn : vFn v with
    | none => rw [hfn] at hk; cases hk
    | some g =>
      obtain ⟨g, a, b⟩ := g
      have := vFn_some hfn; subst this
      obtain ⟨a', b', hρ, _, _⟩ := hr.func_inv
      simp only [execOp, ho, hρ]; rfl

theorem sim_un (h : Rel P base σ m w) {op : UnOp} {t : TypeId} {x : Operand} (ho : o.op = .unOp op t x) {c : Oc} (hx : Ev σ tm ρ x c) (hf : oUn (unA op) c tm m = some act)
    (hun : ∀ v v', unA op v = some v' → ∃ k n b, (v = .int k n ∨ v = .bool b) ∧ Flat v' ∧ ∀ w, (Op.unary op v).run P w = .ok v' w) : OpSim P base σ m w ρ o act := by
  obtain ⟨v, hv, hf⟩ := b_some.1 hf
  obtain ⟨u, hu, rfl⟩ := okV_some hf
  have hr := hx v hv
  obtain ⟨k, n, b, hvv, hfl, hrun⟩ := hun v u hu
  have hρ : ρ x = v := by
    rcases hvv with rfl | rfl
    · exact hr.int_inv
    · exact hr.bool_inv
  exact OpSim.pureV h (s := Op.unary op (ρ x)) (by rw [execOp, ho]) (by rw [hρ]; exact hrun w) hfl.rel

theorem sim_toArray (h : Rel P base σ m w) {t : TypeId} {x : Operand} (ho : o.op = .sliceToArrayPointer t x) {c : Oc} (hx : Ev σ tm ρ x c) {n : Nat} {e : TypeId} (ht : tArray P t = some (n, e)) (hn : n ≠ 0)
    (hf : oToArray n c tm m = some act) : OpSim P base σ m w ρ o act := by
  obtain ⟨v, hv, hf⟩ := b_some.1 hf
  obtain ⟨s, hs, hf⟩ := b_some.1 hf
  obtain ⟨a, len, cap⟩ := s
  obtain ⟨hle, hf⟩ := bC_some.1 hf
  injection hf with hf; subst hf
  have := vSlice_some hs; subst this
  have hle := (nble _ _).1 hle
  have he : execOp ρ o = (do pure (.value (← Instr.arrayAt t (ρ x)))) := by rw [execOp, ho]
  have hrun : ∀ (a' : Option Addr) (cap' : Nat), ρ x = .slice a' len cap' → (Instr.arrayAt t (ρ x)).run P w = .ok (.pointer a') w := by
    intro a' cap' hρ
    unfold Instr.arrayAt
    rw [Sem.run_bind, run_under (tArray_some ht), Result.andThen_ok, hρ]
    simp only []
    rw [if_neg (by omega)]
    rfl
  cases a with
  | none => exact OpSim.pureV h he (hrun _ _ (hx _ hv).nilSl_inv) .nilPtr
  | some a =>
    obtain ⟨b, q, s⟩ := a
    obtain ⟨p, hp, rfl, hh⟩ := (hx _ hv).slice_inv
    rcases hh with ⟨_, hρ⟩ | ⟨_, i, c', _, _, _, _, hρ⟩ | ⟨_, h0, _⟩
    · exact OpSim.pureV h he (hrun _ _ hρ) (.ptr _ hp)
    · exact OpSim.pureV h he (hrun _ _ hρ) (.ptr _ hp)
    · omega

theorem sim_iface (h : Rel P base σ m w) {t : TypeId} {x : Operand} (ho : o.op = .makeInterface t x) {c : Oc} (hx : Ev σ tm ρ x c) {u : TypeDesc} (ht : P.underlying t = some u) (hd : dIface u = false)
    (hf : oIface t c tm m = some act) : OpSim P base σ m w ρ o act := by
  obtain ⟨v, hv, hf⟩ := b_some.1 hf
  injection hf with hf; subst hf
  refine OpSim.pureV h (s := Instr.makeInterface t (ρ x)) (by rw [execOp, ho]) (v' := .iface t (ρ x)) ?_ (.iface t (hx v hv))
  unfold Instr.makeInterface
  rw [Sem.run_bind, run_under ht, Result.andThen_ok]
  cases u <;> first | rfl | (simp [dIface] at hd)

/-- Lists of operands. -/
theorem evL_rel : ∀ (xs : List Operand) (cs : List Oc), cL xs = some cs → (∀ x ∈ xs, ∀ c, cO x = some c → Ev σ tm ρ x c) → ∀ l, evL cs tm = some l → LRel σ l (xs.map ρ) := by
  intro xs
  induction xs with
  | nil =>
    intro cs hc _ l hl
    injection (show some ([] : List Oc) = some cs from hc) with hc; subst hc
    injection (show some ([] : List Value) = some l from hl) with hl; subst hl
    exact .nil
  | cons x xs ih =>
    intro cs hc hx l hl
    obtain ⟨c, h1, hc⟩ := b_some.1 (show ((cO x).b fun x => (cL xs).b fun r => some (x :: r)) = some cs from hc)
    obtain ⟨r, h2, hc⟩ := b_some.1 hc
    injection hc with hc; subst hc
    obtain ⟨v, h3, hl⟩ := b_some.1 (show ((c.ev tm).b fun v => (evL r tm).b fun l => some (v :: l)) = some l from hl)
    obtain ⟨l', h4, hl⟩ := b_some.1 hl
    injection hl with hl; subst hl
    exact .cons (hx x (by simp) c h1 v h3) (ih r h2 (fun y hy => hx y (by simp [hy])) l' h4)

theorem sim_func (h : Rel P base σ m w) {f : FuncId} {xs ys : Array Operand} (ho : o.op = .makeFunc (.func f) xs ys) {a b : List Oc} (ha : cL xs.toList = some a) (hb : cL ys.toList = some b)
    (hx : ∀ x ∈ xs.toList, ∀ c, cO x = some c → Ev σ tm ρ x c) (hy : ∀ x ∈ ys.toList, ∀ c, cO x = some c → Ev σ tm ρ x c) (hf : oFunc (.func f) a b tm m = some act) : OpSim P base σ m w ρ o act := by
  obtain ⟨l, hl, hf⟩ := b_some.1 hf
  obtain ⟨l2, hl2, hf⟩ := b_some.1 hf
  injection hf with hf; subst hf
  have h1 := evL_rel _ _ ha hx l hl
  have h2 := evL_rel _ _ hb hy l2 hl2
  refine OpSim.pureV h (s := Instr.makeFunc (.func f) (xs.map ρ) (ys.map ρ)) (by rw [execOp, ho]) (v' := .func (.func f) (xs.map ρ) (ys.map ρ)) rfl ?_
  have e1 : xs.map ρ = ⟨xs.toList.map ρ⟩ := by apply Array.ext'; simp
  have e2 : ys.map ρ = ⟨ys.toList.map ρ⟩ := by apply Array.ext'; simp
  rw [e1, e2]
  exact .func f h1.1 h1.2 h2.1 h2.2

theorem sim_makeMap (h : Rel P base σ m w) {t : TypeId} (ho : o.op = .makeMap t none) (hf : oMakeMap tm m = some act) : OpSim P base σ m w ρ o act := by
  unfold oMakeMap at hf
  obtain ⟨b, m', hn, hf⟩ := b2_some.1 hf
  injection hf with hf; subst hf
  have := h.new hn (p := ⟨w.heap.size, 0, 0, 0, 0⟩) (o := .map #[] 0) (w' := { w with heap := w.heap.push (.map #[] 0) }) rfl rfl ⟨#[], rfl, rfl, fun i e e' a => by simp at a⟩ (fun hn => absurd hn.2 (by simp))
  refine OpSim.valV (s := Instr.makeMap t none) (by rw [execOp, ho]; rfl) (v' := .map (some w.heap.size)) (w' := { w with heap := w.heap.push (.map #[] 0) }) ?_ (VRel.map (place_same b _)) this.1 this.2.1 (below_push h.base rfl rfl rfl rfl)
  simp [Instr.makeMap, newObj, Sem.run]

/-! Places. -/
theorem ptrTo_some {b o n : Nat} {v : Value} (h : ptrTo b o n = some v) : v = .pointer (some ⟨b, o + n, none⟩) := by
  unfold ptrTo at h
  rw [fN_eq] at h
  injection h with h; exact h.symm

theorem run_fieldPlace {a : Addr} {f : Field} {n : Nat} (hn : sizeT P f.type = some n) (h0 : n ≠ 0) (w : World) : (fieldPlace a f).run P w = .ok (a.add f.offset) w := by
  unfold fieldPlace
  rw [Sem.run_bind, run_size hn, Result.andThen_ok, if_neg h0]
  rfl

theorem sim_fieldAddr (h : Rel P base σ m w) {t : TypeId} {f : Nat} {x : Operand} (ho : o.op = .fieldAddr t x f) {c : Oc} (hx : Ev σ tm ρ x c) {off : Nat} {ty : TypeId} {n : Nat} (ht : fieldT P t f = some (.mk off ty n)) (h0 : n ≠ 0)
    (hf : oFieldAddr off c tm m = some act) : OpSim P base σ m w ρ o act := by
  obtain ⟨u, hu, hf⟩ := b_some.1 hf
  obtain ⟨b, k, hb, hf⟩ := b2_some.1 hf
  obtain ⟨v, hv, rfl⟩ := okV_some hf
  have := ptrTo_some hv; subst this
  obtain ⟨s, rfl⟩ := vAt_some hb
  obtain ⟨p, hp, hρ⟩ := (hx _ hu).ptr_inv
  obtain ⟨fs, fd, h1, h2, h3, h4, h5⟩ := fieldT_some ht
  refine OpSim.pureV h (s := Instr.fieldAt t (ρ x) f) (by rw [execOp, ho]) (v' := .pointer (some ⟨p.blk, p.sh + (k + off), none⟩)) ?_ (.ptr _ hp)
  unfold Instr.fieldAt
  rw [Sem.run_bind, run_under h1, Result.andThen_ok]
  simp only [List.getElem?_toArray, h2, hρ]
  show Sem.run P (do pure (Value.pointer (some (← fieldPlace _ fd)))) w = _
  subst h4
  rw [Sem.run_bind, run_fieldPlace h5 h0, Result.andThen_ok, add_eq, h3, Nat.add_assoc]
  rfl

theorem run_part {t : TypeId} {l l' : List Value} {off : Nat} {v : Value} (hl : LRel σ l l') (hv : partV P t l off = some v) (w : World) : ∃ v', (part t ⟨l'⟩ off).run P w = .ok v' w ∧ VRel σ v v' := by
  obtain ⟨g, hg, hv⟩ := b_some.1 hv
  obtain ⟨n, hn, hv⟩ := b_some.1 hv
  unfold part
  cases g with
  | true =>
    obtain ⟨r, hr, hv⟩ := b_some.1 (show ((sub off n l).b fun l => some (Value.agg ⟨l⟩)) = some v from hv)
    injection hv with hv; subst hv
    obtain ⟨h1, rfl⟩ := (sub_eq _ _ _ _).1 hr
    refine ⟨.agg ⟨(l'.drop off).take n⟩, ?_, ((hl.drop off).take n).agg⟩
    rw [Sem.run_bind, run_isAgg hg, Result.andThen_ok, if_pos rfl, Sem.run_bind, run_size hn, Result.andThen_ok]
    simp only [Sem.run_pure]
    congr 2
    apply Array.ext'
    simp [List.extract_eq_take_drop]
  | false =>
    obtain ⟨r, hr, hv⟩ := b_some.1 (show (sub off 1 l).b oneL = some v from hv)
    have := (oneL_eq _ _).1 hv; subst this
    obtain ⟨h1, h2⟩ := (sub_eq _ _ _ _).1 hr
    have hk : l[off]? = some v := by
      have h0 := congrArg (fun l : List Value => l[0]?) h2
      simp only [List.getElem?_take, List.getElem?_drop] at h0
      simpa using h0.symm
    obtain ⟨v', hv', hrel⟩ := hl.get hk
    refine ⟨v', ?_, hrel⟩
    rw [Sem.run_bind, run_isAgg hg, Result.andThen_ok]
    simp [hv']

theorem sim_field (h : Rel P base σ m w) {t : TypeId} {f : Nat} {x : Operand} (ho : o.op = .field t x f) {c : Oc} (hx : Ev σ tm ρ x c) {off : Nat} {ty : TypeId} {n : Nat} (ht : fieldT P t f = some (.mk off ty n))
    (hf : oField P off ty c tm m = some act) : OpSim P base σ m w ρ o act := by
  obtain ⟨u, hu, hf⟩ := b_some.1 hf
  obtain ⟨l, hl, hf⟩ := b_some.1 hf
  obtain ⟨v, hv, rfl⟩ := okV_some hf
  have := vAgg_some hl; subst this
  obtain ⟨l', hρ, hll⟩ := (hx _ hu).agg_inv
  obtain ⟨fs, fd, h1, h2, h3, h4, h5⟩ := fieldT_some ht
  obtain ⟨v', hr, hv'⟩ := run_part hll hv w
  refine OpSim.pureV h (s := Instr.field t (ρ x) f) (by rw [execOp, ho]) (v' := v') ?_ hv'
  unfold Instr.field
  rw [Sem.run_bind, run_under h1, Result.andThen_ok]
  simp only [List.getElem?_toArray, h2, hρ]
  subst h4; subst h3
  rw [Sem.run_bind]
  show Sem.run P (part _ ⟨l'⟩ _) w = _
  exact hr

theorem inRange_some {i : Int} {n j : Nat} (h : inRange i n = some j) : i = j ∧ j < n := by
  obtain ⟨h0, h⟩ := bC_some.1 h
  rw [fN_eq] at h
  obtain ⟨h1, h⟩ := bC_none.1 h
  injection h with h
  have := (leI_eq _ _).1 h0
  have h2 := (nblef _ _).1 h1
  rw [toN_eq] at h h2
  exact ⟨by rw [← h]; change (0 : Int) ≤ i at this; omega, by omega⟩

theorem sim_indexArr (h : Rel P base σ m w) {t : TypeId} {x i : Operand} (ho : o.op = .indexAddr t x i) {c d : Oc} (hx : Ev σ tm ρ x c) (hi : Ev σ tm ρ i d) {n size : Nat} {e : TypeId} (ht : tArray P t = some (n, e)) (hs : sizeT P e = some size)
    (hf : oIndexArr n size c d tm m = some act) : OpSim P base σ m w ρ o act := by
  obtain ⟨u, hu, hf⟩ := b_some.1 hf
  obtain ⟨y, hy, hf⟩ := b_some.1 hf
  obtain ⟨k, z, hz, hf⟩ := b2_some.1 hf
  obtain ⟨b, q, hb, hf⟩ := b2_some.1 hf
  obtain ⟨j, hj, hf⟩ := b_some.1 hf
  obtain ⟨v, hv, rfl⟩ := okV_some hf
  have := ptrTo_some hv; subst this
  obtain ⟨s, rfl⟩ := vAt_some hb
  have := vInt_some hz; subst this
  obtain ⟨p, hp, hρ⟩ := (hx _ hu).ptr_inv
  have hρi := (hi _ hy).int_inv
  obtain ⟨rfl, hjn⟩ := inRange_some hj
  refine OpSim.pureV h (s := Instr.indexAt t (ρ x) (ρ i)) (by rw [execOp, ho]) (v' := .pointer (some ⟨p.blk, p.sh + (q + j * size), none⟩)) ?_ (.ptr _ hp)
  unfold Instr.indexAt
  rw [hρ, hρi]
  simp only [asIntOf, Sem.run_bind, Sem.run_pure, Result.andThen_ok, run_under (tArray_some ht), Instr.sureAddr, run_size hs]
  rw [if_pos (by omega)]
  simp only [Sem.run_bind, run_size hs, Result.andThen_ok, Sem.run_pure, add_eq]
  simp [Nat.add_assoc]

theorem sim_indexSl (h : Rel P base σ m w) {t : TypeId} {x i : Operand} (ho : o.op = .indexAddr t x i) {c d : Oc} (hx : Ev σ tm ρ x c) (hi : Ev σ tm ρ i d) {size : Nat} {e : TypeId} (ht : tSlice P t = some e) (hs : sizeT P e = some size)
    (hf : oIndexSl size c d tm m = some act) : OpSim P base σ m w ρ o act := by
  obtain ⟨u, hu, hf⟩ := b_some.1 hf
  obtain ⟨y, hy, hf⟩ := b_some.1 hf
  obtain ⟨k, z, hz, hf⟩ := b2_some.1 hf
  have he : execOp ρ o = (do pure (.value (← Instr.indexAt t (ρ x) (ρ i)))) := by rw [execOp, ho]
  cases hs' : vSlice u with
  | none =>
    rw [hs'] at hf
    obtain ⟨a, hn, hf⟩ := b_some.1 (show ((nmV u).b (nm2 m z)) = some act from hf)
    obtain ⟨b, kd⟩ := a
    obtain ⟨hz0, hf⟩ := bC_some.1 (show bC (eqI z (.ofNat 0)) ((rowNo kd).b fun j => (firstK j).b fun c => some (Act.val (.complex .f64 b c) m)) none = some act from hf)
    obtain ⟨j, hj, hf⟩ := b_some.1 hf
    obtain ⟨c, hc, hfq⟩ := b_some.1 hf
    have hk := rowNo_some hj
    obtain ⟨hip, hc⟩ := firstK_some hc
    have hz0 := (eqI_eq _ _).1 hz0; subst hz0
    injection hfq with hfq; subst hfq
    have := nmV_some hn; subst this
    have := vInt_some hz; subst this
    have hρi := (hi _ hy).int_inv
    have hρ := hx _ hu
    generalize hρe : ρ x = y at hρ
    cases hρ with
    | nm _ hρ =>
    cases hρ with
    | flt hk' => simp only at hk'; omega
    | len hk' => simp only at hk'; omega
    | ptr c' hk' => simp only at hk'; omega
    | nil j' hk' hb =>
      obtain rfl : j' = j := by simp only at hk'; omega
      have h0 := Env.fst j' hip
      rw [hb] at h0; cases h0
    | row j' hk' hp hnm hb hcc =>
      rename_i p
      obtain rfl : j' = j := by simp only at hk'; omega
      have h0 := Env.fst j' hip
      have h1 : 0 < (Env.bytes j').length := by
        rcases Nat.eq_zero_or_pos (Env.bytes j').length with h | h
        · rw [List.eq_nil_of_length_eq_zero h] at h0; cases h0
        · exact h
      refine OpSim.pureV h he (v' := .pointer (some ⟨p.blk, p.sh, none⟩)) ?_ (.nm _ (.ptr (rowFst j') (by omega) hp hnm (by rw [hb]; exact h0)))
      unfold Instr.indexAt
      rw [hρe, hρi]
      simp only [asIntOf, Sem.run_bind, Sem.run_pure, Result.andThen_ok, run_under (tSlice_some ht), run_size hs]
      rw [if_pos (by constructor <;> first | exact Int.le_refl _ | (show ((0 : Nat) : Int) < _; omega) | omega)]
      simp only [Sem.run_bind, run_size hs, Result.andThen_ok, Sem.run_pure]
      simp [add_eq]
  | some s =>
  rw [hs'] at hf
  obtain ⟨a, len, cap⟩ := s
  obtain ⟨j, hj, hf⟩ := b_some.1 (show ((inRange z len).b fun j => a.b fun a => p2 (aT a) fun b o => okV m (ptrTo b o (Nat.mul j size))) = some act from hf)
  obtain ⟨a, ha, hf⟩ := b_some.1 hf
  obtain ⟨b, q, sp⟩ := a
  obtain ⟨v, hv, rfl⟩ := okV_some (show okV m (ptrTo b q (Nat.mul j size)) = some act from hf)
  have := ptrTo_some hv; subst this
  have := vSlice_some hs'; subst this
  subst ha
  have := vInt_some hz; subst this
  have hρi := (hi _ hy).int_inv
  obtain ⟨rfl, hjn⟩ := inRange_some hj
  have hrun : ∀ (a' : Addr) (cap' : Nat), ρ x = .slice (some a') len cap' → (Instr.indexAt t (ρ x) (ρ i)).run P w = .ok (.pointer (some (a'.add (j * size)))) w := by
    intro a' cap' hρ
    unfold Instr.indexAt
    rw [hρ, hρi]
    simp only [asIntOf, Sem.run_bind, Sem.run_pure, Result.andThen_ok, run_under (tSlice_some ht), run_size hs]
    rw [if_pos (by omega)]
    simp only [Sem.run_bind, run_size hs, Result.andThen_ok, Sem.run_pure]
    simp
  obtain ⟨p, hp, rfl, hh⟩ := (hx _ hu).slice_inv
  rcases hh with ⟨_, hρ⟩ | ⟨_, i, c', _, _, _, _, hρ⟩ | ⟨_, h0, _⟩
  · refine OpSim.pureV h he (hrun _ _ hρ) ?_
    rw [add_eq, Nat.add_assoc]
    exact .ptr _ hp
  · refine OpSim.pureV h he (hrun _ _ hρ) ?_
    rw [add_eq, Nat.add_assoc]
    exact .ptr _ hp
  · omega

theorem nthV_some {l : List Value} {n : Nat} {v : Value} (h : nthV l n = some v) : l[n]? = some v := by
  obtain ⟨r, hr, h⟩ := b_some.1 h
  obtain ⟨h1, rfl⟩ := (dropL_eq _ _ _).1 hr
  cases hd : l.drop n with
  | nil => rw [hd] at h; cases h
  | cons c r =>
    rw [hd] at h
    injection (show some c = some v from h) with h; subst h
    have := congrArg (fun l : List Value => l[0]?) hd
    simpa using this

theorem sim_extract (h : Rel P base σ m w) {x : Operand} {i : Nat} (ho : o.op = .extract x i) {c : Oc} (hx : Ev σ tm ρ x c) (hf : oExtract c i tm m = some act) : OpSim P base σ m w ρ o act := by
  obtain ⟨u, hu, hf⟩ := b_some.1 hf
  obtain ⟨l, hl, hf⟩ := b_some.1 hf
  obtain ⟨v, hv, rfl⟩ := okV_some hf
  have := vTup_some hl; subst this
  obtain ⟨l', hρ, hll⟩ := (hx _ hu).tuple_inv
  obtain ⟨v', hv', hr⟩ := hll.get (nthV_some hv)
  refine OpSim.pureV h (s := Instr.extract (ρ x) i) (by rw [execOp, ho]) (v' := v') ?_ hr
  simp [Instr.extract, hρ, hv']

theorem sim_panic (h : Rel P base σ m w) {x : Operand} (ho : o.op = .panic x) {c : Oc} (hx : Ev σ tm ρ x c) (hf : oPanic c tm m = some act) : OpSim P base σ m w ρ o act := by
  obtain ⟨v, hv, hf⟩ := b_some.1 hf
  obtain ⟨hi, hf⟩ := bC_some.1 hf
  injection hf with hf; subst hf
  obtain ⟨t, y, rfl⟩ := isIface_true hi
  have hr := hx _ hv
  refine ⟨ρ x, ?_, hr⟩
  obtain ⟨u, hρ, _⟩ := hr.iface_inv
  simp only [execOp, ho, hρ, Instr.panic]
  rfl

end
end Go.Am
namespace Go.Am
set_option linter.unusedSectionVars false
variable [Env]
open Go.RowKit (Below)
set_option linter.unusedSimpArgs false
set_option linter.unusedVariables false

theorem bitsN_eq (k : IntKind) : bitsN k = k.bits := by cases k <;> rfl
theorem modK_eq (k : IntKind) : modK k = 2 ^ k.bits := by cases k <;> rfl

theorem signK_eq (k : IntKind) (m : Nat) : signK k m = if m < halfK k then (m : Int) else (m : Int) - (modK k : Int) := by
  unfold signK
  rw [bC_eq]
  have : Nat.blt m (halfK k) = decide (m < halfK k) := by
    rw [Bool.eq_iff_iff]; simp [Nat.blt, nble]; omega
  rw [this]
  simp only [decide_eq_true_eq]
  split
  · rfl
  · rw [Int.subNatNat_eq_coe]

theorem wrap_nat (k : IntKind) (n : Nat) : k.wrap (n : Int) = signK k (n % modK k) := by
  rw [signK_eq]
  cases k <;> simp [IntKind.wrap, IntKind.bits, IntKind.signed, modK, halfK] <;> (try (split <;> split <;> omega)) <;> omega

theorem wrapN_eq (k : IntKind) (n : Nat) : wrapN k n = k.wrap n := by
  unfold wrapN
  rw [bC_eq, wrap_nat]
  split
  · rfl
  · rename_i h
    have h : n < halfK k := by
      rw [nble] at h; omega
    have h2 : halfK k ≤ modK k := by cases k <;> decide
    rw [Nat.mod_eq_of_lt (by omega), signK_eq, if_pos h]
    rfl

theorem wrap_congr (k : IntKind) {x y : Int} (h : x % (2 ^ k.bits : Int) = y % (2 ^ k.bits : Int)) : k.wrap x = k.wrap y := by
  unfold IntKind.wrap
  rw [h]

theorem wrapA_eq (k : IntKind) (x : Int) : wrapA k x = k.wrap x := by
  cases x with
  | ofNat n => exact wrapN_eq k n
  | negSucc n =>
    show signK k (modK k - 1 - n % modK k) = _
    have hp : 0 < modK k := by cases k <;> decide
    have hm : n % modK k < modK k := Nat.mod_lt _ hp
    have h1 : signK k (modK k - 1 - n % modK k) = k.wrap ((modK k - 1 - n % modK k : Nat) : Int) := by
      rw [wrap_nat, Nat.mod_eq_of_lt (a := modK k - 1 - n % modK k) (by omega)]
    rw [h1]
    apply wrap_congr
    have h2 : (2 ^ k.bits : Int) = ((modK k : Nat) : Int) := by rw [modK_eq]; simp
    rw [h2, Int.negSucc_emod _ (by omega), ← Int.natCast_emod, Nat.mod_eq_of_lt (a := modK k - 1 - n % modK k) (by omega)]
    omega

theorem i2_eq (x y : Int) (f : Nat → Nat → Int) (d : Int) (r : Int) (hd : d = r) (hf : ∀ a b : Nat, x = a → y = b → f a b = r) : i2 x y f d = r := by
  cases x <;> cases y <;> first | exact hf _ _ rfl rfl | exact hd

theorem addK_eq (k : IntKind) (x y : Int) : addK k x y = k.wrap (x + y) := by
  refine i2_eq x y _ _ _ (wrapA_eq k _) fun a b ha hb => ?_
  subst ha; subst hb
  exact wrapN_eq k (a + b)
theorem subK_eq (k : IntKind) (x y : Int) : subK k x y = k.wrap (x - y) := by
  refine i2_eq x y _ _ _ (wrapA_eq k _) fun a b ha hb => ?_
  subst ha; subst hb
  rw [bC_eq]
  split
  · rename_i h
    rw [nble] at h
    rw [wrapN_eq]
    congr 1
    show ((a - b : Nat) : Int) = _
    omega
  · rw [wrapA_eq, Int.subNatNat_eq_coe]
theorem mulK_eq (k : IntKind) (x y : Int) : mulK k x y = k.wrap (x * y) := by
  refine i2_eq x y _ _ _ (wrapA_eq k _) fun a b ha hb => ?_
  subst ha; subst hb
  rw [← Int.natCast_mul]
  exact wrapN_eq k (a * b)
theorem divK_eq (k : IntKind) (x y : Int) : divK k x y = k.wrap (x.tdiv y) := by
  refine i2_eq x y _ _ _ (wrapA_eq k _) fun a b ha hb => ?_
  subst ha; subst hb
  exact wrapN_eq k (a / b)
theorem remK_eq (x y : Int) : remK x y = x.tmod y := by
  refine i2_eq x y _ _ _ rfl fun a b ha hb => ?_
  subst ha; subst hb
  rfl
theorem shlK_eq (k : IntKind) (x : Int) (n : Nat) : shlK k x n = k.wrap (x * 2 ^ n) := by
  have h2 : (Int.ofNat (2 ^ n) : Int) = 2 ^ n := by simp
  cases x with
  | ofNat a =>
    show wrapN k (a * 2 ^ n) = _
    rw [wrapN_eq]; simp
  | negSucc a =>
    show wrapA k (Int.negSucc a * Int.ofNat (2 ^ n)) = _
    rw [wrapA_eq, h2]
theorem shrK_eq (x : Int) (n : Nat) : shrK x n = x.fdiv (2 ^ n) := by
  have h2 : (Int.ofNat (2 ^ n) : Int) = 2 ^ n := by simp
  cases x with
  | ofNat a =>
    show Int.ofNat (a / 2 ^ n) = _
    rw [← h2]
    rw [Int.fdiv_eq_ediv_of_nonneg (Int.ofNat a) (b := Int.ofNat (2 ^ n)) (Int.natCast_nonneg _)]; rfl
  | negSucc a =>
    show (Int.negSucc a).fdiv (Int.ofNat (2 ^ n)) = _
    rw [h2]

theorem bitsK_eq (k : IntKind) (x : Int) : bitsK k x = (BitVec.ofInt k.bits x).toNat := by
  rw [BitVec.toNat_ofInt]
  cases x with
  | ofNat n =>
    show n % modK k = _
    rw [modK_eq]
    show _ = ((n : Int) % ((2 ^ k.bits : Nat) : Int)).toNat
    rw [← Int.natCast_emod]
    rfl
  | negSucc n =>
    show modK k - 1 - n % modK k = _
    rw [modK_eq]
    have hp : 0 < 2 ^ k.bits := Nat.two_pow_pos _
    generalize 2 ^ k.bits = M at *
    have hm : n % M < M := Nat.mod_lt _ hp
    rw [Int.negSucc_emod _ (by omega)]
    omega

theorem vI_some {k : IntKind} {n : Int} {v : Value} (h : vI k n = some v) : v = .int k n := by
  unfold vI at h
  rw [fI_eq] at h; injection h with h; exact h.symm
theorem vB_some {b : Bool} {v : Value} (h : vB b = some v) : v = .bool b := by
  unfold vB at h
  rw [fB_eq] at h; injection h with h; exact h.symm

theorem eqI_beq (x y : Int) : eqI x y = (x == y) := by rw [Bool.eq_iff_iff, eqI_eq]; simp
theorem leI_dec (x y : Int) : leI x y = decide (x ≤ y) := by rw [Bool.eq_iff_iff, leI_eq]; simp
theorem not_le_dec (x y : Int) : (!decide (y ≤ x)) = decide (x < y) := by
  by_cases h : y ≤ x
  · simp [h, show ¬ x < y from by omega]
  · simp [h, show x < y from by omega]
theorem bC_not (b : Bool) : bC b false true = !b := by cases b <;> rfl

/-- Whole numbers: what the model does. -/
theorem run_int (P : Program) {op : BinOp} {k l : IntKind} {x y : Int} {v : Value} (h : intA op k x l y = some v) (t : TypeId) (w : World) : (Go.binOp op t (.int k x) (.int l y)).run P w = .ok v w ∧ Flat v := by
  have key : ∀ {r : Option Value}, bC (eqK k l) r none = some v → k = l ∧ r = some v := fun h => ⟨(eqK_eq _ _).1 (bC_some.1 h).1, (bC_some.1 h).2⟩
  have key2 : ∀ {r : Option Value}, bC (leI (.ofNat 0) y) r none = some v → 0 ≤ y ∧ r = some v := fun h => ⟨(leI_eq _ _).1 (bC_some.1 h).1, (bC_some.1 h).2⟩
  have bits : ∀ (r : BitVec k.bits), (Pure.pure (Value.int k (k.wrap r.toNat)) : Sem Value).run P w = .ok (Value.int k (k.wrap r.toNat)) w := fun r => rfl
  cases op
  case add => obtain ⟨rfl, g⟩ := key (r := vI k (addK k x y)) h; rw [vI_some g]; exact ⟨by simp [Go.binOp, Op.intArith, addK_eq], .int _ _⟩
  case sub => obtain ⟨rfl, g⟩ := key (r := vI k (subK k x y)) h; rw [vI_some g]; exact ⟨by simp [Go.binOp, Op.intArith, subK_eq], .int _ _⟩
  case mul => obtain ⟨rfl, g⟩ := key (r := vI k (mulK k x y)) h; rw [vI_some g]; exact ⟨by simp [Go.binOp, Op.intArith, mulK_eq], .int _ _⟩
  case quo =>
    obtain ⟨rfl, g⟩ := key (r := bC (eqI y (.ofNat 0)) none (vI k (divK k x y))) h
    obtain ⟨h0, g⟩ := bC_none.1 g
    have h0 : y ≠ 0 := fun e => by subst e; simp [eqI, i4] at h0
    rw [vI_some g]; exact ⟨by simp [Go.binOp, Op.intDiv, divK_eq, h0], .int _ _⟩
  case rem =>
    obtain ⟨rfl, g⟩ := key (r := bC (eqI y (.ofNat 0)) none (vI k (remK x y))) h
    obtain ⟨h0, g⟩ := bC_none.1 g
    have h0 : y ≠ 0 := fun e => by subst e; simp [eqI, i4] at h0
    rw [vI_some g]; exact ⟨by simp [Go.binOp, Op.intDiv, remK_eq, h0], .int _ _⟩
  case and =>
    obtain ⟨rfl, g⟩ := key (r := vI k (wrapN k (Nat.land (bitsK k x) (bitsK k y)))) h; rw [vI_some g]
    refine ⟨?_, .int _ _⟩
    simp only [Go.binOp, Op.intBits, ne_eq, not_true_eq_false, if_false, Sem.run_pure, wrapN_eq, bitsK_eq, BitVec.toNat_and]
    rfl
  case or =>
    obtain ⟨rfl, g⟩ := key (r := vI k (wrapN k (Nat.lor (bitsK k x) (bitsK k y)))) h; rw [vI_some g]
    refine ⟨?_, .int _ _⟩
    simp only [Go.binOp, Op.intBits, ne_eq, not_true_eq_false, if_false, Sem.run_pure, wrapN_eq, bitsK_eq, BitVec.toNat_or]
    rfl
  case xor =>
    obtain ⟨rfl, g⟩ := key (r := vI k (wrapN k (Nat.xor (bitsK k x) (bitsK k y)))) h; rw [vI_some g]
    refine ⟨?_, .int _ _⟩
    simp only [Go.binOp, Op.intBits, ne_eq, not_true_eq_false, if_false, Sem.run_pure, wrapN_eq, bitsK_eq, BitVec.toNat_xor]
    rfl
  case andNot =>
    obtain ⟨rfl, g⟩ := key (r := vI k (wrapN k (Nat.land (bitsK k x) (modK k - 1 - bitsK k y)))) h; rw [vI_some g]
    refine ⟨?_, .int _ _⟩
    simp only [Go.binOp, Op.intBits, ne_eq, not_true_eq_false, if_false, Sem.run_pure, wrapN_eq, bitsK_eq, BitVec.toNat_and, BitVec.toNat_not, modK_eq]
    rfl
  case shl =>
    obtain ⟨h0, g⟩ := key2 (r := vI k (shlK k x (minN (toN y) (bitsN k)))) h; rw [vI_some g]
    exact ⟨by simp [Go.binOp, Op.shift, shlK_eq, minN_eq, toN_eq, bitsN_eq, show ¬ y < 0 from by omega], .int _ _⟩
  case shr =>
    obtain ⟨h0, g⟩ := key2 (r := vI k (shrK x (minN (toN y) (bitsN k)))) h; rw [vI_some g]
    exact ⟨by simp [Go.binOp, Op.shift, shrK_eq, minN_eq, toN_eq, bitsN_eq, show ¬ y < 0 from by omega], .int _ _⟩
  case eql => obtain ⟨rfl, g⟩ := key (r := vB (eqI x y)) h; rw [vB_some g]; exact ⟨by simp [Go.binOp, Op.intCmp, eqI_beq], .bool _⟩
  case neq => obtain ⟨rfl, g⟩ := key (r := vB (bC (eqI x y) false true)) h; rw [vB_some g]; exact ⟨by simp [Go.binOp, Op.intCmp, eqI_beq, bC_not, bne], .bool _⟩
  case lss => obtain ⟨rfl, g⟩ := key (r := vB (bC (leI y x) false true)) h; rw [vB_some g]; exact ⟨by simp [Go.binOp, Op.intCmp, leI_dec, bC_not, not_le_dec], .bool _⟩
  case leq => obtain ⟨rfl, g⟩ := key (r := vB (leI x y)) h; rw [vB_some g]; exact ⟨by simp [Go.binOp, Op.intCmp, leI_dec], .bool _⟩
  case gtr => obtain ⟨rfl, g⟩ := key (r := vB (bC (leI x y) false true)) h; rw [vB_some g]; exact ⟨by simp [Go.binOp, Op.intCmp, leI_dec, bC_not, not_le_dec], .bool _⟩
  case geq => obtain ⟨rfl, g⟩ := key (r := vB (leI y x)) h; rw [vB_some g]; exact ⟨by simp [Go.binOp, Op.intCmp, leI_dec], .bool _⟩

theorem intC_eq (op : BinOp) : intC op = some (intA op) := by cases op <;> rfl

theorem run_un (P : Program) {op : UnOp} {v v' : Value} (h : unA op v = some v') : ∃ k n b, (v = .int k n ∨ v = .bool b) ∧ Flat v' ∧ ∀ w, (Op.unary op v).run P w = .ok v' w := by
  cases op with
  | neg =>
    obtain ⟨k, n, hv, h⟩ := b2_some.1 (show (b2 (vInt v) fun k a => vI k (subK k (.ofNat 0) a)) = some v' from h)
    have := vInt_some hv; subst this
    rw [vI_some h]
    refine ⟨k, n, false, .inl rfl, .int _ _, fun w => ?_⟩
    simp only [Op.unary, Op.intArith, subK_eq, Sem.run_pure]
    rfl
  | xor =>
    obtain ⟨k, n, hv, h⟩ := b2_some.1 (show (b2 (vInt v) fun k a => vI k (wrapN k (modK k - 1 - bitsK k a))) = some v' from h)
    have := vInt_some hv; subst this
    rw [vI_some h]
    refine ⟨k, n, false, .inl rfl, .int _ _, fun w => ?_⟩
    simp only [Op.unary, Op.intBits, Sem.run_pure, wrapN_eq, bitsK_eq]
    congr 3
    have hall : BitVec.ofInt k.bits (if k.signed = true then -1 else k.max) = BitVec.allOnes k.bits := by
      cases k <;> rfl
    rw [hall, BitVec.allOnes_xor, BitVec.toNat_not, modK_eq]
  | not =>
    obtain ⟨b, hv, h⟩ := b_some.1 (show ((vBool v).b fun b => vB (bC b false true)) = some v' from h)
    have := vBool_some hv; subst this
    rw [vB_some h]
    refine ⟨.i64, 0, b, .inr rfl, .bool _, fun w => ?_⟩
    cases b <;> rfl
  | plus => cases h

end Go.Am
namespace Go.Am
set_option linter.unusedSectionVars false
variable [Env]
open Go.RowKit (Below)
set_option linter.unusedSimpArgs false
set_option linter.unusedVariables false

theorem eqKd_nil (xs ys : List Value) (r : Bool) : eqKd [] xs ys = some r ↔ xs = [] ∧ ys = [] ∧ r = true := by
  cases xs <;> cases ys <;> simp [eqKd, eq_comm]
theorem eqKd_cons (k : Kd) (ks : List Kd) (xs ys : List Value) (r : Bool) : eqKd (k :: ks) xs ys = some r ↔
    ∃ x xs' y ys' b c, xs = x :: xs' ∧ ys = y :: ys' ∧ eqCell k x y = some b ∧ eqKd ks xs' ys' = some c ∧ r = (b && c) := by
  cases xs with
  | nil => constructor
           · intro h; cases h
           · rintro ⟨_, _, _, _, _, _, h, _⟩; cases h
  | cons x xs =>
    cases ys with
    | nil => constructor
             · intro h; cases h
             · rintro ⟨_, _, _, _, _, _, _, h, _⟩; cases h
    | cons y ys =>
      show ((eqCell k x y).b fun b => (eqKd ks xs ys).b fun r => fB b fun b => some (bC b r false)) = some r ↔ _
      constructor
      · intro h
        obtain ⟨b, hb, h⟩ := b_some.1 h
        obtain ⟨c, hc, h⟩ := b_some.1 h
        rw [fB_eq] at h
        injection h with h
        exact ⟨x, xs, y, ys, b, c, rfl, rfl, hb, hc, by rw [← h]; cases b <;> cases c <;> rfl⟩
      · rintro ⟨x', xs', y', ys', b, c, h1, h2, hb, hc, rfl⟩
        cases h1; cases h2
        rw [hb]
        show ((eqKd ks xs ys).b fun r => fB b fun b => some (bC b r false)) = _
        rw [hc]
        show (fB b fun b => some (bC b c false)) = _
        rw [fB_eq]
        cases b <;> cases c <;> rfl

theorem eqKd_len : ∀ (ks : List Kd) (xs ys : List Value) (r : Bool), eqKd ks xs ys = some r → xs.length = ks.length ∧ ys.length = ks.length := by
  intro ks
  induction ks with
  | nil => intro xs ys r h; obtain ⟨rfl, rfl, _⟩ := (eqKd_nil _ _ _).1 h; exact ⟨rfl, rfl⟩
  | cons k ks ih =>
    intro xs ys r h
    obtain ⟨x, xs', y, ys', b, c, rfl, rfl, _, hc, _⟩ := (eqKd_cons _ _ _ _ _).1 h
    have := ih _ _ _ hc
    exact ⟨by simp [this.1], by simp [this.2]⟩

theorem eqKd_append : ∀ (ks ls : List Kd) (xs ys : List Value) (r : Bool), eqKd (ks ++ ls) xs ys = some r →
    ∃ b c, eqKd ks (xs.take ks.length) (ys.take ks.length) = some b ∧ eqKd ls (xs.drop ks.length) (ys.drop ks.length) = some c ∧ r = (b && c) := by
  intro ks
  induction ks with
  | nil => intro ls xs ys r h; exact ⟨true, r, (eqKd_nil _ _ _).2 ⟨by simp, by simp, rfl⟩, by simpa using h, by simp⟩
  | cons k ks ih =>
    intro ls xs ys r h
    obtain ⟨x, xs', y, ys', b, c, rfl, rfl, hb, hc, rfl⟩ := (eqKd_cons _ _ _ _ _).1 (show eqKd (k :: (ks ++ ls)) xs ys = some r from h)
    obtain ⟨d, e, h1, h2, rfl⟩ := ih _ _ _ _ hc
    exact ⟨b && d, e, (eqKd_cons _ _ _ _ _).2 ⟨x, _, y, _, b, d, by simp, by simp, hb, h1, rfl⟩, by simpa using h2, by rw [Bool.and_assoc]⟩

section
variable {P : Program}

theorem basicKd_some {u : TypeDesc} {k : Kd} (h : basicKd u = some k) : (u = .bool ∧ k = .bool) ∨ (u = .string ∧ k = .str) ∨ ∃ i, u = .int i ∧ k = .int i := by
  cases u <;> simp [basicKd] at h <;> subst h <;> simp

theorem kindsIn_some {d : Nat} {t : TypeId} {ks : List Kd} (h : kindsIn P (d + 1) t = some ks) : ∃ u, P.underlying t = some u ∧
    ((∃ k, basicKd u = some k ∧ ks = [k]) ∨
     (∃ n e es m, u = .array n e ∧ kindsIn P d e = some es ∧ sizeT P e = some es.length ∧ ks = repeatL es n ∧ sizeT P t = some m ∧ ks.length = m) ∨
     (∃ fs m, u = .struct ⟨fs⟩ ∧ P.stoodInHeld t = false ∧ kindsFs P d 0 fs = some ks ∧ sizeT P t = some m ∧ ks.length = m)) := by
  unfold kindsIn at h
  obtain ⟨u, hu, h⟩ := b_some.1 h
  replace hu := undA_some hu
  refine ⟨u, hu, ?_⟩
  cases hb : basicKd u with
  | some k => rw [hb] at h; injection h with h; exact .inl ⟨k, rfl, h.symm⟩
  | none =>
    rw [hb] at h
    right
    cases ha : dArray u with
    | some x =>
      obtain ⟨n, e⟩ := x
      rw [ha] at h
      obtain ⟨m, hm, h⟩ := b_some.1 h
      obtain ⟨k, hk, h⟩ := b_some.1 h
      obtain ⟨es, hes, h⟩ := b_some.1 h
      obtain ⟨h1, h⟩ := bC_some.1 h
      obtain ⟨h2, h⟩ := bC_some.1 h
      injection h with h
      exact .inl ⟨n, e, es, m, dArray_some ha, hes, by rw [hk, (nbeq _ _).1 h1], h.symm, hm, by rw [← h]; exact (nbeq _ _).1 h2⟩
    | none =>
      rw [ha] at h
      obtain ⟨fs, hfs, h⟩ := b_some.1 h
      obtain ⟨n, hn, h⟩ := b_some.1 h
      obtain ⟨h1, h⟩ := bC_none.1 h
      obtain ⟨ks', hks, h⟩ := b_some.1 h
      obtain ⟨h2, h⟩ := bC_some.1 h
      injection h with h; subst h
      exact .inr ⟨fs, n, dStruct_some hfs, h1, hks, hn, (nbeq _ _).1 h2⟩

theorem kindsFs_cons {d off : Nat} {f : Field} {fs : List Field} {ks : List Kd} (h : kindsFs P d off (f :: fs) = some ks) :
    ∃ d' es ls, d = d' + 1 ∧ f.offset = off ∧ f.name ≠ "_" ∧ sizeT P f.type = some es.length ∧ kindsIn P d' f.type = some es ∧ kindsFs P d' (off + es.length) fs = some ls ∧ ks = es ++ ls := by
  cases d with
  | zero => simp [kindsFs] at h
  | succ d =>
    unfold kindsFs at h
    obtain ⟨h1, h⟩ := bC_some.1 h
    obtain ⟨h2, h⟩ := bC_some.1 h
    obtain ⟨n, hn, h⟩ := b_some.1 h
    obtain ⟨es, hes, h⟩ := b_some.1 h
    obtain ⟨h3, h⟩ := bC_some.1 h
    obtain ⟨ls, hls, h⟩ := b_some.1 h
    injection h with h
    exact ⟨d, es, ls, rfl, (nbeq _ _).1 h1, by simpa using h2, by rw [hn, (nbeq _ _).1 h3], hes, hls, h.symm⟩

/-- What 'equal' is of parts of two rows of cells of a plain type. -/
def EqPart (P : Program) (D : Nat) (t : TypeId) (ks : List Kd) : Prop :=
  ∀ (w : World) (xs ys : List Value) (off : Nat) (r : Bool), eqKd ks ((xs.drop off).take ks.length) ((ys.drop off).take ks.length) = some r →
    ∃ a b, (part t ⟨xs⟩ off).run P w = .ok a w ∧ (part t ⟨ys⟩ off).run P w = .ok b w ∧ (Op.equalIn D t a b).run P w = .ok r w

/-- Is a type one of many cells? -/
def AggIs (P : Program) (t : TypeId) (g : Bool) : Prop := ∃ d, P.underlying t = some d ∧ dAgg d = g
theorem run_isAgg2 {t : TypeId} {g : Bool} (h : AggIs P t g) (w : World) : (isAgg t).run P w = .ok g w := by
  obtain ⟨d, hd, rfl⟩ := h
  unfold isAgg
  rw [Sem.run_bind, run_under hd, Result.andThen_ok]
  cases d <;> rfl

theorem run_part_agg {t : TypeId} (hg : AggIs P t true) {n : Nat} (hn : sizeT P t = some n) (xs : List Value) (off : Nat) (w : World) :
    (part t ⟨xs⟩ off).run P w = .ok (.agg ⟨(xs.drop off).take n⟩) w := by
  unfold part
  rw [Sem.run_bind, run_isAgg2 hg, Result.andThen_ok, if_pos rfl, Sem.run_bind, run_size hn, Result.andThen_ok]
  simp only [Sem.run_pure]
  congr 2
  apply Array.ext'
  simp [List.extract_eq_take_drop]

theorem run_part_one {t : TypeId} (hg : AggIs P t false) {xs : List Value} {off : Nat} {v : Value} (hv : xs[off]? = some v) (w : World) : (part t ⟨xs⟩ off).run P w = .ok v w := by
  unfold part
  rw [Sem.run_bind, run_isAgg2 hg, Result.andThen_ok]
  simp [hv]

theorem eqCell_run {k : Kd} {u : TypeDesc} {t : TypeId} (hu : P.underlying t = some u) (hk : basicKd u = some k) {x y : Value} {r : Bool} (h : eqCell k x y = some r) (D : Nat) (w : World) : (Op.equalIn (D + 1) t x y).run P w = .ok r w := by
  rcases basicKd_some hk with ⟨rfl, rfl⟩ | ⟨rfl, rfl⟩ | ⟨i, rfl, rfl⟩
  · obtain ⟨a, ha, h⟩ := b_some.1 (show ((vBool x).b fun a => (vBool y).b fun b => some (eqB a b)) = some r from h)
    obtain ⟨b, hb, h⟩ := b_some.1 h
    injection h with h
    rw [vBool_some ha, vBool_some hb]
    simp only [Op.equalIn, Sem.run_bind, run_under hu, Result.andThen_ok, Sem.run_pure]
    rw [← h]
    congr 1
    cases a <;> cases b <;> rfl
  · obtain ⟨a, ha, h⟩ := b_some.1 (show ((vStr x).b fun a => (vStr y).b fun b => some (eqU8s a b)) = some r from h)
    obtain ⟨b, hb, h⟩ := b_some.1 h
    injection h with h
    rw [vStr_some ha, vStr_some hb]
    simp only [Op.equalIn, Sem.run_bind, run_under hu, Result.andThen_ok, Sem.run_pure]
    rw [← h]
    congr 1
    rw [Bool.eq_iff_iff, eqU8s_eq]
    show ((⟨⟨a⟩⟩ : ByteArray) == ⟨⟨b⟩⟩) = true ↔ _
    rw [beq_toListBytes]
    simp
  · obtain ⟨j, a, ha, h⟩ := b2_some.1 (show (b2 (vInt x) fun j a => b2 (vInt y) fun l b => bC (bC (eqK j i) (eqK l i) false) (some (eqI a b)) none) = some r from h)
    obtain ⟨l, b, hb, h⟩ := b2_some.1 h
    obtain ⟨h1, h⟩ := bC_some.1 h
    injection h with h
    have h2 : eqK j i = true ∧ eqK l i = true := by
      cases hj : eqK j i <;> rw [hj] at h1 <;> first | cases h1 | exact ⟨rfl, h1⟩
    have e1 := (eqK_eq _ _).1 h2.1
    have e2 := (eqK_eq _ _).1 h2.2
    subst e1; subst e2
    rw [vInt_some ha, vInt_some hb]
    simp only [Op.equalIn, Sem.run_bind, run_under hu, Result.andThen_ok, if_true, Sem.run_pure]
    rw [← eqI_beq]
    exact congrArg (fun b => Result.ok b w) ‹eqI a b = r›

theorem drop_take_drop (l : List Value) (a n b k : Nat) (h : b + k ≤ n) : (((l.drop a).take n).drop b).take k = (l.drop (a + b)).take k := by
  rw [List.drop_take, List.take_take, List.drop_drop]
  congr 1; omega

theorem run_eqFields {d D : Nat} (IH : ∀ d', d' < d → ∀ t ks, kindsIn P d' t = some ks → ∀ D, d' ≤ D → EqPart P D t ks) (hd : d ≤ D) (w : World) (xs ys : List Value) :
    ∀ (fs : List Field) (d' off : Nat) (ks : List Kd) (r : Bool), d' ≤ d → kindsFs P d' off fs = some ks → eqKd ks ((xs.drop off).take ks.length) ((ys.drop off).take ks.length) = some r →
      (Op.eqFields D ⟨xs⟩ ⟨ys⟩ fs).run P w = .ok r w := by
  intro fs
  induction fs with
  | nil =>
    intro d' off ks r _ hk hr
    have : ks = [] := by cases d' <;> simp [kindsFs] at hk <;> exact hk
    subst this
    obtain ⟨_, _, rfl⟩ := (eqKd_nil _ _ _).1 hr
    rfl
  | cons f fs ih =>
    intro d' off ks r hd' hk hr
    obtain ⟨d2, es, ls, rfl, rfl, hname, hsz, hes, hls, rfl⟩ := kindsFs_cons hk
    obtain ⟨b, c, hb, hc, rfl⟩ := eqKd_append _ _ _ _ _ hr
    have hlen : es.length ≤ (es ++ ls).length := by simp
    rw [List.take_take, List.take_take, Nat.min_eq_left hlen] at hb
    obtain ⟨u, v, p1, p2, p3⟩ := IH d2 (by omega) _ _ hes D (by omega) w xs ys f.offset b hb
    simp only [Op.eqFields, ne_eq, hname, not_false_eq_true, if_true, Sem.run_bind, p1, p2, p3, Result.andThen_ok]
    cases b with
    | false => rfl
    | true =>
      simp only [Bool.not_true, Bool.false_eq_true, if_false, Bool.true_and]
      refine ih d2 _ ls c (by omega) hls ?_
      rw [← hc]
      congr 1
      · rw [List.drop_take, List.drop_drop]; congr 1; simp
      · rw [List.drop_take, List.drop_drop]; congr 1; simp

theorem repeatL_length {α : Type} (l : List α) (n : Nat) : (repeatL l n).length = n * l.length := by
  induction n with
  | zero => simp [repeatL]
  | succ n ih => simp [repeatL, ih, Nat.add_mul]; omega

theorem cellsOf_eq {e : TypeId} {n : Nat} (h : sizeT P e = some n) : P.cellsOf e = n := by
  obtain ⟨i, hi, rfl⟩ := sizeT_some h
  simp [Program.cellsOf, hi]

theorem run_eqItems {D : Nat} {e : TypeId} {es : List Kd} (IH : EqPart P D e es) (hs : sizeT P e = some es.length) (w : World) (xs ys : List Value) :
    ∀ (n i : Nat) (r : Bool), eqKd (repeatL es n) ((xs.drop (i * es.length)).take (repeatL es n).length) ((ys.drop (i * es.length)).take (repeatL es n).length) = some r →
      (Op.eqItems D e (P.cellsOf e) ⟨xs⟩ ⟨ys⟩ (List.range' i n)).run P w = .ok r w := by
  rw [cellsOf_eq hs]
  intro n
  induction n with
  | zero =>
    intro i r hr
    obtain ⟨_, _, rfl⟩ := (eqKd_nil _ _ _).1 (show eqKd [] _ _ = some r from hr)
    rfl
  | succ n ih =>
    intro i r hr
    obtain ⟨b, c, hb, hc, rfl⟩ := eqKd_append _ _ _ _ _ (show eqKd (es ++ repeatL es n) _ _ = some r from hr)
    have hlen : es.length ≤ (repeatL es (n + 1)).length := by simp [repeatL]
    rw [List.take_take, List.take_take, Nat.min_eq_left hlen] at hb
    obtain ⟨u, v, p1, p2, p3⟩ := IH w xs ys _ b hb
    rw [List.range'_succ]
    simp only [Op.eqItems, Sem.run_bind, p1, p2, p3, Result.andThen_ok]
    cases b with
    | false => rfl
    | true =>
      simp only [Bool.not_true, Bool.false_eq_true, if_false, Bool.true_and]
      refine ih (i + 1) c ?_
      rw [← hc]
      have e1 : (i + 1) * es.length = i * es.length + es.length := by rw [Nat.add_mul]; omega
      congr 1
      · rw [List.drop_take, List.drop_drop, e1]; congr 1; simp [repeatL]
      · rw [List.drop_take, List.drop_drop, e1]; congr 1; simp [repeatL]

theorem eqPart_all : ∀ (d : Nat) (t : TypeId) (ks : List Kd), kindsIn P d t = some ks → ∀ D, d ≤ D → EqPart P D t ks := by
  intro d
  induction d using Nat.strongRecOn with
  | _ d IH =>
    intro t ks hk D hD
    cases d with
    | zero => simp [kindsIn] at hk
    | succ d =>
      obtain ⟨D, rfl⟩ : ∃ k, D = k + 1 := ⟨D - 1, by omega⟩
      obtain ⟨u, hu, h⟩ := kindsIn_some hk
      intro w xs ys off r hr
      rcases h with ⟨k, hb, rfl⟩ | ⟨n, e, es, m, rfl, hes, hse, rfl, hm, hlm⟩ | ⟨fs, m, rfl, hst, hfs, hm, hlm⟩
      · obtain ⟨x, xs', y, ys', b, c, hx, hy, hb', hc, rfl⟩ := (eqKd_cons _ _ _ _ _).1 hr
        obtain ⟨_, _, rfl⟩ := (eqKd_nil _ _ _).1 hc
        have gx : xs[off]? = some x := by
          have := congrArg (fun l : List Value => l[0]?) hx
          simpa [List.getElem?_take, List.getElem?_drop] using this
        have gy : ys[off]? = some y := by
          have := congrArg (fun l : List Value => l[0]?) hy
          simpa [List.getElem?_take, List.getElem?_drop] using this
        have hg : AggIs P t false := by
          refine ⟨_, hu, ?_⟩
          rcases basicKd_some hb with ⟨rfl, _⟩ | ⟨rfl, _⟩ | ⟨i, rfl, _⟩ <;> rfl
        refine ⟨x, y, run_part_one hg gx w, run_part_one hg gy w, ?_⟩
        rw [Bool.and_true]
        exact eqCell_run hu hb hb' D w
      · have hg : AggIs P t true := ⟨_, hu, rfl⟩
        refine ⟨_, _, run_part_agg hg hm xs off w, run_part_agg hg hm ys off w, ?_⟩
        obtain ⟨i, hi, _⟩ := sizeT_some hse
        rw [Go.run_equalIn_array w D _ _ hu hi, List.range_eq_range']
        refine run_eqItems (IH d (by omega) e es hes D (by omega)) hse w _ _ n 0 r ?_
        rw [← hr, hlm]
        simp [List.take_take]
      · have hg : AggIs P t true := ⟨_, hu, rfl⟩
        refine ⟨_, _, run_part_agg hg hm xs off w, run_part_agg hg hm ys off w, ?_⟩
        have hf : P.fieldsOf t = ⟨fs⟩ := by simp [Program.fieldsOf, hu]
        rw [Go.run_equalIn_struct w D t _ _ (by rw [hf]; exact hu) hst, hf]
        refine run_eqFields (d := d) (D := D) (fun d' hd' => IH d' (by omega)) (by omega) w _ _ fs d 0 ks r (Nat.le_refl _) hfs ?_
        rw [← hr, hlm]
        simp [List.take_take]

/-- '==' of two plain rows. -/
theorem run_equal_plain {t : TypeId} {ks : List Kd} (hk : kindsT P t = some ks) {u : TypeDesc} (hu : P.underlying t = some u) (hag : dAgg u = true) {xs ys : List Value} {r : Bool} (hr : eqKd ks xs ys = some r) (w : World) :
    (Op.equal t (.agg ⟨xs⟩) (.agg ⟨ys⟩)).run P w = .ok r w := by
  obtain ⟨hx, hy⟩ := eqKd_len _ _ _ _ hr
  have hsz : sizeT P t = some ks.length := by
    obtain ⟨u', hu', h⟩ := kindsIn_some (d := 39) hk
    rcases h with ⟨k, hb, rfl⟩ | ⟨n, e, es, m, rfl, hes, hse, rfl, hm, hlm⟩ | ⟨fs, m, rfl, hst, hfs, hm, hlm⟩
    · rw [hu] at hu'; injection hu' with hu'; subst hu'
      rcases basicKd_some hb with ⟨rfl, _⟩ | ⟨rfl, _⟩ | ⟨i, rfl, _⟩ <;> cases hag
    · rw [hm, hlm]
    · rw [hm, hlm]
  obtain ⟨a, b, h1, h2, h3⟩ := eqPart_all 40 t ks hk 10000 (by omega) w xs ys 0 r (by simp only [List.drop_zero]; rw [List.take_of_length_le (by omega), List.take_of_length_le (by omega)]; exact hr)
  rw [run_part_agg ⟨_, hu, hag⟩ hsz] at h1 h2
  simp only [List.drop_zero] at h1 h2
  rw [List.take_of_length_le (by omega)] at h1
  rw [List.take_of_length_le (by omega)] at h2
  injection h1 with h1; injection h2 with h2
  subst h1; subst h2
  exact h3

theorem eqGuard_plain : ∀ (d : Nat) (t : TypeId) (ks : List Kd), kindsIn P d t = some ks → ∀ D, d ≤ D → P.eqGuardType D t = false := by
  intro d
  induction d using Nat.strongRecOn with
  | _ d IH =>
    intro t ks hk D hD
    cases d with
    | zero => simp [kindsIn] at hk
    | succ d =>
      obtain ⟨D, rfl⟩ : ∃ k, D = k + 1 := ⟨D - 1, by omega⟩
      obtain ⟨u, hu, h⟩ := kindsIn_some hk
      unfold Program.eqGuardType
      rw [hu]
      rcases h with ⟨k, hb, rfl⟩ | ⟨n, e, es, m, rfl, hes, hse, rfl, hm, hlm⟩ | ⟨fs, m, rfl, hst, hfs, hm, hlm⟩
      · rcases basicKd_some hb with ⟨rfl, _⟩ | ⟨rfl, _⟩ | ⟨i, rfl, _⟩ <;> rfl
      · exact IH d (by omega) e es hes D (by omega)
      · have key : ∀ (fs : List Field) (d' off : Nat) (ks : List Kd), d' ≤ d → kindsFs P d' off fs = some ks → ∀ f ∈ fs, P.eqGuardType D f.type = false := by
          intro fs
          induction fs with
          | nil => intro d' off ks _ _ f hf; simp at hf
          | cons f fs ih =>
            intro d' off ks hd' hk g hg
            obtain ⟨d2, es, ls, rfl, rfl, hname, hsz, hes, hls, rfl⟩ := kindsFs_cons hk
            rcases List.mem_cons.1 hg with rfl | hg
            · exact IH d2 (by omega) _ _ hes D (by omega)
            · exact ih d2 _ ls (by omega) hls g hg
        simp only [Array.any_eq_false]
        intro i hi
        have := key fs d 0 ks (Nat.le_refl _) hfs fs[i] (List.getElem_mem hi)
        simp [this]

theorem run_checkKey_plain (em : Bool) : ∀ (d : Nat) (t : TypeId) (ks : List Kd), kindsIn P d t = some ks → ∀ D, d ≤ D → ∀ (w : World) (xs : List Value) (off : Nat), off + ks.length ≤ xs.length →
    ∃ a, (part t ⟨xs⟩ off).run P w = .ok a w ∧ (Instr.checkKey em D t a).run P w = .ok () w := by
  intro d
  induction d using Nat.strongRecOn with
  | _ d IH =>
    intro t ks hk D hD w xs off hoff
    cases d with
    | zero => simp [kindsIn] at hk
    | succ d =>
      obtain ⟨D, rfl⟩ : ∃ k, D = k + 1 := ⟨D - 1, by omega⟩
      obtain ⟨u, hu, h⟩ := kindsIn_some hk
      rcases h with ⟨k, hb, rfl⟩ | ⟨n, e, es, m, rfl, hes, hse, rfl, hm, hlm⟩ | ⟨fs, m, rfl, hst, hfs, hm, hlm⟩
      · have hg : AggIs P t false := by
          refine ⟨_, hu, ?_⟩
          rcases basicKd_some hb with ⟨rfl, _⟩ | ⟨rfl, _⟩ | ⟨i, rfl, _⟩ <;> rfl
        have hlt : off < xs.length := by simp at hoff; omega
        refine ⟨xs[off], run_part_one hg (List.getElem?_eq_getElem hlt) w, ?_⟩
        unfold Instr.checkKey
        rw [Sem.run_bind, run_under hu, Result.andThen_ok]
        rcases basicKd_some hb with ⟨rfl, _⟩ | ⟨rfl, _⟩ | ⟨i, rfl, _⟩ <;> rfl
      · have hg : AggIs P t true := ⟨_, hu, rfl⟩
        refine ⟨_, run_part_agg hg hm xs off w, ?_⟩
        unfold Instr.checkKey
        rw [Sem.run_bind, run_under hu, Result.andThen_ok]
        simp only [Std.Legacy.Range.forIn_eq_forIn_range', Std.Legacy.Range.size, Nat.sub_zero, Nat.add_one_sub_one, Nat.div_one]
        have hin : ∀ i, i < n → i * es.length + es.length ≤ ((xs.drop off).take m).length := by
          intro i hi
          have h1 : (i + 1) * es.length ≤ n * es.length := Nat.mul_le_mul_right _ hi
          rw [Nat.add_mul] at h1
          rw [repeatL_length] at hlm hoff
          simp; omega
        generalize (xs.drop off).take m = l at hin
        clear hm hlm hoff
        have key : ∀ k i, i + k ≤ n → ((forIn (List.range' i k) PUnit.unit fun i r => do Instr.checkKey em D e (← part e ⟨l⟩ (i * (← sizeOf e))); pure (ForInStep.yield PUnit.unit)) : Sem PUnit).run P w = .ok PUnit.unit w := by
          intro k
          induction k with
          | zero => intro i _; simp
          | succ k ih =>
            intro i hi
            obtain ⟨a, h1, h2⟩ := IH d (by omega) e es hes D (by omega) w l (i * es.length) (hin i (by omega))
            rw [List.range'_succ, List.forIn_cons]
            simp only [Sem.run_bind, run_size hse, Result.andThen_ok, h1, h2, Sem.run_pure]
            exact ih (i + 1) (by omega)
        have := key n 0 (by omega)
        simp only [Sem.run_bind, Sem.run_pure] at this ⊢
        rw [this]
        rfl
      · have hg : AggIs P t true := ⟨_, hu, rfl⟩
        refine ⟨_, run_part_agg hg hm xs off w, ?_⟩
        unfold Instr.checkKey
        rw [Sem.run_bind, run_under hu, Result.andThen_ok]
        simp only [← Array.forIn_toList]
        have hin : 0 + ks.length ≤ ((xs.drop off).take m).length := by simp; omega
        generalize (xs.drop off).take m = l at hin
        have key : ∀ (fs : List Field) (d' off : Nat) (ks : List Kd), d' ≤ d → kindsFs P d' off fs = some ks → off + ks.length ≤ l.length →
            ((forIn fs PUnit.unit fun f r => do (if f.name ≠ "_" then do Instr.checkKey em D f.type (← part f.type ⟨l⟩ f.offset); pure (ForInStep.yield PUnit.unit) else pure (ForInStep.yield PUnit.unit))) : Sem PUnit).run P w = .ok PUnit.unit w := by
          intro fs
          induction fs with
          | nil => intro d' off ks _ _ _; simp
          | cons f fs ih =>
            intro d' off ks hd' hk hoff
            obtain ⟨d2, es, ls, rfl, rfl, hname, hsz, hes, hls, rfl⟩ := kindsFs_cons hk
            simp at hoff
            obtain ⟨a, h1, h2⟩ := IH d2 (by omega) _ es hes D (by omega) w l f.offset (by omega)
            rw [List.forIn_cons]
            simp only [ne_eq, hname, not_false_eq_true, if_true, Sem.run_bind, h1, h2, Result.andThen_ok, Sem.run_pure]
            exact ih d2 _ ls (by omega) hls (by omega)
        have := key fs d 0 ks (Nat.le_refl _) hfs hin
        simp only [Sem.run_bind, Sem.run_pure] at this ⊢
        rw [this]
        rfl

end
end Go.Am
namespace Go.Am
set_option linter.unusedSectionVars false
variable [Env]
open Go.RowKit (Below)
set_option linter.unusedSimpArgs false
set_option linter.unusedVariables false

/-- What is asked of a program. -/
structure Fit (P : Program) : Prop where
  depth : 40 ≤ P.depth
  mixed : P.follows .mixedOrders = true

section
variable {P : Program} {base : Nat} {σ : Sg} {m : Mem} {w : World} {ρ : Operand → Value} {o : Oper} {tm : Tr Value} {act : Act}

/-! Operators. -/
theorem eqGuard_flat {op : BinOp} {t : TypeId} {x y : Operand} {a b : Value} (h1 : a ≠ .nilIface) (h2 : ∀ l, a ≠ .agg l) (w : World) : (eqGuard op t x y a b).run P w = .ok () w := by
  unfold eqGuard
  cases op <;> try rfl
  all_goals (simp only []; cases a <;> first | rfl | exact absurd rfl h1 | exact absurd rfl (h2 _))

theorem bytes_append (a b : List UInt8) : (⟨⟨a⟩⟩ : ByteArray) ++ ⟨⟨b⟩⟩ = ⟨⟨a ++ b⟩⟩ := by
  apply ByteArray.ext
  simp

theorem run_str {op : BinOp} {a b : List UInt8} {v : Value} (h : binS op a b = some v) (t : TypeId) (w : World) : (Go.binOp op t (.string ⟨⟨a⟩⟩) (.string ⟨⟨b⟩⟩)).run P w = .ok v w ∧ Flat v := by
  have he : ((⟨⟨a⟩⟩ : ByteArray).toList == (⟨⟨b⟩⟩ : ByteArray).toList) = eqU8s a b := by
    rw [← beq_toListBytes, Bool.eq_iff_iff, eqU8s_eq]
    rw [beq_toListBytes]
    simp [ByteArray.toList_eq]
  unfold binS at h
  cases op <;> try (cases h; done)
  case add =>
    obtain ⟨h1, h⟩ := bC_some.1 (show bC (Nat.blt (a.length + b.length) mostLen) ((appU a b).b fun l => some (Value.string ⟨⟨l⟩⟩)) none = some v from h)
    obtain ⟨l, hl, h⟩ := b_some.1 h
    injection h with h; subst h
    have := (appU_eq _ _ _).1 hl; subst this
    have h1' : a.length + b.length < mostLen := by
      simp [Nat.blt, nble] at h1; omega
    refine ⟨?_, .string _⟩
    simp only [Go.binOp, Op.stringOp]
    rw [if_neg]
    · rw [Sem.run_pure, bytes_append]
    · have e1 : (⟨⟨a⟩⟩ : ByteArray).size = a.length := rfl
      have e2 : (⟨⟨b⟩⟩ : ByteArray).size = b.length := rfl
      have : (IntKind.i64.max : Int) = 9223372036854775807 := rfl
      rw [e1, e2, this]
      unfold mostLen at h1'
      omega
  case eql =>
    have := vB_some (show vB (eqU8s a b) = some v from h); subst this
    exact ⟨by simp only [Go.binOp, Op.stringOp, Sem.run_pure, he], .bool _⟩
  case neq =>
    have := vB_some (show vB (bC (eqU8s a b) false true) = some v from h); subst this
    exact ⟨by simp only [Go.binOp, Op.stringOp, Sem.run_pure, he, bC_not], .bool _⟩

theorem row_fz (h : Rel P base σ m w) {b : Nat} {rw' : Bool} {e : TypeId} {vs : List Value} (hb : m.get b = some (.cells rw' e vs)) {p : Pl} (hp : σ b = some p) (hu : isU8 P e = false) :
    ∃ (arr : Array Value) (k : Nat), w.heap[p.blk]? = some (.cells arr e (k, k)) := by
  obtain ⟨_, _, _, _, arr, fz, h4, _, h6, _⟩ := h.cells b rw' e vs hb p hp
  obtain ⟨lo, hi⟩ := fz
  rcases h6 with h6 | ⟨_, h6⟩
  · exact ⟨arr, lo, by rw [h4]; simp at h6; rw [h6]⟩
  · rw [hu] at h6; cases h6

/-- Two places that lie in different blocks, neither of bytes, are not one. -/
theorem run_sameAddr_ne {w : World} {a b : Nat} {o q : Nat} (hne : a ≠ b) {A B : Array Value} {e f : TypeId} {k l : Nat} (ha : w.heap[a]? = some (.cells A e (k, k))) (hb : w.heap[b]? = some (.cells B f (l, l))) :
    (sameAddr ⟨a, o, none⟩ ⟨b, q, none⟩).run P w = .ok false w := by
  have fa : ∀ j, w.frozen? ⟨a, j, none⟩ = false := fun j => by simp only [World.frozen?, ha]; simp
  have fb : ∀ j, w.frozen? ⟨b, j, none⟩ = false := fun j => by simp only [World.frozen?, hb]; simp
  have sa : w.shape? a = some (e, A.size) := by simp [World.shape?, ha]
  have sb : w.shape? b = some (f, B.size) := by simp [World.shape?, hb]
  have hab : (a == b) = false := by simpa using hne
  simp only [sameAddr, hab, Bool.false_eq_true, if_false, Sem.run_bind, frozen, Sem.run, fa, fb, Result.andThen_ok, Bool.and_self, noView, viewAt, shape, sa, sb, Option.isSome_some, if_true, Sem.run_pure, Bool.false_and, mayBeOne, stringish, Bool.or_self]
  simp [Sem.run, fa, fb, sa, sb]

section
variable (d : Nat)
theorem run_eqi_ptr {t e : TypeId} (hu : P.underlying t = some (.pointer e)) {a b : Option Addr} (h : a = none ∨ b = none) (w : World) : (Op.equalIn (d + 1) t (.pointer a) (.pointer b)).run P w = .ok (a.isNone && b.isNone) w := by
  cases a <;> cases b <;> simp only [Op.equalIn, Sem.run_bind, run_under hu, Result.andThen_ok, Sem.run_pure] <;> first | rfl | (simp at h)
theorem run_eqi_sl {t e : TypeId} (hu : P.underlying t = some (.slice e)) {a b : Option Addr} (l c l' c' : Nat) (h : a = none ∨ b = none) (w : World) : (Op.equalIn (d + 1) t (.slice a l c) (.slice b l' c')).run P w = .ok (a.isNone && b.isNone) w := by
  cases a <;> cases b <;> simp only [Op.equalIn, Sem.run_bind, run_under hu, Result.andThen_ok, Sem.run_pure] <;> first | rfl | (simp at h)
theorem run_eqi_map {t k e : TypeId} (hu : P.underlying t = some (.map k e)) {a b : Option Nat} (h : a = none ∨ b = none) (w : World) : (Op.equalIn (d + 1) t (.map a) (.map b)).run P w = .ok (a.isNone && b.isNone) w := by
  cases a <;> cases b <;> simp only [Op.equalIn, Sem.run_bind, run_under hu, Result.andThen_ok, Sem.run_pure] <;> first | rfl | (simp at h)
theorem run_eqi_bool {t : TypeId} (hu : P.underlying t = some .bool) (a b : Bool) (w : World) : (Op.equalIn (d + 1) t (.bool a) (.bool b)).run P w = .ok (a == b) w := by
  simp only [Op.equalIn, Sem.run_bind, run_under hu, Result.andThen_ok, Sem.run_pure]
theorem run_eqi_fn {t : TypeId} {ps rs : Array TypeId} {v : Bool} (hu : P.underlying t = some (.func ps rs v)) (f : Fn) (a b : Array Value) (w : World) :
    (Op.equalIn (d + 1) t .nilFunc .nilFunc).run P w = .ok true w ∧ (Op.equalIn (d + 1) t .nilFunc (.func f a b)).run P w = .ok false w ∧ (Op.equalIn (d + 1) t (.func f a b) .nilFunc).run P w = .ok false w := by
  refine ⟨?_, ?_, ?_⟩ <;> simp only [Op.equalIn, Sem.run_bind, run_under hu, Result.andThen_ok, Sem.run_pure]
theorem run_eqi_same {t e : TypeId} {n : Nat} (hu : P.underlying t = some (.pointer e)) (hn : sizeT P e = some n) (h0 : n ≠ 0) (a b : Addr) (w : World) :
    (Op.equalIn (d + 1) t (.pointer (some a)) (.pointer (some b))).run P w = (sameAddr a b).run P w := by
  simp only [Op.equalIn, Sem.run_bind, run_under hu, Result.andThen_ok, run_size hn]
  rw [if_pos h0]
end
theorem run_eq_ptr {t e : TypeId} (hu : P.underlying t = some (.pointer e)) {a b : Option Addr} (h : a = none ∨ b = none) (w : World) : (Op.equal t (.pointer a) (.pointer b)).run P w = .ok (a.isNone && b.isNone) w := run_eqi_ptr 9999 hu h w
theorem run_eq_sl {t e : TypeId} (hu : P.underlying t = some (.slice e)) {a b : Option Addr} (l c l' c' : Nat) (h : a = none ∨ b = none) (w : World) : (Op.equal t (.slice a l c) (.slice b l' c')).run P w = .ok (a.isNone && b.isNone) w := run_eqi_sl 9999 hu l c l' c' h w
theorem run_eq_map {t k e : TypeId} (hu : P.underlying t = some (.map k e)) {a b : Option Nat} (h : a = none ∨ b = none) (w : World) : (Op.equal t (.map a) (.map b)).run P w = .ok (a.isNone && b.isNone) w := run_eqi_map 9999 hu h w
theorem run_eq_bool {t : TypeId} (hu : P.underlying t = some .bool) (a b : Bool) (w : World) : (Op.equal t (.bool a) (.bool b)).run P w = .ok (a == b) w := run_eqi_bool 9999 hu a b w
theorem run_eq_fn {t : TypeId} {ps rs : Array TypeId} {v : Bool} (hu : P.underlying t = some (.func ps rs v)) (f : Fn) (a b : Array Value) (w : World) :
    (Op.equal t .nilFunc .nilFunc).run P w = .ok true w ∧ (Op.equal t .nilFunc (.func f a b)).run P w = .ok false w ∧ (Op.equal t (.func f a b) .nilFunc).run P w = .ok false w := run_eqi_fn 9999 hu f a b w
theorem run_eq_same {t e : TypeId} {n : Nat} (hu : P.underlying t = some (.pointer e)) (hn : sizeT P e = some n) (h0 : n ≠ 0) (a b : Addr) (w : World) :
    (Op.equal t (.pointer (some a)) (.pointer (some b))).run P w = (sameAddr a b).run P w := run_eqi_same 9999 hu hn h0 a b w

theorem eqCell_rel {k : Kd} {x y x' y' : Value} {r : Bool} (hx : VRel σ x x') (hy : VRel σ y y') (h : eqCell k x y = some r) : eqCell k x' y' = some r := by
  cases k with
  | bool =>
    obtain ⟨a, ha, h1⟩ := b_some.1 (show ((vBool x).b fun a => (vBool y).b fun b => some (eqB a b)) = some r from h)
    obtain ⟨b, hb, h2⟩ := b_some.1 h1
    have := vBool_some ha; subst this
    have := vBool_some hb; subst this
    rw [hx.bool_inv, hy.bool_inv]; exact h
  | str =>
    obtain ⟨a, ha, h1⟩ := b_some.1 (show ((vStr x).b fun a => (vStr y).b fun b => some (eqU8s a b)) = some r from h)
    obtain ⟨b, hb, h2⟩ := b_some.1 h1
    have := vStr_some ha; subst this
    have := vStr_some hb; subst this
    rw [hx.string_inv, hy.string_inv]; exact h
  | int i =>
    obtain ⟨j, a, ha, h1⟩ := b2_some.1 (show (b2 (vInt x) fun j a => b2 (vInt y) fun l b => bC (bC (eqK j i) (eqK l i) false) (some (eqI a b)) none) = some r from h)
    obtain ⟨l, b, hb, h2⟩ := b2_some.1 h1
    have := vInt_some ha; subst this
    have := vInt_some hb; subst this
    rw [hx.int_inv, hy.int_inv]; exact h

theorem eqKd_rel : ∀ (ks : List Kd) (xs ys xs' ys' : List Value) (r : Bool), LRel σ xs xs' → LRel σ ys ys' → eqKd ks xs ys = some r → eqKd ks xs' ys' = some r := by
  intro ks
  induction ks with
  | nil =>
    intro xs ys xs' ys' r hx hy h
    obtain ⟨rfl, rfl, rfl⟩ := (eqKd_nil _ _ _).1 h
    rw [hx.nil_inv, hy.nil_inv]; rfl
  | cons k ks ih =>
    intro xs ys xs' ys' r hx hy h
    obtain ⟨x, xs0, y, ys0, b, c, rfl, rfl, hb, hc, rfl⟩ := (eqKd_cons _ _ _ _ _).1 h
    obtain ⟨x', xr, rfl, h1, h2⟩ := hx.head
    obtain ⟨y', yr, rfl, h3, h4⟩ := hy.head
    exact (eqKd_cons _ _ _ _ _).2 ⟨x', xr, y', yr, b, c, rfl, rfl, eqCell_rel h1 h3 hb, ih _ _ _ _ _ h2 h4 hc, rfl⟩

theorem sim_bin (F : Fit P) (h : Rel P base σ m w) {op : BinOp} {t ty : TypeId} {x y : Operand} (ho : o.op = .binOp op t x y ty) {c d : Oc} (hx : Ev σ tm ρ x c) (hy : Ev σ tm ρ y d) (hf : oBin P op t c d tm m = some act) :
    OpSim P base σ m w ρ o act := by
  obtain ⟨a, ha, hf⟩ := b_some.1 hf
  obtain ⟨b, hb, hf⟩ := b_some.1 hf
  obtain ⟨v, hv, rfl⟩ := okV_some hf
  have ra := hx _ ha
  have rb := hy _ hb
  have he : execOp ρ o = (do pure (.value (← (do eqGuard op t x y (ρ x) (ρ y); binOp op t (ρ x) (ρ y))))) := by rw [execOp, ho]
  have fin : ∀ (u : Value), (eqGuard op t x y (ρ x) (ρ y)).run P w = .ok () w → (Go.binOp op t (ρ x) (ρ y)).run P w = .ok u w → VRel σ v u → OpSim P base σ m w ρ o (.val v m) := by
    intro u h1 h2 h3
    refine OpSim.pureV h he (v' := u) ?_ h3
    rw [Sem.run_bind, h1, Result.andThen_ok, h2]
  unfold binA at hv
  cases hi : vInt a with
  | some p =>
    obtain ⟨k, n⟩ := p
    rw [hi] at hv
    obtain ⟨l, n2, hi2, hw⟩ := b2_some.1 (show (b2 (vInt b) fun l b => (intC op).b fun f => f k n l b) = some v from hv)
    rw [intC_eq] at hw
    have := vInt_some hi; subst this
    have := vInt_some hi2; subst this
    have e1 := ra.int_inv
    have e2 := rb.int_inv
    obtain ⟨h1, h2⟩ := run_int P (show intA op k n l n2 = some v from hw) t w
    exact fin v (by rw [e1]; exact eqGuard_flat (by simp) (by simp) w) (by rw [e1, e2]; exact h1) h2.rel
  | none =>
    rw [hi] at hv
    cases hs : vStr a with
    | some s =>
      rw [hs] at hv
      obtain ⟨s2, hs2, hw⟩ := b_some.1 (show ((vStr b).b fun b => binS op s b) = some v from hv)
      have := vStr_some hs; subst this
      have := vStr_some hs2; subst this
      have e1 := ra.string_inv
      have e2 := rb.string_inv
      obtain ⟨h1, h2⟩ := run_str (P := P) hw t w
      exact fin v (by rw [e1]; exact eqGuard_flat (by simp) (by simp) w) (by rw [e1, e2]; exact h1) h2.rel
    | none =>
      rw [hs] at hv
      cases hnm : nmV a with
      | some nm =>
        rw [hnm] at hv
        obtain ⟨nb, nk⟩ := nm
        obtain ⟨l, c, hc, hq⟩ := b2_some.1 (show (b2 (vInt b) fun l c => bC (eqK l .i64) (bC (Nat.beq nk 3) (nmCmp op nb c) none) none) = some v from hv)
        clear hv
        have hq1 := (bC_some.1 hq).1
        have hkk := (bC_some.1 (bC_some.1 hq).2).1
        have hq3 := (bC_some.1 (bC_some.1 hq).2).2
        clear hq
        have hq1 := (eqK_eq _ _).1 hq1; subst hq1
        have := nmV_some hnm; subst this
        have := vInt_some hc; subst this
        have e2 := rb.int_inv
        have hkk := (nbeq _ _).1 hkk
        have hlen : ∃ n : Nat, ρ x = .int .i64 n ∧ n ≤ rowLim nb ∧ (rowIp nb = true → 1 ≤ n) := by
          generalize hρe : ρ x = y at ra
          cases ra with
          | nm _ ra =>
          cases ra with
          | flt hk' => simp only at hk'; omega
          | row j hk' => simp only at hk'; omega
          | nil j hk' => simp only at hk'; omega
          | ptr c' hk' => simp only at hk'; omega
          | len hk' =>
            refine ⟨_, rfl, Env.short _, fun hi => ?_⟩
            have h0 := Env.fst _ hi
            rcases Nat.eq_zero_or_pos (Env.bytes nb).length with h | h
            · rw [List.eq_nil_of_length_eq_zero h] at h0; cases h0
            · exact h
        obtain ⟨n, e1, hn1, hn2⟩ := hlen
        have hg : (eqGuard op t x y (ρ x) (ρ y)).run P w = .ok () w := by rw [e1]; exact eqGuard_flat (by simp) (by simp) w
        have two : (op = .leq ∨ op = .gtr) := by
          unfold nmCmp at hq3
          split at hq3
          · exact .inr rfl
          · exact .inl rfl
          · cases hq3
        have fin2 : ∀ b0, leI n c = b0 → (op = .leq → v = .bool b0) → (op = .gtr → v = .bool (!b0)) → OpSim P base σ m w ρ o (.val v m) := by
          intro b0 hb0 k1 k2
          rcases two with rfl | rfl
          · have := k1 rfl; subst this
            refine fin (.bool b0) hg ?_ (.bool _)
            rw [e1, e2]
            exact (run_int P (show intA .leq .i64 n .i64 c = some (.bool b0) from by show bC (eqK .i64 .i64) (vB (leI n c)) none = _; rw [hb0]; cases b0 <;> rfl) t w).1
          · have := k2 rfl; subst this
            refine fin (.bool (!b0)) hg ?_ (.bool _)
            rw [e1, e2]
            exact (run_int P (show intA .gtr .i64 n .i64 c = some (.bool (!b0)) from by show bC (eqK .i64 .i64) (vB (bC (leI n c) false true)) none = _; rw [hb0]; cases b0 <;> rfl) t w).1
        have tr : ∀ b0, leI n c = b0 ↔ decide ((n : Int) ≤ c) = b0 := fun b0 => by
          have : leI n c = decide ((n : Int) ≤ c) := by rw [Bool.eq_iff_iff, leI_eq]; simp
          rw [this]
        rcases two with rfl | rfl
        · obtain ⟨h1, hq⟩ := bC_some.1 (show bC (leI (.ofNat (rowLim nb)) c) (vB true) none = some v from hq3)
          have h1 : ((rowLim nb : Nat) : Int) ≤ c := (leI_eq _ _).1 h1
          have := vB_some hq; subst this
          exact fin2 true ((tr _).2 (by simp; omega)) (fun _ => rfl) (fun h => by cases h)
        · have h0 : nmGtr nb c = some v := hq3
          unfold nmGtr at h0
          cases h1 : leI (.ofNat (rowLim nb)) c with
          | true =>
            rw [h1] at h0
            have := vB_some (show vB false = some v from h0); subst this
            have h1 : ((rowLim nb : Nat) : Int) ≤ c := (leI_eq _ _).1 h1
            exact fin2 true ((tr _).2 (by simp; omega)) (fun h => by cases h) (fun _ => rfl)
          | false =>
            rw [h1] at h0
            obtain ⟨h2, h3⟩ := bC_some.1 (show bC (bC (rowIp nb) (leI c (.ofNat 0)) false) (vB true) none = some v from h0)
            have := vB_some h3; subst this
            cases h4 : rowIp nb with
            | false => rw [h4] at h2; cases h2
            | true =>
              rw [h4] at h2
              have h5 : c ≤ 0 := (leI_eq _ _).1 h2
              have h6 := hn2 h4
              exact fin2 false ((tr _).2 (by simp; omega)) (fun h => by cases h) (fun _ => rfl)
      | none =>
      rw [hnm] at hv
      obtain ⟨e, he1, hv⟩ := b_some.1 (show ((eqOnly op).b fun e => (eqA P t a b m).b fun r => vB (bC e r (bC r false true))) = some v from hv)
      obtain ⟨r, hr, hv⟩ := b_some.1 hv
      have := vB_some hv; subst this
      -- the plain comparison
      have cmp : (Go.binOp op t (ρ x) (ρ y) = (do pure (.bool (← Op.equal t (ρ x) (ρ y)))) ∧ e = true) ∨ (Go.binOp op t (ρ x) (ρ y) = (do pure (.bool (!(← Op.equal t (ρ x) (ρ y))))) ∧ e = false) →
          (eqGuard op t x y (ρ x) (ρ y)).run P w = .ok () w → (Op.equal t (ρ x) (ρ y)).run P w = .ok r w → OpSim P base σ m w ρ o (.val (.bool (bC e r (bC r false true))) m) := by
        intro hop hg hq
        rcases hop with ⟨hop, rfl⟩ | ⟨hop, rfl⟩
        · exact fin (.bool r) hg (by rw [hop, Sem.run_bind, hq]; rfl) (.bool _)
        · refine fin (.bool (!r)) hg (by rw [hop, Sem.run_bind, hq]; rfl) ?_
          rw [show bC false r (bC r false true) = !r from bC_not r]
          exact .bool _
      have hop : ∀ a' b', ρ x = a' → ρ y = b' → (∀ k n, a' ≠ .int k n) → (∀ k n, a' ≠ .float k n) → (∀ k n q, a' ≠ .complex k n q) → (∀ s, a' ≠ .string s) →
          (Go.binOp op t (ρ x) (ρ y) = (do pure (.bool (← Op.equal t (ρ x) (ρ y)))) ∧ e = true) ∨ (Go.binOp op t (ρ x) (ρ y) = (do pure (.bool (!(← Op.equal t (ρ x) (ρ y))))) ∧ e = false) := by
        intro a' b' e1 e2 n1 n2 n3 n4
        rw [e1, e2]
        cases op <;> simp [eqOnly] at he1 <;> subst he1
        · left
          refine ⟨?_, rfl⟩
          cases a' <;> first | rfl | exact absurd rfl (n1 _ _) | exact absurd rfl (n2 _ _) | exact absurd rfl (n3 _ _ _) | exact absurd rfl (n4 _)
        · right
          refine ⟨?_, rfl⟩
          cases a' <;> first | rfl | exact absurd rfl (n1 _ _) | exact absurd rfl (n2 _ _) | exact absurd rfl (n3 _ _ _) | exact absurd rfl (n4 _)
      -- the shapes, one by one
      have go : ∀ a' b', ρ x = a' → ρ y = b' → (∀ k n, a' ≠ .int k n) → (∀ k n, a' ≠ .float k n) → (∀ k n q, a' ≠ .complex k n q) → (∀ s, a' ≠ .string s) → a' ≠ .nilIface → (∀ l, a' ≠ .agg l) → (Op.equal t a' b').run P w = .ok r w →
          OpSim P base σ m w ρ o (.val (.bool (bC e r (bC r false true))) m) := by
        intro a' b' e1 e2 n1 n2 n3 n4 n5 n6 hq
        exact cmp (hop a' b' e1 e2 n1 n2 n3 n4) (by rw [e1]; exact eqGuard_flat n5 n6 w) (by rw [e1, e2]; exact hq)
      unfold eqA at hr
      cases hpv : ptrV a with
      | some pa =>
        have e1 : a = .pointer pa := by cases a <;> first | (injection hpv with hpv; rw [hpv]) | cases hpv
        subst e1
        rw [hpv] at hr
        obtain ⟨pb, hpb, hr⟩ := b_some.1 (show ((ptrV b).b fun b => (tPointer P t).b fun _ => nil2 pa b fun a b => samePtr P t a b m) = some r from hr)
        have e2 : b = .pointer pb := by cases b <;> first | (injection hpb with hpb; rw [hpb]) | cases hpb
        subst e2
        obtain ⟨el, hel, hr⟩ := b_some.1 hr
        have hu := tPointer_some hel
        cases pa with
        | none =>
          have q1 : ρ x = .pointer none := by cases hgx : ρ x <;> rw [hgx] at ra <;> cases ra; rfl
          cases pb with
          | none =>
            have q2 : ρ y = .pointer none := by cases hgx : ρ y <;> rw [hgx] at rb <;> cases rb; rfl
            injection (show some true = some r from hr) with hr; subst hr
            exact go _ _ q1 q2 (by simp) (by simp) (by simp) (by simp) (by simp) (by simp) (run_eq_ptr hu (.inl rfl) w)
          | some pb =>
            obtain ⟨b1, o1, s1⟩ := pb
            obtain ⟨p, hp, q2⟩ := rb.ptr_inv
            injection (show some false = some r from hr) with hr; subst hr
            exact go _ _ q1 q2 (by simp) (by simp) (by simp) (by simp) (by simp) (by simp) (run_eq_ptr hu (.inl rfl) w)
        | some pa =>
          obtain ⟨b0, o0, s0⟩ := pa
          obtain ⟨p, hp, q1⟩ := ra.ptr_inv
          cases pb with
          | none =>
            have q2 : ρ y = .pointer none := by cases hgx : ρ y <;> rw [hgx] at rb <;> cases rb; rfl
            injection (show some false = some r from hr) with hr; subst hr
            exact go _ _ q1 q2 (by simp) (by simp) (by simp) (by simp) (by simp) (by simp) (run_eq_ptr hu (.inr rfl) w)
          | some pb =>
            obtain ⟨b1, o1, s1⟩ := pb
            obtain ⟨q, hq, q2⟩ := rb.ptr_inv
            obtain ⟨el', hel', hr⟩ := b_some.1 (show samePtr P t ⟨b0, o0, s0⟩ ⟨b1, o1, s1⟩ m = some r from hr)
            rw [hel] at hel'; injection hel' with hel'; subst hel'
            obtain ⟨n, hn, hr⟩ := b_some.1 hr
            obtain ⟨hn0, hr⟩ := bC_none.1 (show bC (Nat.beq n 0) none (bC (Nat.beq b0 b1) (some (Nat.beq o0 o1)) ((m.row b0).b fun r => rowC r fun _ e1 _ => (m.row b1).b fun s => rowC s fun _ e2 _ => bC (isU8 P e1) none (bC (isU8 P e2) none (some false)))) = some r from hr)
            have hn0 := (nbeqf _ _).1 hn0
            have key : (Op.equal t (ρ x) (ρ y)).run P w = (sameAddr ⟨p.blk, p.sh + o0, none⟩ ⟨q.blk, q.sh + o1, none⟩).run P w := by
              rw [q1, q2]
              exact run_eq_same hu hn hn0 _ _ w
            refine go _ _ q1 q2 (by simp) (by simp) (by simp) (by simp) (by simp) (by simp) ?_
            rw [← q1, ← q2, key]
            by_cases hbb : b0 = b1
            · subst hbb
              rw [hp] at hq; injection hq with hq; subst hq
              have : bC (Nat.beq b0 b0) (some (Nat.beq o0 o1)) ((m.row b0).b fun r => rowC r fun _ e1 _ => (m.row b0).b fun s => rowC s fun _ e2 _ => bC (isU8 P e1) none (bC (isU8 P e2) none (some false))) = some (Nat.beq o0 o1) := by
                rw [(nbeq _ _).2 rfl]
              rw [this] at hr
              injection hr with hr; subst hr
              unfold sameAddr
              simp only [beq_self_eq_true, if_true, Sem.run_pure]
              congr 1
              rw [Bool.eq_iff_iff, nbeq]
              simp
            · rw [(nbeqf _ _).2 hbb] at hr
              obtain ⟨r1, hr1, hr⟩ := b_some.1 (show ((m.row b0).b fun r => rowC r fun _ e1 _ => (m.row b1).b fun s => rowC s fun _ e2 _ => bC (isU8 P e1) none (bC (isU8 P e2) none (some false))) = some r from hr)
              obtain ⟨w1, f1, v1⟩ := r1
              obtain ⟨r2, hr2, hr⟩ := b_some.1 (show ((m.row b1).b fun s => rowC s fun _ e2 _ => bC (isU8 P f1) none (bC (isU8 P e2) none (some false))) = some r from hr)
              obtain ⟨w2, f2, v2⟩ := r2
              obtain ⟨g1, hr⟩ := bC_none.1 (show bC (isU8 P f1) none (bC (isU8 P f2) none (some false)) = some r from hr)
              obtain ⟨g2, hr⟩ := bC_none.1 hr
              injection hr with hr; subst hr
              obtain ⟨A, k, hA⟩ := row_fz h (row_some hr1) hp g1
              obtain ⟨B, l, hB⟩ := row_fz h (row_some hr2) hq g2
              exact run_sameAddr_ne (fun e => hbb (h.inj _ _ _ _ _ _ (row_some hr1) (row_some hr2) hp hq e)) hA hB
      | none =>
        rw [hpv] at hr
        have hr : eqSl P t a b = some r := hr
        unfold eqSl at hr
        cases hsv : vSlice a with
        | some sl =>
          obtain ⟨pa, la, ca⟩ := sl
          have := vSlice_some hsv; subst this
          obtain ⟨sl2, hs2, hr⟩ := b_some.1 (show ((vSlice b).b fun b => slC b fun b _ _ => (tSlice P t).b fun _ => nil2 pa b fun _ _ => none) = some r from hr)
          obtain ⟨pb, lb, cb⟩ := sl2
          have := vSlice_some hs2; subst this
          obtain ⟨el, hel, hr⟩ := b_some.1 (show ((tSlice P t).b fun _ => nil2 pa pb fun _ _ => none) = some r from hr)
          have hu := tSlice_some hel
          cases pa with
          | none =>
            have q1 := ra.nilSl_inv
            cases pb with
            | none =>
              injection (show some true = some r from hr) with hr; subst hr
              exact go _ _ q1 rb.nilSl_inv (by simp) (by simp) (by simp) (by simp) (by simp) (by simp) (run_eq_sl hu _ _ _ _ (.inl rfl) w)
            | some pb =>
              obtain ⟨b1, o1, s1⟩ := pb
              injection (show some false = some r from hr) with hr; subst hr
              obtain ⟨p, _, _, hh⟩ := rb.slice_inv
              rcases hh with ⟨_, q2⟩ | ⟨_, _, _, _, _, _, _, q2⟩ | ⟨_, _, _, _, q2⟩ <;>
                exact go _ _ q1 q2 (by simp) (by simp) (by simp) (by simp) (by simp) (by simp) (run_eq_sl hu _ _ _ _ (.inl rfl) w)
          | some pa =>
            obtain ⟨b0, o0, s0⟩ := pa
            cases pb with
            | none =>
              injection (show some false = some r from hr) with hr; subst hr
              have q2 := rb.nilSl_inv
              obtain ⟨p, _, _, hh⟩ := ra.slice_inv
              rcases hh with ⟨_, q1⟩ | ⟨_, _, _, _, _, _, _, q1⟩ | ⟨_, _, _, _, q1⟩ <;>
                exact go _ _ q1 q2 (by simp) (by simp) (by simp) (by simp) (by simp) (by simp) (run_eq_sl hu _ _ _ _ (.inr rfl) w)
            | some pb => cases hr
        | none =>
          rw [hsv] at hr
          have hr : eqMap P t a b = some r := hr
          unfold eqMap at hr
          cases hmv : vMap a with
          | some pa =>
            have := vMap_some hmv; subst this
            rw [hmv] at hr
            obtain ⟨pb, hpb, hr2⟩ := b_some.1 (show ((vMap b).b fun b => b2 (tMap P t) fun _ _ => nil2 pa b fun _ _ => none) = some r from hr)
            have := vMap_some hpb; subst this
            obtain ⟨kt, et, hel, hr⟩ := b2_some.1 hr2
            have hu := tMap_some hel
            cases pa with
            | none =>
              have q1 : ρ x = .map none := by cases hgx : ρ x <;> rw [hgx] at ra <;> cases ra; rfl
              cases pb with
              | none =>
                have q2 : ρ y = .map none := by cases hgx : ρ y <;> rw [hgx] at rb <;> cases rb; rfl
                injection (show some true = some r from hr) with hr; subst hr
                exact go _ _ q1 q2 (by simp) (by simp) (by simp) (by simp) (by simp) (by simp) (run_eq_map hu (.inl rfl) w)
              | some pb =>
                injection (show some false = some r from hr) with hr; subst hr
                obtain ⟨z, q2⟩ : ∃ z, ρ y = .map (some z) := by cases hgx : ρ y <;> rw [hgx] at rb <;> cases rb; exact ⟨_, rfl⟩
                exact go _ _ q1 q2 (by simp) (by simp) (by simp) (by simp) (by simp) (by simp) (run_eq_map hu (.inl rfl) w)
            | some pa =>
              cases pb with
              | none =>
                injection (show some false = some r from hr) with hr; subst hr
                have q2 : ρ y = .map none := by cases hgx : ρ y <;> rw [hgx] at rb <;> cases rb; rfl
                obtain ⟨z, q1⟩ : ∃ z, ρ x = .map (some z) := by cases hgx : ρ x <;> rw [hgx] at ra <;> cases ra; exact ⟨_, rfl⟩
                exact go _ _ q1 q2 (by simp) (by simp) (by simp) (by simp) (by simp) (by simp) (run_eq_map hu (.inr rfl) w)
              | some pb => cases hr
          | none =>
            rw [hmv] at hr
            have hr : eqBool P t a b = some r := hr
            unfold eqBool at hr
            cases hbv : vBool a with
            | some pa =>
              have := vBool_some hbv; subst this
              rw [hbv] at hr
              obtain ⟨pb, hpb, hr⟩ := b_some.1 (show ((vBool b).b fun b => (undA P t).b fun u => bC (dBool u) (some (eqB pa b)) none) = some r from hr)
              have := vBool_some hpb; subst this
              obtain ⟨u, hu, hr⟩ := b_some.1 hr
              replace hu := undA_some hu
              obtain ⟨hd, hr⟩ := bC_some.1 hr
              have : u = .bool := by cases u <;> first | rfl | cases hd
              subst this
              injection hr with hr; subst hr
              refine go _ _ ra.bool_inv rb.bool_inv (by simp) (by simp) (by simp) (by simp) (by simp) (by simp) ?_
              have : eqB pa pb = (pa == pb) := by cases pa <;> cases pb <;> rfl
              rw [this]; exact run_eq_bool hu _ _ w
            | none =>
              rw [hbv] at hr
              have hr : eqAgg P t a b = some r := hr
              unfold eqAgg at hr
              cases hav : vAgg a with
              | some la =>
                have := vAgg_some hav; subst this
                obtain ⟨lb, hlb, hr⟩ := b_some.1 (show ((vAgg b).b fun b => (undA P t).b fun u => bC (dAgg u) ((kindsT P t).b fun ks => eqKd ks la b) none) = some r from hr)
                have := vAgg_some hlb; subst this
                obtain ⟨u, hu, hr⟩ := b_some.1 hr
                replace hu := undA_some hu
                obtain ⟨hd, hr⟩ := bC_some.1 hr
                obtain ⟨ks, hks, hr⟩ := b_some.1 hr
                obtain ⟨la', q1, hla⟩ := ra.agg_inv
                obtain ⟨lb', q2, hlb'⟩ := rb.agg_inv
                have hr' := eqKd_rel ks la lb la' lb' r hla hlb' hr
                refine cmp (hop _ _ q1 q2 (by simp) (by simp) (by simp) (by simp)) ?_ (by rw [q1, q2]; exact run_equal_plain hks hu hd hr' w)
                rw [q1, q2]
                exact run_eqGuard_agg w op t x y _ _ (eqGuard_plain 40 t ks hks _ F.depth)
              | none =>
                rw [hav] at hr
                have hr : eqFn P t a b = some r := hr
                obtain ⟨u, hu, hr⟩ := b_some.1 hr
                replace hu := undA_some hu
                obtain ⟨hd, hr⟩ := bC_some.1 hr
                obtain ⟨na, hna, hr⟩ := b_some.1 hr
                obtain ⟨nb, hnb, hr⟩ := b_some.1 hr
                obtain ⟨ps, rs, vr, rfl⟩ : ∃ ps rs vr, u = .func ps rs vr := by cases u <;> first | exact ⟨_, _, _, rfl⟩ | cases hd
                have fnv : ∀ {v v' : Value} {n : Bool}, fnNil v = some n → VRel σ v v' → (n = true ∧ v' = .nilFunc) ∨ (n = false ∧ ∃ f i c, v' = .func f i c) := by
                  intro v v' n hn hv
                  cases v <;> try (cases hn; done)
                  · injection hn with hn; right; refine ⟨hn.symm, ?_⟩; cases hv; exact ⟨_, _, _, rfl⟩
                  · injection hn with hn; left; refine ⟨hn.symm, ?_⟩; cases hv; rfl
                rcases fnv hna ra with ⟨rfl, q1⟩ | ⟨rfl, f1, i1, c1, q1⟩ <;> rcases fnv hnb rb with ⟨rfl, q2⟩ | ⟨rfl, f2, i2, c2, q2⟩
                · injection (show some true = some r from hr) with hr; subst hr
                  exact go _ _ q1 q2 (by simp) (by simp) (by simp) (by simp) (by simp) (by simp) (run_eq_fn hu (.func 0) #[] #[] w).1
                · injection (show some false = some r from hr) with hr; subst hr
                  exact go _ _ q1 q2 (by simp) (by simp) (by simp) (by simp) (by simp) (by simp) (run_eq_fn hu _ _ _ w).2.1
                · injection (show some false = some r from hr) with hr; subst hr
                  exact go _ _ q1 q2 (by simp) (by simp) (by simp) (by simp) (by simp) (by simp) (run_eq_fn hu _ _ _ w).2.2
                · cases hr

end
end Go.Am
