/- NetMay: net.New. -/
import Derived.Test.YtnhpljgeckdedaaGreatNmE
import Derived.Deep.RegionHeld3
import Derived.Deep.AppendLies
set_option linter.unusedSimpArgs false
set_option linter.unusedVariables false
set_option linter.constructorNameAsVariable false
namespace Go.Nm
open Go Go.Am Go.Hm Go.Proofs Go.RowKit
set_option maxRecDepth 100000
/-- May a net be: how many hosts, the longest delay. -/
def may0N (n : Nat) (most : Int) : Bool := decide (1 ≤ n) && decide (n ≤ 4) && decide (1 ≤ most) && decide (most ≤ 60000)
/-- A net came, or none. -/
def NewN (may : Bool) (w : World) (e : Ending) (w' : World) : Prop :=
  ∃ x n, e = .returned (.tuple #[x, .int .i64 n]) ∧ Below w.heap.size w w' ∧ ((may = true ∧ n = 0 ∧ ∃ p, x = .pointer (some p)) ∨ (may = false ∧ n = 1 ∧ x = .pointer none))
theorem NewN.no {w w' : World} (hb : Below w.heap.size w w') {may : Bool} (h : may = false) : NewN may w (.returned (.tuple #[.pointer none, .int .i64 1])) w' := ⟨_, _, rfl, hb, .inr ⟨h, rfl, rfl⟩⟩
/-- A net that is under way: kn hosts, km addresses. -/
structure NetI (w W : World) (l : List Ad) (kn km : Nat) : Prop where
  bel : Below w.heap.size w W
  net : ∃ arr v xs, W.heap[w.heap.size + 1]? = some (Obj.cells arr 62 (0, 0)) ∧ arr.size = 11 ∧ arr[0]? = some v ∧ W.ownsRow (w.heap.size + 3) 86 1 v kn xs
  map : MapAt W (w.heap.size + 2) (l.take km)
  sz : w.heap.size + 3 ≤ W.heap.size
theorem MapAt.below {W W' : World} {M : Nat} {l : List Ad} (h : MapAt W M l) (hb : Below W.heap.size W W') : MapAt W' M l := by
  obtain ⟨es, c, h1, h2⟩ := h
  exact ⟨es, c, (hb.block M (Array.getElem?_eq_some_iff.1 h1).1).trans h1, h2⟩
theorem NetI.below {w W W' : World} {l : List Ad} {kn km : Nat} (h : NetI w W l kn km) (hb : Below W.heap.size W W') : NetI w W' l kn km := by
  obtain ⟨arr, v, xs, h1, h2, h3, h4⟩ := h.net
  exact ⟨h.bel.trans (hb.mono h.bel.size), ⟨arr, v, xs, (hb.block _ (by have := h.sz; omega)).trans h1, h2, h3, ownsRow_below h4 hb⟩, h.map.below hb, Nat.le_trans h.sz hb.size⟩
theorem exec_lookup {o : Oper} {a : Act} {w : World} {t : TypeId} {x i : Operand} (hop : o.op = Op.lookup t x i false) {u k v : Value} (hx : a.eval x = u) (hi : a.eval i = k)
    (hr : (Instr.lookup t u k false).run Tryz.prog w = .ok v w) : (execOp a.eval o).run Tryz.prog w = .ok (.value v) w := by
  simp [execOp, hop, hx, hi, hr, Result.andThen]
theorem wpList_update {P : Program} {ops : Array Oper} {rest : List Oper} {o : Oper} {a : Act} {Q : Exit → Act → World → Prop} {w : World} (hg : o.guard = none) (t : TypeId) (x i y : Operand) (hop : o.op = Op.mapUpdate t x i y)
    (u k v : Value) (hx : a.eval x = u) (hi : a.eval i = k) (hy : a.eval y = v) (w' : World) (hr : (Instr.mapUpdate t u k v).run P w = .ok () w')
    (h : wpList P ops Q rest (a.put o.dst undef) w') : wpList P ops Q (o :: rest) a w := by
  refine wpList_plain hg fun K hK => ?_
  unfold Oper.wp
  have h1 : (execOp a.eval o).run P w = .ok .skip w' := by
    simp [execOp, hop, hx, hi, hy, hr, Result.andThen]
  rw [h1]
  exact hK _ _ h
theorem setArr_other {w : World} {b : Nat} {o : Obj} {k : Nat} (hb : b < w.heap.size) (h : k ≠ b) : (setArr w b o).heap[k]? = w.heap[k]? := by rw [setArr_get hb, if_neg h]
theorem setArr_size (w : World) (b : Nat) (o : Obj) : (setArr w b o).heap.size = w.heap.size := by simp [setArr]
theorem setArr_below {w : World} {b n : Nat} {o : Obj} (hb : b < w.heap.size) (h : n ≤ b) : Below n w (setArr w b o) :=
  ⟨rfl, rfl, rfl, by rw [setArr_size]; exact Nat.le_refl _, fun k hk => setArr_other hb (by omega)⟩
theorem may_one (x : Ad) (h : x.2.length = 16) : (may0 1 1280 && mayTo [x] (min 1 5)) = addrL x.1 x.2 := by
  show (true && (true && addrL x.1 x.2 && !dupL [x] 0)) = _
  have : dupL [x] 0 = false := rfl
  rw [this]; simp
theorem mayTo_bad {l : List Ad} {k n : Nat} {x : Ad} (hx : l[k]? = some x) (hk : k < n) (h : addrL x.1 x.2 = false) : mayTo l n = false := by
  cases hm : mayTo l n with
  | false => rfl
  | true => have := (mayTo_true.1 hm k hk).1 x hx; rw [h] at this; cases this
theorem mayTo_dup {l : List Ad} {k n : Nat} (hk : k < n) (h : dupL l k = true) : mayTo l n = false := by
  cases hm : mayTo l n with
  | false => rfl
  | true => have := (mayTo_true.1 hm k hk).2; rw [h] at this; cases this
theorem dup_same {l : List Ad} {k : Nat} {x : Ad} (hx : l[k]? = some x) : dupL l k = (l.take k).any (sameAd x) := by
  unfold dupL; rw [hx]; rfl
theorem setCell_heap {W : World} {q : Nat} {c : Array Value} {t : TypeId} (h : W.heap[q]? = some (Obj.cells c t (0, 0))) (v : Value) : (W.setCell ⟨q, 0, none⟩ v).heap[q]? = some (Obj.cells (c.setIfInBounds 0 v) t (0, 0)) := by
  simp [World.setCell, Array.getElem?_modify, h]
theorem NetI.set {w W : World} {l : List Ad} {kn km q : Nat} {c : Array Value} (h : NetI w W l kn km) (hq : W.heap[q]? = some (Obj.cells c 53 (0, 0))) (h3 : w.heap.size + 3 ≤ q) (v : Value) : NetI w (W.setCell ⟨q, 0, none⟩ v) l kn km := by
  have hne : ∀ r, r ≠ q → (W.setCell ⟨q, 0, none⟩ v).heap[r]? = W.heap[r]? := fun r hr => Below.heap_setCell _ _ _ _ hr
  have hsz : (W.setCell ⟨q, 0, none⟩ v).heap.size = W.heap.size := by simp [World.setCell]
  obtain ⟨arr, u, xs, h1, h2, h4, h5, h6⟩ := h.net
  obtain ⟨es, cl, m1, m2⟩ := h.map
  refine ⟨h.bel.trans ⟨rfl, rfl, rfl, by rw [hsz]; exact Nat.le_refl _, fun r hr => hne r (by omega)⟩, ⟨arr, u, xs, (hne _ (by omega)).trans h1, h2, h4, h5, ?_⟩, ⟨es, cl, (hne _ (by omega)).trans m1, m2⟩, by rw [hsz]; exact h.sz⟩
  rcases h6 with h6 | ⟨g, cap, cur, e1, e2, e3, e4⟩
  · exact .inl h6
  · refine .inr ⟨g, cap, cur, e1, e2, (hne g ?_).trans e3, e4⟩
    rintro rfl
    rw [hq] at e3
    injection e3 with e3; injection e3 with _ e3
    exact absurd e3 (by decide)
theorem grown_any {w w' : World} {base size n : Nat} {e : TypeId} {v : Value} {xs : List Value} (hown : w.ownsRow base e size v n xs) (hg : w.grownBy w' v.ownBlock) {b : Nat} {o : Obj}
    (hb : w.heap[b]? = some o) (hne : ∀ c, o ≠ .cells c e (0, 0)) : w'.heap[b]? = some o := by
  have hl := (Array.getElem?_eq_some_iff.1 hb).1
  rw [hg.block b hl, hb]
  intro ho
  obtain ⟨_, h | ⟨g, cap, cur, rfl, _, hgk, _⟩⟩ := hown
  · rw [h.1] at ho; cases ho
  · simp [Value.ownBlock] at ho
    subst ho
    rw [hgk] at hb
    injection hb with hb
    exact hne _ hb.symm
theorem NetI.push {w W WA w8 : World} {l : List Ad} {k m : Nat} {arr : Array Value} {u v8 : Value} {xs xs8 : List Value} (h : NetI w W l k m) (n1 : W.heap[w.heap.size + 1]? = some (Obj.cells arr 62 (0, 0))) (n2 : arr.size = 11)
    (hA : Below W.heap.size W WA) (n4 : WA.ownsRow (w.heap.size + 3) 86 1 u k xs) (hg : WA.grownBy w8 u.ownBlock) (h8 : w8.ownsRow (w.heap.size + 3) 86 1 v8 (k + 1) xs8) :
    NetI w (w8.setCell ⟨w.heap.size + 1, 0, none⟩ v8) l (k + 1) m := by
  have hsz := h.sz
  have hIA := h.below hA
  have n1A : WA.heap[w.heap.size + 1]? = some (Obj.cells arr 62 (0, 0)) := (hA.block _ (by omega)).trans n1
  have n18 : w8.heap[w.heap.size + 1]? = some (Obj.cells arr 62 (0, 0)) := grown_other n4 hg (by decide) n1A
  obtain ⟨es, c, m1, m2⟩ := hIA.map
  have m18 : w8.heap[w.heap.size + 2]? = some (Obj.map es c) := grown_any n4 hg m1 (fun _ h => by cases h)
  have hne : ∀ r, r ≠ w.heap.size + 1 → (w8.setCell ⟨w.heap.size + 1, 0, none⟩ v8).heap[r]? = w8.heap[r]? := fun r hr => Below.heap_setCell _ _ _ _ hr
  have hs8 : (w8.setCell ⟨w.heap.size + 1, 0, none⟩ v8).heap.size = w8.heap.size := by simp [World.setCell]
  have hb8 : Below w.heap.size w w8 := hIA.bel.trans ((grown_below n4 hg (by have := hA.size; omega)).mono (by omega))
  refine ⟨hb8.trans ⟨rfl, rfl, rfl, by rw [hs8]; exact Nat.le_refl _, fun r hr => hne r (by omega)⟩, ⟨_, v8, xs8, setCell_heap n18 v8, by simp [n2], by simp [n2], h8.1, ?_⟩, ⟨es, c, (hne _ (by omega)).trans m18, m2⟩, by rw [hs8]; have := hg.size; have := hIA.sz; omega⟩
  rcases h8.2 with h8 | ⟨g, cap, cur, e1, e2, e3, e4⟩
  · exact .inl h8
  · exact .inr ⟨g, cap, cur, e1, e2, (hne g (by omega)).trans e3, e4⟩
noncomputable def selC (W : World) (a : Addr) : Value := (W.cell? a).getD (.bool false)
theorem selC_of {W : World} {a : Addr} {v : Value} (h : W.cell? a = some v) : selC W a = v := by unfold selC; rw [h]; rfl
theorem selC_some {W : World} {a : Addr} {v : Value} (h : W.cell? a = some v) : W.cell? a = some (selC W a) := by rw [selC_of h]; exact h
theorem below_drew (n : Nat) (w : World) : Below n w w.drew := ⟨rfl, rfl, rfl, Nat.le_refl _, fun _ _ => rfl⟩
theorem infoM : (Tryz.prog.info? 86).map (fun i => (i.zero, i.size, i.bytes)) = some (some (.pointer none), 1, 8) := by kernel_rfl
set_option maxHeartbeats 4000000 in
theorem netNew (most : Int) (v : Value) (ks : List Nat) (l : List Ad) (w : World) (base : Nat) (hown : w.ownsRow base 53 11 v l.length (rowS ks)) (hbs : ks.length = l.length) (hat : AddrsAt w ks l) (hf : Fine l) :
    Calls Tryz.prog 19 #[v, .agg #[.float .f64 0, .float .f64 0, .float .f64 0, .int .i64 most]] w (NewN (may0N l.length most && mayTo l l.length) w) := by
  obtain ⟨hxs, ⟨rfl, h0⟩ | ⟨g, cap, cur, rfl, hbg, hg, hcap, hml, hcs, htk⟩⟩ := hown
  · have hm0 : may0N l.length most = false := by rw [h0]; rfl
    rw [hm0, Bool.false_and]
    go_enter Tryz.func19, Tryz.ntmps19
    go_wp2
    go_ret2
    exact NewN.no ((Below.refl _ w).alloc (Nat.le_refl _) _) rfl
  · have hgl := (Array.getElem?_eq_some_iff.1 hg).1
    have hld : ∀ W k b, Below w.heap.size w W → ks[k]? = some b → (loadVar 53 ⟨g, k * 11, none⟩).run Tryz.prog W = .ok (.agg (setC b)) W := fun W k b hb hk =>
      run_loadVar_agg (n := 11) (fun w => by kernel_rfl) (fun w => by kernel_rfl) _ _ rfl fun j v hj => by
        have hj11 : j < 11 := (Array.getElem?_eq_some_iff.1 hj).1
        have hadd : (⟨g, k * 11, none⟩ : Addr).add j = ⟨g, k * 11 + j, none⟩ := by unfold Addr.add; split <;> simp_all
        have hkl : k < l.length := by rw [← hbs]; exact (List.getElem?_eq_some_iff.1 hk).1
        rw [hadd, hb.cell (p := ⟨g, k * 11 + j, none⟩) hgl, cell_blk hg, ← hj, ← rowS_get ks k j b hk hj11, ← htk, List.getElem?_take_of_lt (by omega)]
        simp
    have Hld := Lib.hid hld
    have Hat := Lib.hid hat
    clear hld hat hg hcs htk hxs
    go_enter Tryz.func19, Tryz.ntmps19
    go_upto_region 1 with fail
    go_cut [31] (fun s31 wx => s31 = .bool (!may0N l.length most) ∧ wx = w.alloc (.cells #[.float .f64 0, .float .f64 0, .float .f64 0, .int .i64 most] 34))
    case first =>
      go_wp2_with fail
      all_goals (go_meet; refine ⟨congrArg Value.bool ?_, rfl⟩; rw [Bool.eq_iff_iff]; simp only [may0N, Bool.or_eq_true, Bool.and_eq_true, Bool.not_eq_true', Bool.and_eq_false_iff, decide_eq_true_eq, decide_eq_false_iff_not, eq_self_iff_true, true_iff]; omega)
    case rest =>
      obtain ⟨rfl, rfl⟩ := hcut
      cases hm0 : may0N l.length most
      · go_wp2_with fail
        go_ret2
        exact NewN.no ((Below.refl _ w).alloc (Nat.le_refl _) _) (by rw [hm0]; rfl)
      · have h14 : l.length ≤ 4 := by
          have := hm0
          simp [may0N] at this; omega
        have Hm0 := Lib.hid hm0
        clear hm0
        have hmm := @run_makeMap Tryz.prog
        simp only [Bool.not_true]
        go_wp2_with fail
        go_loopw [38] (fun i W => ∃ k : Nat, k ≤ l.length ∧ i = .int .i64 k ∧ NetI w W l k k ∧ mayTo l k = true) (fun i _ => l.length - (intOf i).toNat)
        case atStart =>
          refine ⟨0, Nat.zero_le _, rfl, ⟨?_, ⟨#[.slice none 0 0, .float .f64 0, .float .f64 0, .float .f64 0, .int .i64 most, .float .f64 0, .float .f64 0, .float .f64 0, .int .i64 0, .slice none 0 0, .slice none 0 0], .slice none 0 0, [], ?_, ?_, ?_, World.ownsRow_nil ..⟩, ⟨#[], 0, ?_, by simp⟩, by simp⟩, rfl⟩
          · exact (((Below.refl _ w).alloc (Nat.le_refl _) _).alloc (by simp) _).alloc (by simp; omega) _
          · rw [((Below.refl (w.heap.size + 2) _).alloc (by simp) _).block _ (by omega)]; exact heap_at _ _ _ (by simp)
          · rfl
          · rfl
          · exact heap_at _ _ _ (by simp)
        case round =>
          obtain ⟨wo, rfl⟩ : ∃ wo : World, wo = wr := ⟨_, rfl⟩
          obtain ⟨k, hk, rfl, hI, hmk⟩ := hrel
          have HI := Lib.hid hI
          have hsz := hI.sz
          rcases Nat.lt_or_ge k l.length with hlt | hge
          · obtain ⟨b, hb⟩ : ∃ b, ks[k]? = some b := ⟨_, List.getElem?_eq_getElem (by omega)⟩
            obtain ⟨⟨six, bs⟩, hx, hbk⟩ := Hat.out k b hb
            have hfx : bs.length = 16 ∧ bs.getD 0 0 < 256 := hf (six, bs) (List.mem_of_getElem? hx)
            have hbl := (Array.getElem?_eq_some_iff.1 hbk).1
            have hldk := Hld.out wo k b hI.bel hb
            have hl9 : (loadVar 53 ⟨wo.heap.size, 0, none⟩).run Tryz.prog (wo.alloc (.cells (setC b) 53)) = .ok (.agg (setC b)) (wo.alloc (.cells (setC b) 53)) :=
              run_loadVar_agg (n := 11) (fun w => by kernel_rfl) (fun w => by kernel_rfl) _ _ rfl fun j v hj => by rw [add_off, cell_last]; exact hj
            have hB1 : Below w.heap.size w (wo.alloc (.cells (setC b) 53)) := hI.bel.alloc (by omega) _
            have hrow1 : RowA (wo.alloc (.cells (setC b) 53)) ⟨b, 0, none⟩ [(six, bs)] := fun i y hi j hj => by
              obtain ⟨rfl, rfl⟩ : i = 0 ∧ y = (six, bs) := by
                rcases i with _ | i
                · simp at hi; exact ⟨rfl, hi.symm⟩
                · simp at hi
              rw [show (((⟨b, 0, none⟩ : Addr).add (0 * 17)).add j) = ⟨b, j, none⟩ from by rw [Nat.zero_mul, add_off, add_off], hB1.cell (p := ⟨b, j, none⟩) hbl, cell_blk hbk]
            have hF1 : Fine [(six, bs)] := fun y hy => by simp at hy; subst hy; exact hfx
            have hnew := hostNew 1280 ⟨b, 0, none⟩ [(six, bs)] 1 (Nat.le_refl _) (Nat.le_refl _) (wo.alloc (.cells (setC b) 53)) (Nat.lt_of_lt_of_le hbl hB1.size) hrow1 hF1
            have hmo := may_one (six, bs) hfx.1
            rw [show ([(six, bs)] : List Ad).length = 1 from rfl, hmo] at hnew
            have Hnew := Lib.hid hnew
            have Hx := Lib.hid hx
            have Hbk := Lib.hid hbk
            have Hmk := Lib.hid hmk
            clear hI hx hb hbk hB1 hrow1 hF1 hnew hmo hmk
            go_upto_region 9 with (first
              | (refine wpList_load_agg rfl 53 _ rfl _ rfl (setC b) hldk ?_)
              | (refine wpList_store_agg rfl 53 _ _ rfl _ rfl _ rfl _ (storeS_new wo _ rfl (.slice (some ⟨b, 0, none⟩) 1 1) rfl) ?_)
              | (refine wpList_load_agg rfl 53 _ rfl _ rfl (setC b) hl9 ?_)
              | (go_at_call 44; refine Hnew.out.mono ?_; rintro e w2 ⟨v2, n2, rfl, hb2, hd2⟩; have Hb2 := Lib.hid hb2; have Hd2 := Lib.hid hd2; clear hb2 hd2))
            have hs2 := Hb2.out.size
            rw [World.size_alloc] at hs2
            have hI2 : NetI w w2 l k k := HI.out.below (((Below.refl _ wo).alloc (Nat.le_refl _) _).trans (Hb2.out.mono (by rw [World.size_alloc]; omega)))
            rcases Hd2.out with ⟨hok, rfl, hp, rfl, _⟩ | ⟨hok, rfl, rfl⟩
            · have h9 : w2.heap[wo.heap.size]? = some (Obj.cells (setC b) 53 (0, 0)) := by
                rw [Hb2.out.block _ (by rw [World.size_alloc]; omega)]; exact heap_alloc_last _ _
              have hc9 : w2.cell? ⟨wo.heap.size, 0, none⟩ = some (.slice (some ⟨b, 0, none⟩) 1 1) := cell_blk h9 0
              have HI2 := Lib.hid hI2
              have H9 := Lib.hid h9
              have Hok := Lib.hid hok
              clear hI2 h9 hldk hl9
              go_wp2_with fail
              go_loopw [52] (fun i W => ∃ j : Nat, j ≤ 1 ∧ i = .int .i64 j ∧ NetI w W l k (k + j) ∧ W.heap[wo.heap.size]? = some (Obj.cells (setC b) 53 (0, 0)) ∧ (j = 1 → dupL l k = false)) (fun i _ => 1 - (intOf i).toNat)
              case atStart => exact ⟨0, by omega, rfl, HI2.out, H9.out, fun h => by omega⟩
              case round =>
                obtain ⟨j, hj, rfl, hI, h9, hdup⟩ := hrel
                rcases Nat.lt_or_ge j 1 with hj1 | hj1
                · obtain rfl : j = 0 := by omega
                  have hldA : (loadVar 42 ⟨b, 0, none⟩).run Tryz.prog wr = .ok (.agg (cellsA six bs)) wr := load29_at wr b six bs hfx.1 fun i => by
                    rw [hI.bel.cell (p := ⟨b, i, none⟩) hbl, cell_blk Hbk.out]
                  have hll := load29_last wr six bs hfx.1
                  have hIa : NetI w (wr.alloc (.cells (cellsA six bs) 42)) l k (k + 0) := hI.below ((Below.refl _ wr).alloc (Nat.le_refl _) _)
                  have hlk := lookupAd hIa.map (hf.take _) (six, bs) hfx.1
                  have h9s := (Array.getElem?_eq_some_iff.1 h9).1
                  have h9a : (wr.alloc (.cells (cellsA six bs) 42)).heap[wo.heap.size]? = some (Obj.cells (setC b) 53 (0, 0)) := (((Below.refl wr.heap.size wr).alloc (Nat.le_refl _) _).block _ h9s).trans h9
                  have hds := dup_same Hx.out
                  have hup := updateAd hIa.map (hf.take _) (six, bs) hfx.1
                  rw [Nat.add_zero] at hlk hup
                  generalize (l.take k).any (sameAd (six, bs)) = d at hlk hds hup
                  have HIa := Lib.hid hIa
                  have H9a := Lib.hid h9a
                  have Hds := Lib.hid hds
                  clear hI h9 hdup hIa h9a hds
                  cases d
                  · obtain ⟨o, hu, hM⟩ := hup rfl
                    have HM := Lib.hid hM
                    clear hup hM
                    go_wp2_with (first
                      | (refine wpList_load_agg rfl 42 _ rfl _ rfl (cellsA six bs) hldA ?_)
                      | (refine wpList_store_agg rfl 42 _ _ rfl _ rfl _ rfl _ (store_new wr _ rfl six bs hfx.1) ?_)
                      | (refine wpList_load_agg rfl 42 _ rfl _ rfl (cellsA six bs) hll ?_)
                      | (refine wpList_exec rfl (exec_lookup rfl rfl rfl hlk) ?_)
                      | (refine wpList_update rfl 96 _ _ _ rfl _ _ _ rfl rfl rfl _ hu ?_))
                    have hml : w.heap.size + 2 < (wr.alloc (.cells (cellsA six bs) 42)).heap.size := by have := HIa.out.sz; omega
                    have hIn : NetI w (setArr (wr.alloc (.cells (cellsA six bs) 42)) (w.heap.size + 2) o) l k (k + 1) := by
                      obtain ⟨arr, u, xs, n1, n2, n3, n4⟩ := HIa.out.net
                      refine ⟨HIa.out.bel.trans (setArr_below hml (by omega)), ⟨arr, u, xs, (setArr_other hml (by omega)).trans n1, n2, n3, n4.1, ?_⟩, ?_, by rw [setArr_size]; exact HIa.out.sz⟩
                      · rcases n4.2 with n4 | ⟨g', cap', cur', e1, e2, e3, e4⟩
                        · exact .inl n4
                        · exact .inr ⟨g', cap', cur', e1, e2, (setArr_other hml (by omega)).trans e3, e4⟩
                      · have := HM.out
                        rw [List.take_succ_eq_append_getElem hlt]
                        have hxe : l[k] = (six, bs) := by have := (List.getElem?_eq_some_iff.1 Hx.out).2; exact this
                        rw [hxe]; exact this
                    have h9n := (setArr_other (o := o) hml (show wo.heap.size ≠ w.heap.size + 2 by omega)).trans H9a.out
                    go_roundw
                    case rel => exact ⟨1, by omega, by go_num, hIn, h9n, fun _ => Hds.out⟩
                    case measure => simp [intOf]
                  · clear hup
                    go_wp2_with (first
                      | (refine wpList_load_agg rfl 42 _ rfl _ rfl (cellsA six bs) hldA ?_)
                      | (refine wpList_store_agg rfl 42 _ _ rfl _ rfl _ rfl _ (store_new wr _ rfl six bs hfx.1) ?_)
                      | (refine wpList_load_agg rfl 42 _ rfl _ rfl (cellsA six bs) hll ?_)
                      | (refine wpList_exec rfl (exec_lookup rfl rfl rfl hlk) ?_))
                    go_ret2
                    exact NewN.no HIa.out.bel (by rw [mayTo_dup hlt Hds.out]; simp)
                · obtain rfl : j = 1 := by omega
                  have hdp := hdup rfl
                  have hc9' : wr.cell? ⟨wo.heap.size, 0, none⟩ = some (.slice (some ⟨b, 0, none⟩) 1 1) := cell_blk h9 0
                  have hrow2 : RowA wr ⟨b, 0, none⟩ [(six, bs)] := fun i y hi j hj => by
                    obtain ⟨rfl, rfl⟩ : i = 0 ∧ y = (six, bs) := by
                      rcases i with _ | i
                      · simp at hi; exact ⟨rfl, hi.symm⟩
                      · simp at hi
                    rw [show (((⟨b, 0, none⟩ : Addr).add (0 * 17)).add j) = ⟨b, j, none⟩ from by rw [Nat.zero_mul, add_off, add_off], hI.bel.cell (p := ⟨b, j, none⟩) hbl, cell_blk Hbk.out]
                  have hcl := cloneAd ⟨b, 0, none⟩ [(six, bs)] 1 wr (Nat.lt_of_lt_of_le hbl hI.bel.size) hrow2 (fun y hy => by simp at hy; subst hy; exact hfx) (by simp)
                  rw [show ([(six, bs)] : List Ad).length = 1 from rfl] at hcl
                  have Hcl := Lib.hid hcl
                  have HI1 := Lib.hid hI
                  have H9' := Lib.hid h9
                  have Hdp := Lib.hid hdp
                  clear hrow2 hcl hI h9 hdup hdp hc9
                  go_upto_region 19 with (first
                    | (go_at_call 45; refine Hcl.out.mono ?_; rintro e w6 ⟨a', sc', rfl, _, _, _, hb6⟩; have h96 := (hb6.block _ (Array.getElem?_eq_some_iff.1 H9'.out).1).trans H9'.out; have hv6 := cell_blk h96 0; have hz6 : w6.frozen? ⟨wo.heap.size, 0, none⟩ = false := (by simp [World.frozen?, h96]); have HI6 := Lib.hid ((HI1.out.below hb6).set h96 (by omega) (.slice (some a') 1 sc')); have H96 := Lib.hid (setCell_heap h96 (.slice (some a') 1 sc')); clear hb6 h96))
                  obtain ⟨W7, hW7⟩ : ∃ W7, w6.setCell ⟨wo.heap.size, 0, none⟩ (.slice (some a') 1 sc') = W7 := ⟨_, rfl⟩
                  rw [hW7] at HI6 H96 ⊢
                  have hmk1 : mayTo l (k + 1) = true := by
                    show (mayTo l k && (match l[k]? with | some x => addrL x.1 x.2 | none => true) && !dupL l k) = true
                    rw [Hmk.out, Hx.out, Hdp.out]
                    simpa using Hok.out
                  have Hmk1 := Lib.hid hmk1
                  obtain ⟨arr, u, xs, n1, n2, n3, n4⟩ := HI6.out.net
                  obtain ⟨mem, hmem⟩ : ∃ mem : Array Value, mem = #[.pointer (some ⟨hp, 0, none⟩), .slice (some a') 1 sc', .int .i64 1280, .int .i64 200, .int .i64 300, .bool true, .bool true, .bool false, .int .u8 0, .bool false, .bool false, .int .i64 0, .int .u32 0, .slice none 0 0, .slice none 0 0] := ⟨_, rfl⟩
                  obtain ⟨WA, hWA⟩ : ∃ WA, ((W7.alloc (.cells mem 85)).alloc (.cells #[.pointer (some ⟨W7.heap.size, 0, none⟩)] 86)).drew = WA := ⟨_, rfl⟩
                  have hA : Below W7.heap.size W7 WA := by rw [← hWA]; exact (((Below.refl _ W7).alloc (Nat.le_refl _) _).alloc (by simp) _).trans (below_drew _ _)
                  have n4A := ownsRow_below n4 hA
                  have hAs : WA.heap.size = W7.heap.size + 2 := by rw [← hWA]; simp [World.drew]
                  have hnw : ∀ j x, [Value.pointer (some ⟨W7.heap.size, 0, none⟩)][j]? = some x → WA.cell? ((⟨W7.heap.size + 1, 0, none⟩ : Addr).add j) = some x := by
                    refine World.news_of_block (cs := #[.pointer (some ⟨W7.heap.size, 0, none⟩)]) (t := 86) (fr := (0, 0)) ?_
                    rw [← hWA]
                    exact heap_at _ _ _ (by simp)
                  have hbase : w.heap.size + 3 ≤ WA.heap.size := by have := HI6.out.sz; omega
                  have hwos : wo.heap.size < W7.heap.size := (Array.getElem?_eq_some_iff.1 H96.out).1
                  obtain ⟨i0, hi, hz0, hz1, hz2⟩ := info_parts infoM
                  have hfin : ∀ g8 cap8 w8 xs8, WA.grownBy w8 u.ownBlock → w8.ownsRow (w.heap.size + 3) 86 1 (.slice (some ⟨g8, 0, none⟩) (k + 1) cap8) (k + 1) xs8 →
                      NetI w (w8.setCell ⟨w.heap.size + 1, 0, none⟩ (.slice (some ⟨g8, 0, none⟩) (k + 1) cap8)) l (k + 1) (k + 1) := fun g8 cap8 w8 xs8 h1 h2 => HI6.out.push n1 n2 hA n4A h1 h2
                  have hkeep : ∀ w8 v8, WA.grownBy w8 u.ownBlock → (w8.cell? ⟨w.heap.size + 1, 0, none⟩ = some u ∧ w8.frozen? ⟨w.heap.size + 1, 0, none⟩ = false) ∧ (w8.cell? ⟨wo.heap.size, 0, none⟩ = some (.slice (some a') 1 sc') ∧ w8.cell? ⟨wo.heap.size, 1, none⟩ = some (.int .i64 1280) ∧ w8.cell? ⟨wo.heap.size, 2, none⟩ = some (.int .i64 200) ∧ w8.cell? ⟨wo.heap.size, 3, none⟩ = some (.int .i64 300) ∧ w8.cell? ⟨wo.heap.size, 4, none⟩ = some (.bool true) ∧ w8.cell? ⟨wo.heap.size, 5, none⟩ = some (.bool true) ∧ w8.cell? ⟨wo.heap.size, 6, none⟩ = some (.bool false) ∧ w8.cell? ⟨wo.heap.size, 7, none⟩ = some (.int .u8 0) ∧ w8.cell? ⟨wo.heap.size, 8, none⟩ = some (.bool false) ∧ w8.cell? ⟨wo.heap.size, 9, none⟩ = some (.bool false) ∧ w8.cell? ⟨wo.heap.size, 10, none⟩ = some (.int .i64 0)) ∧ ((w8.setCell ⟨w.heap.size + 1, 0, none⟩ v8).cell? ⟨wo.heap.size, 0, none⟩ = some (.slice (some a') 1 sc') ∧ (w8.setCell ⟨w.heap.size + 1, 0, none⟩ v8).cell? ⟨wo.heap.size, 1, none⟩ = some (.int .i64 1280) ∧ (w8.setCell ⟨w.heap.size + 1, 0, none⟩ v8).cell? ⟨wo.heap.size, 2, none⟩ = some (.int .i64 200) ∧ (w8.setCell ⟨w.heap.size + 1, 0, none⟩ v8).cell? ⟨wo.heap.size, 3, none⟩ = some (.int .i64 300) ∧ (w8.setCell ⟨w.heap.size + 1, 0, none⟩ v8).cell? ⟨wo.heap.size, 4, none⟩ = some (.bool true) ∧ (w8.setCell ⟨w.heap.size + 1, 0, none⟩ v8).cell? ⟨wo.heap.size, 5, none⟩ = some (.bool true) ∧ (w8.setCell ⟨w.heap.size + 1, 0, none⟩ v8).cell? ⟨wo.heap.size, 6, none⟩ = some (.bool false) ∧ (w8.setCell ⟨w.heap.size + 1, 0, none⟩ v8).cell? ⟨wo.heap.size, 7, none⟩ = some (.int .u8 0) ∧ (w8.setCell ⟨w.heap.size + 1, 0, none⟩ v8).cell? ⟨wo.heap.size, 8, none⟩ = some (.bool false) ∧ (w8.setCell ⟨w.heap.size + 1, 0, none⟩ v8).cell? ⟨wo.heap.size, 9, none⟩ = some (.bool false) ∧ (w8.setCell ⟨w.heap.size + 1, 0, none⟩ v8).cell? ⟨wo.heap.size, 10, none⟩ = some (.int .i64 0)) := fun w8 v8 hg => by
                    have k1 : w8.heap[w.heap.size + 1]? = some (Obj.cells arr 62 (0, 0)) := grown_other n4A hg (by decide) ((hA.block _ (by have := HI6.out.sz; omega)).trans n1)
                    have k2 : w8.heap[wo.heap.size]? = some (Obj.cells ((setC b).setIfInBounds 0 (.slice (some a') 1 sc')) 53 (0, 0)) := grown_other n4A hg (by decide) ((hA.block _ hwos).trans H96.out)
                    have k3 := setCell_heap k1 v8
                    have k4 := (Below.heap_setCell w8 ⟨w.heap.size + 1, 0, none⟩ v8 wo.heap.size (by show wo.heap.size ≠ w.heap.size + 1; omega)).trans k2
                    have e0 : w8.cell? ⟨w.heap.size + 1, 0, none⟩ = some u := (cell_blk k1 0).trans n3
                    have e1 : (w8.setCell ⟨w.heap.size + 1, 0, none⟩ v8).cell? ⟨w.heap.size + 1, 0, none⟩ = some v8 := (cell_blk k3 0).trans (by simp [n2])
                    exact ⟨⟨e0, by simp [World.frozen?, k1]⟩, ⟨cell_blk k2 0, cell_blk k2 1, cell_blk k2 2, cell_blk k2 3, cell_blk k2 4, cell_blk k2 5, cell_blk k2 6, cell_blk k2 7, cell_blk k2 8, cell_blk k2 9, cell_blk k2 10⟩,
                      ⟨cell_blk k4 0, cell_blk k4 1, cell_blk k4 2, cell_blk k4 3, cell_blk k4 4, cell_blk k4 5, cell_blk k4 6, cell_blk k4 7, cell_blk k4 8, cell_blk k4 9, cell_blk k4 10⟩⟩
                  have s0 : W7.cell? ⟨w.heap.size + 1, 0, none⟩ = some u := (cell_blk n1 0).trans n3
                  have s1 : W7.drew.cell? ⟨w.heap.size + 1, 0, none⟩ = some u := s0
                  have s2 : (W7.alloc (.cells #[.pointer (some ⟨hp, 0, none⟩), .slice (some a') 1 sc', .int .i64 1280, .int .i64 200, .int .i64 300, .bool true, .bool true, .bool false, .int .u8 0, .bool false, .bool false, .int .i64 0, .int .u32 0, .slice none 0 0, .slice none 0 0] 85)).drew.cell? ⟨w.heap.size + 1, 0, none⟩ = some u := by
                    rw [← hmem]; exact (((Below.refl W7.heap.size W7).alloc (Nat.le_refl _) _).cell (p := ⟨w.heap.size + 1, 0, none⟩) (by show w.heap.size + 1 < _; have := HI6.out.sz; omega)).trans s0
                  have s3 : ((W7.alloc (.cells #[.pointer (some ⟨hp, 0, none⟩), .slice (some a') 1 sc', .int .i64 1280, .int .i64 200, .int .i64 300, .bool true, .bool true, .bool false, .int .u8 0, .bool false, .bool false, .int .i64 0, .int .u32 0, .slice none 0 0, .slice none 0 0] 85)).alloc (.cells #[.pointer (some ⟨W7.heap.size, 0, none⟩)] 86)).drew.cell? ⟨w.heap.size + 1, 0, none⟩ = some u := by
                    rw [← hmem]; exact ((((Below.refl W7.heap.size W7).alloc (Nat.le_refl _) _).alloc (by simp) _).cell (p := ⟨w.heap.size + 1, 0, none⟩) (by show w.heap.size + 1 < _; have := HI6.out.sz; omega)).trans s0
                  have t0 : W7.cell? ⟨wo.heap.size, 0, none⟩ = some (.slice (some a') 1 sc') := cell_blk H96.out 0
                  have t1 : W7.cell? ⟨wo.heap.size, 1, none⟩ = some (.int .i64 1280) := cell_blk H96.out 1
                  have t2 : W7.cell? ⟨wo.heap.size, 2, none⟩ = some (.int .i64 200) := cell_blk H96.out 2
                  have t3 : W7.cell? ⟨wo.heap.size, 3, none⟩ = some (.int .i64 300) := cell_blk H96.out 3
                  have t4 : W7.cell? ⟨wo.heap.size, 4, none⟩ = some (.bool true) := cell_blk H96.out 4
                  have t5 : W7.cell? ⟨wo.heap.size, 5, none⟩ = some (.bool true) := cell_blk H96.out 5
                  have t6 : W7.cell? ⟨wo.heap.size, 6, none⟩ = some (.bool false) := cell_blk H96.out 6
                  have t7 : W7.cell? ⟨wo.heap.size, 7, none⟩ = some (.int .u8 0) := cell_blk H96.out 7
                  have t8 : W7.cell? ⟨wo.heap.size, 8, none⟩ = some (.bool false) := cell_blk H96.out 8
                  have t9 : W7.cell? ⟨wo.heap.size, 9, none⟩ = some (.bool false) := cell_blk H96.out 9
                  have t10 : W7.cell? ⟨wo.heap.size, 10, none⟩ = some (.int .i64 0) := cell_blk H96.out 10
                  have N4A := Lib.hid n4A
                  have Hnw := Lib.hid hnw
                  have Hfin := Lib.hid hfin
                  have Hkeep := Lib.hid hkeep
                  subst hmem
                  obtain rfl := hWA
                  clear hmk1 hv6 hz6 hW7 n1 n2 n3 n4 hA n4A hnw hfin hkeep hAs
                  go_region_law
                    ((refine step_append_lies _ (by rfl) _ _ 58 (by rfl) (w.heap.size + 3) 86 i0 (.pointer none) 1 8 Tryz.underlying58 hi hz0 hz1 hz2 rfl (by decide) u k xs (by rfl) N4A.out ⟨W7.heap.size + 1, 0, none⟩ 1 1 [.pointer (some ⟨W7.heap.size, 0, none⟩)] (by rfl) rfl Hnw.out (by intro u hu; simp at hu; subst hu; rfl) (by decide) (by unfold maxLen; omega) (by omega) hbase _ rfl ?_; intro g8 cap8 w8 hown8 hgr8 hat8 hlt8; obtain ⟨⟨hc8, hf8⟩, _, _⟩ := Hkeep.out w8 (.slice (some ⟨g8, 0, none⟩) (k + 1) cap8) hgr8; have HF8 := Lib.hid (Hfin.out g8 cap8 w8 _ hgr8 hown8); clear hown8 hgr8 hat8))
                  all_goals
                    clear hc8 hf8 s0 s1 s2 s3 t0 t1 t2 t3 t4 t5 t6 t7 t8 t9 t10 hi hz0 hz1 hz2
                    go_wp2_with fail
                    go_roundw
                    case rel => exact ⟨k + 1, by omega, by go_num, HF8.out, Hmk1.out⟩
                    case measure => simp [intOf]; omega
            · go_wp2_with fail
              go_ret2
              exact NewN.no hI2.bel (by rw [mayTo_bad Hx.out hlt hok]; simp)
          · obtain rfl : k = l.length := by omega
            go_wp2_with fail
            go_ret2
            exact ⟨_, _, rfl, HI.out.bel, .inl ⟨by rw [Hm0.out, hmk]; rfl, rfl, _, rfl⟩⟩
end Go.Nm
