/- HostMay: host.New, the loop. -/
import Derived.Test.YtecihapafnpgbaaGreatHmN
import Derived.StillTailTactics
import Derived.Deep.RegionHeld3
import Derived.Deep.DeepCutAuto
import Derived.Carry
set_option linter.unusedSimpArgs false
set_option linter.unusedVariables false
set_option linter.constructorNameAsVariable false
set_option linter.unusedSectionVars false
namespace Go.Hm
open Go Go.Proofs Go.RowKit
/-- The address at a place stands ahead of it, too. -/
def dupL (l : List Ad) (k : Nat) : Bool := match l[k]? with | some y => (l.take k).any fun x => y.1 == x.1 && y.2 == x.2 | none => false
def distinctL (l : List Ad) : Bool := (List.range l.length).all fun k => !dupL l k
theorem dup_not {l : List Ad} {k : Nat} (hk : k < l.length) (h : dupL l k = true) : distinctL l = false := by
  unfold distinctL
  rw [List.all_eq_false]
  exact ⟨k, List.mem_range.2 hk, by simp [h]⟩
theorem distinct_of {l : List Ad} (h : ∀ j, j < l.length → dupL l j = false) : distinctL l = true := by
  unfold distinctL
  rw [List.all_eq_true]
  intro k hk
  simp [h k (List.mem_range.1 hk)]
theorem RowA.take {W : World} {a : Addr} {l : List Ad} (h : RowA W a l) (k : Nat) : RowA W a (l.take k) := fun i x hi j hj => h i x (by
  rw [List.getElem?_take] at hi; split at hi <;> simp_all) j hj
theorem Fine.take {l : List Ad} (h : Fine l) (k : Nat) : Fine (l.take k) := fun x hx => h x (List.mem_of_mem_take hx)
theorem wpStill_value {P : Program} {ops : Array Oper} {W : World} {Q : Act → Prop} {o : Oper} {rest : List Oper} {a : Act} (hg : o.guard = none) (v : Value)
    (hr : (execOp a.eval o).run P W = .ok (.value v) W) (h : wpStill P ops W Q rest (a.put o.dst v)) : wpStill P ops W Q (o :: rest) a := by
  refine wpStill_step fun K hK => ?_
  rw [show Region.wanted o (yielded ops a.tmps) = true from by simp [Region.wanted, hg], if_pos rfl]
  unfold Oper.still
  rw [hr]
  exact ⟨rfl, hK _ h⟩
theorem exec_load {P : Program} {o : Oper} {a : Act} {w : World} {t : TypeId} {x : Operand} (hop : o.op = Op.load t x) {p : Addr} (hx : a.eval x = .pointer (some p)) {v : Value}
    (hrun : (loadVar t p).run P w = .ok v w) : (execOp a.eval o).run P w = .ok (.value v) w := by
  simp [execOp, hop, hx, Instr.loadAt, Instr.sureAddr, Result.andThen, hrun]
theorem run_loadVar_one {P : Program} {w : World} {t : TypeId} {p : Addr} {v : Value} (ha : (isAgg t).run P w = .ok false w) (h : w.cell? p = some v) : (loadVar t p).run P w = .ok v w := by
  unfold loadVar
  simp [Sem.run_bind, ha, Result.andThen, go_sem, h]
theorem infoA (n : Nat) (hn : n = 17) : (Tryz.prog.info? 32).map (·.size) = some n := by subst hn; kernel_rfl
theorem cellsA_all (six : Bool) (bs : List Nat) : (cellsA six bs).all (·.oneCell') = true := by
  simp [cellsA, Value.oneCell']
theorem store_new (w : World) (c : Array Value) (hc : c.size = 17) (six : Bool) (bs : List Nat) (hl : bs.length = 16) :
    (storeVar 32 ⟨w.heap.size, 0, none⟩ (.agg (cellsA six bs))).run Tryz.prog (w.alloc (.cells c 32)) = .ok () (w.alloc (.cells (cellsA six bs) 32)) :=
  run_storeVar_new w 32 c (cellsA six bs) (infoA _ (cellsA_size six bs hl)) (by rw [hc, cellsA_size six bs hl]) (cellsA_all six bs)
/-- A host lies at b: with a table, and addresses. -/
def HostAt (W : World) (b : Nat) (l : List Ad) : Prop := (∃ t, W.cell? ⟨b, 0, none⟩ = some (.pointer (some t))) ∧ ∃ a sc, W.cell? ⟨b, 1, none⟩ = some (.slice (some a) l.length sc) ∧ RowA W a l ∧ a.block < W.heap.size
def NewP (l : List Ad) (w : World) (e : Ending) (w' : World) : Prop :=
  if distinctL l = true then ∃ b, e = .returned (.tuple #[.pointer (some ⟨b, 0, none⟩), .int .i64 0]) ∧ HostAt w' b l ∧ Below w.heap.size w w'
  else e = .returned (.tuple #[.pointer none, .int .i64 1]) ∧ Below w.heap.size w w'
theorem bcell {W w1 : World} (hb : Below W.heap.size W w1) : (∀ b o, b < W.heap.size → w1.cell? ⟨b, o, none⟩ = W.cell? ⟨b, o, none⟩) ∧ (∀ b o, b < W.heap.size → w1.frozen? ⟨b, o, none⟩ = W.frozen? ⟨b, o, none⟩) :=
  ⟨fun b o h => hb.cell (p := ⟨b, o, none⟩) h, fun b o h => hb.frozen (p := ⟨b, o, none⟩) h⟩
theorem heap_at (w : World) (o : Obj) (n : Nat) (h : n = w.heap.size) : (w.alloc o).heap[n]? = some o := by subst h; exact heap_alloc_last w o
/-- A block for a host: its table lies there. -/
def HostB (W : World) (b : Nat) (p : Addr) : Prop := ∃ arr, W.heap[b]? = some (.cells arr 110 (0, 0)) ∧ arr.size = 23 ∧ arr[0]? = some (.pointer (some p))
theorem HostB.cell {W : World} {b : Nat} {p : Addr} (h : HostB W b p) (j : Nat) (hj : j < 23) : ∃ v, W.cell? ⟨b, j, none⟩ = some v := by
  obtain ⟨arr, h1, h2, h3⟩ := h
  exact ⟨arr[j], by rw [cell_of_row W b j arr _ (0, 0) h1]; exact Array.getElem?_eq_getElem (by omega)⟩
theorem HostB.frozen {W : World} {b : Nat} {p : Addr} (h : HostB W b p) (j : Nat) : W.frozen? ⟨b, j, none⟩ = false := by
  obtain ⟨arr, h1, h2, h3⟩ := h
  simp [World.frozen?, h1]
theorem HostB.zero {W : World} {b : Nat} {p : Addr} (h : HostB W b p) : W.cell? ⟨b, 0, none⟩ = some (.pointer (some p)) := by
  obtain ⟨arr, h1, h2, h3⟩ := h
  rw [cell_of_row W b 0 arr _ (0, 0) h1]; exact h3
theorem HostB.lt {W : World} {b : Nat} {p : Addr} (h : HostB W b p) : b < W.heap.size := by
  obtain ⟨arr, h1, _⟩ := h
  exact (Array.getElem?_eq_some_iff.1 h1).1
theorem HostB.below {W W' : World} {b : Nat} {p : Addr} (h : HostB W b p) (hb : Below W.heap.size W W') : HostB W' b p := by
  have hl := h.lt
  obtain ⟨arr, h1, h2, h3⟩ := h
  exact ⟨arr, (hb.block b hl).trans h1, h2, h3⟩
theorem HostB.set {W : World} {b : Nat} {p : Addr} (h : HostB W b p) (j : Nat) (hj : j ≠ 0) (v : Value) : HostB (W.setCell ⟨b, j, none⟩ v) b p := by
  obtain ⟨arr, h1, h2, h3⟩ := h
  refine ⟨arr.setIfInBounds j v, ?_, by simp [h2], ?_⟩
  · simp [World.setCell, Array.getElem?_modify, h1]
  · rw [Array.getElem?_setIfInBounds]; simp [hj, h3]
theorem HostB.self {W : World} {b : Nat} {p : Addr} (h : HostB W b p) (j : Nat) (hj : j < 23) (v : Value) : (W.setCell ⟨b, j, none⟩ v).cell? ⟨b, j, none⟩ = some v := by
  obtain ⟨arr, h1, h2, h3⟩ := h
  simp [World.setCell, World.cell?, Array.getElem?_modify, h1, h2, hj]
theorem HostB.other {W : World} {b : Nat} {p : Addr} (h : HostB W b p) (i j : Nat) (hij : i ≠ j) (v : Value) : (W.setCell ⟨b, j, none⟩ v).cell? ⟨b, i, none⟩ = W.cell? ⟨b, i, none⟩ := by
  obtain ⟨arr, h1, h2, h3⟩ := h
  have : ¬ j = i := fun e => hij e.symm
  simp [World.setCell, World.cell?, Array.getElem?_modify, h1, this]
/-- A host that is under way: its table, its addresses. -/
structure HostI (W : World) (b : Nat) (p : Addr) (a : Addr) (sc : Nat) (l : List Ad) : Prop where
  hb : HostB W b p
  one : W.cell? ⟨b, 1, none⟩ = some (.slice (some a) l.length sc)
  row : RowA W a l
  lt : a.block < W.heap.size
  ne : a.block ≠ b
theorem HostI.below {W W' : World} {b : Nat} {p a : Addr} {sc : Nat} {l : List Ad} (h : HostI W b p a sc l) (hb : Below W.heap.size W W') : HostI W' b p a sc l :=
  ⟨h.hb.below hb, by rw [hb.cell (p := ⟨b, 1, none⟩) h.hb.lt]; exact h.one, h.row.below hb h.lt, Nat.lt_of_lt_of_le h.lt hb.size, h.ne⟩
theorem RowA.setCell {W : World} {a : Addr} {l : List Ad} (h : RowA W a l) (b j : Nat) (v : Value) (hne : a.block ≠ b) : RowA (W.setCell ⟨b, j, none⟩ v) a l := fun i x hi k hk => by
  rw [← h i x hi k hk]
  have hab : ((a.add (i * 17)).add k).block ≠ b := by
    unfold Addr.add
    split <;> split <;> exact hne
  unfold World.cell?
  rw [Below.heap_setCell _ _ _ _ hab]
theorem HostI.set {W : World} {b : Nat} {p a : Addr} {sc : Nat} {l : List Ad} (h : HostI W b p a sc l) (j : Nat) (h0 : j ≠ 0) (h1 : j ≠ 1) (v : Value) : HostI (W.setCell ⟨b, j, none⟩ v) b p a sc l :=
  ⟨h.hb.set j h0 v, by rw [h.hb.other 1 j (fun e => h1 e.symm)]; exact h.one, h.row.setCell b j v h.ne, by simpa [World.setCell] using h.lt, h.ne⟩
set_option maxRecDepth 100000 in
set_option maxHeartbeats 2000000 in
theorem new_F (mtu : Int) (a : Addr) (l : List Ad) (sc : Nat) (h1 : 1 ≤ l.length) (h4 : l.length ≤ 4) (hsc : l.length ≤ sc) (w : World) (ha : a.block < w.heap.size) (hrow : RowA w a l) (hf : Fine l)
    (hok : (l.any fun x => !addrL x.1 x.2) = false) (hm1 : 1280 ≤ mtu) (hm2 : mtu ≤ 65535) :
    Calls Tryz.prog 26 #[.agg (setV (.slice (some a) l.length sc) mtu)] w (NewP l w) := by
  have d1 : decide ((l.length : Int) < 1) = false := by simp; omega
  have d2 : decide ((4 : Int) < l.length) = false := by simp; omega
  have d3 : decide (mtu < 1280) = false := by simp; omega
  have d4 : decide (65535 < mtu) = false := by simp; omega
  have hen : ∀ args W, (callFunc 76 args).run Tryz.prog W = .ok (.enter 76 args) W := fun args W => Go.Am.run_callFunc Tryz.func76 rfl (by kernel_rfl) W
  have hc := fun W (hb : Below w.heap.size w W) => contains98 76 #[] (fun x => !addrL x.1 x.2) a l sc W W.heap.size (Nat.le_refl _) (Nat.lt_of_lt_of_le ha hb.size) (hrow.below hb ha) hf (by omega) hen fun x hx W' _ => bad96 x.1 x.2 (hf x hx).1 (hf x hx).2 W'
  rw [hok] at hc
  have hbox : Below w.heap.size w (w.alloc (.cells (setV (.slice (some a) l.length sc) mtu) 86)) := (Below.refl _ w).alloc (Nat.le_refl _) _
  obtain ⟨wb, hwb⟩ : ∃ wb, w.alloc (.cells (setV (.slice (some a) l.length sc) mtu) 86) = wb := ⟨_, rfl⟩
  have hwbs : wb.heap.size = w.heap.size + 1 := by rw [← hwb]; simp
  have hcell : ∀ w1 j, Below wb.heap.size wb w1 → w1.cell? ⟨w.heap.size, j, none⟩ = (setV (.slice (some a) l.length sc) mtu)[j]? := fun w1 j hb => by
    rw [hb.cell (p := ⟨w.heap.size, j, none⟩) (by simp [hwbs]), ← hwb, cell_last]
  rw [hwb] at hbox
  have Hc := Lib.hid (hc _ hbox)
  have Hcell := Lib.hid hcell
  have Hwbs := Lib.hid hwbs
  have Hbox := Lib.hid hbox
  obtain rfl := hwb
  clear hbox
  clear hc hcell hen hwbs
  go_enter Tryz.func26, Tryz.ntmps26
  go_wp2_with (first | (go_at_call 77; refine Hc.out.mono ?_; rintro e w1 ⟨rfl, hb1⟩; have hc0 := Hcell.out w1 0 hb1; have hc1 := Hcell.out w1 1 hb1; have Hb1 := Lib.hid hb1; clear hb1; simp at hc1 hc0))
  go_loopw [39] (fun i W => ∃ k : Nat, k ≤ l.length ∧ i = .int .i64 k ∧ Below (w.alloc (.cells (setV (.slice (some a) l.length sc) mtu) 86)).heap.size (w.alloc (.cells (setV (.slice (some a) l.length sc) mtu) 86)) W ∧ ∀ j, j < k → dupL l j = false) (fun i _ => l.length - (intOf i).toNat)
  case atStart => exact ⟨0, Nat.zero_le _, rfl, Hb1.out, fun j hj => by omega⟩
  case round =>
    obtain ⟨k, hk, rfl, hb, hz⟩ := hrel
    have hbw : Below w.heap.size w wr := Hbox.out.trans (hb.mono (by rw [Hwbs.out]; omega))
    have hsz : w.heap.size + 1 ≤ wr.heap.size := by have := hb.size; rw [Hwbs.out] at this; exact this
    have hr0 := Hcell.out wr 0 hb
    have hr1 := Hcell.out wr 1 hb
    simp at hr0 hr1
    clear hc0 hc1
    rcases Nat.lt_or_ge k l.length with hlt | hge
    · obtain ⟨x, hx⟩ : ∃ x, l[k]? = some x := ⟨_, List.getElem?_eq_getElem hlt⟩
      have hfx := hf x (List.mem_of_getElem? hx)
      have hld := (hrow.below hbw ha).load hf hx
      have Hrow := Lib.hid hrow
      have Hx := Lib.hid hx
      clear hrow hx
      go_wp2_with (first
        | (refine wpList_load_agg rfl 32 _ rfl _ rfl (cellsA x.1 x.2) hld ?_)
        | (refine wpList_store_agg rfl 32 _ _ rfl _ rfl _ rfl _ (store_new wr _ rfl x.1 x.2 hfx.1) ?_))
      refine wp_region_still_tail 5 (by kernel_rfl) (by kernel_rfl) ?_
      simp only [List.take_succ_cons, List.take_zero, List.drop_succ_cons, List.drop_zero]
      generalize hW : World.mk _ _ _ _ _ = W
      have hWc : ∀ p, W.cell? p = (wr.alloc (.cells (cellsA x.1 x.2) 32)).cell? p := fun p => by rw [← hW]; rfl
      have hWb : Below wr.heap.size wr W := ((Below.refl wr.heap.size wr).alloc (Nat.le_refl _) (.cells (cellsA x.1 x.2) 32)).trans (by rw [← hW]; exact ⟨rfl, rfl, rfl, Nat.le_refl _, fun _ _ => rfl⟩)
      have hd0 : W.cell? ⟨w.heap.size, 0, none⟩ = some (.slice (some a) l.length sc) := by
        rw [← hr0]
        exact hWb.cell (p := ⟨w.heap.size, 0, none⟩) (by show w.heap.size < _; omega)
      have hd6 : ∀ j, W.cell? ⟨wr.heap.size, j, none⟩ = (cellsA x.1 x.2)[j]? := fun j => by rw [hWc, cell_last]
      have hWr := ((Hrow.out.take k).below hbw ha).below (hWb.mono hbw.size) ha
      have hlk : (l.take k).length = k := by simp; omega
      have hct := contains99 x hfx.1 a (l.take k) sc W W.heap.size (Nat.le_refl _) (by have := hWb.size; omega) hWr (hf.take k) (by omega)
      rw [hlk] at hct
      refine wpStill_value rfl (.pointer (some ⟨w.heap.size, 0, none⟩)) rfl ?_
      refine wpStill_value rfl (.slice (some a) l.length sc) (exec_load rfl rfl (run_loadVar_one (by kernel_rfl) hd0)) ?_
      refine wpStill_value rfl (.int .i64 k) rfl ?_
      refine wpStill_value rfl (.slice (some a) k sc) ?_ ?_
      · clear hd0 hd6 hWr hct hlk
        simp [execOp, Act.eval, Act.put, go_sem]
        intro h; omega
      refine wpStill_value rfl (.agg (cellsA x.1 x.2)) (exec_load rfl rfl (load29_at _ wr.heap.size x.1 x.2 hfx.1 hd6)) ?_
      refine wpStill_nil ?_
      clear hd0 hd6 hWr hlk hWc
      generalize hdup : (l.take k).any (fun y => x.1 == y.1 && x.2 == y.2) = dup at hct
      have Hdup := Lib.hid hdup
      clear hdup
      go_wp2_with (first | (go_at_call 42; refine hct.mono ?_; rintro e w2 ⟨rfl, hb2⟩))
      · have hdp : dupL l k = true := by
          unfold dupL
          rw [Hx.out]
          exact Hdup.out.trans (by assumption)
        have hP : NewP l w (.returned (.tuple #[.pointer none, .int .i64 1])) w2 := by
          unfold NewP
          rw [if_neg (by rw [dup_not hlt hdp]; simp)]
          exact ⟨rfl, hbw.trans ((hWb.trans (hb2.mono hWb.size)).mono hbw.size)⟩
        go_ret2
        exact hP
      · have hdp : dupL l k = false := by
          unfold dupL
          rw [Hx.out]
          exact Hdup.out.trans (by assumption)
        have hbn := hb.trans ((hWb.trans (hb2.mono hWb.size)).mono (by rw [Hwbs.out]; exact hsz))
        go_roundw
        case rel => exact ⟨k + 1, by omega, by go_num, hbn, fun j hj => by
          rcases Nat.lt_or_ge j k with h | h
          · exact hz j h
          · obtain rfl : j = k := by omega
            exact hdp⟩
        case measure => simp [intOf]; omega
    · obtain rfl : k = l.length := by omega
      have hdl := distinct_of hz
      have Hrow := Lib.hid hrow
      clear hrow hz
      have hbs := Hcell.out wr
      have htcp : (loadVar 84 ⟨w.heap.size, 2, none⟩).run Tryz.prog wr = .ok (.agg ⟨tcpV⟩) wr := by
        refine run_loadVar_agg (n := 9) (fun w => by kernel_rfl) (fun w => by kernel_rfl) _ _ rfl fun j v hj => ?_
        have hadd : (⟨w.heap.size, 2, none⟩ : Addr).add j = ⟨w.heap.size, 2 + j, none⟩ := by unfold Addr.add; split <;> simp_all
        rw [hadd, hbs _ hb]
        have hj9 : j < 9 := (Array.getElem?_eq_some_iff.1 hj).1
        rw [← hj]
        rcases j with _ | _ | _ | _ | _ | _ | _ | _ | _ | j <;> first | rfl | omega
      go_wp2_with (first
        | (refine wpList_load_agg rfl 84 _ rfl _ rfl ⟨tcpV⟩ htcp ?_)
        | (go_at_call 78; refine (sockNew _).mono ?_; rintro e w2 ⟨⟨p, rfl⟩, hb2⟩))
      have hs : ∀ W, Below wr.heap.size wr W → ∀ j, W.cell? ⟨w.heap.size, j, none⟩ = (setV (.slice (some a) l.length sc) mtu)[j]? := fun W hbW j => by
        rw [hbW.cell (p := ⟨w.heap.size, j, none⟩) (by show w.heap.size < _; omega)]; exact hbs j hb
      have HS := Lib.hid hs
      have Hbs := Lib.hid hbs
      clear hs hbs htcp
      go_cut [9] (fun s9 wx => ∃ b, s9 = .pointer (some ⟨b, 0, none⟩) ∧ HostB wx b p ∧ wr.heap.size ≤ b ∧ Below wr.heap.size wr wx)
      case first =>
        have KS : Hid (∀ W, Below wr.heap.size wr W → W.cell? ⟨w.heap.size, 0, none⟩ = some (.slice (some a) l.length sc) ∧ W.cell? ⟨w.heap.size, 1, none⟩ = some (.int .i64 mtu) ∧ W.cell? ⟨w.heap.size, 2, none⟩ = some (.int .i64 200) ∧ W.cell? ⟨w.heap.size, 3, none⟩ = some (.int .i64 300) ∧ W.cell? ⟨w.heap.size, 4, none⟩ = some (.bool true) ∧ W.cell? ⟨w.heap.size, 5, none⟩ = some (.bool true) ∧ W.cell? ⟨w.heap.size, 6, none⟩ = some (.bool false) ∧ W.cell? ⟨w.heap.size, 7, none⟩ = some (.int .u8 0) ∧ W.cell? ⟨w.heap.size, 8, none⟩ = some (.bool false) ∧ W.cell? ⟨w.heap.size, 9, none⟩ = some (.bool false) ∧ W.cell? ⟨w.heap.size, 10, none⟩ = some (.int .i64 0)) := Lib.hid fun W hbW =>
          ⟨HS.out W hbW 0, HS.out W hbW 1, HS.out W hbW 2, HS.out W hbW 3, HS.out W hbW 4, HS.out W hbW 5, HS.out W hbW 6, HS.out W hbW 7, HS.out W hbW 8, HS.out W hbW 9, HS.out W hbW 10⟩
        have hz2 : wr.heap.size ≤ w2.heap.size := hb2.size
        have B2 : Hid (Below wr.heap.size wr w2.drew) := Lib.hid (hb2.trans ⟨rfl, rfl, rfl, Nat.le_refl _, fun _ _ => rfl⟩)
        have B2m : Hid (Below wr.heap.size wr (w2.alloc (.map #[] 0)).drew) := Lib.hid ((hb2.alloc hz2 _).trans ⟨rfl, rfl, rfl, Nat.le_refl _, fun _ _ => rfl⟩)
        have S2 := KS.out _ B2.out
        have S2m := KS.out _ B2m.out
        clear hb2 hr0 hr1
        have hmm := @run_makeMap Tryz.prog
        go_region_held3 (fun W => W.cell? ⟨w.heap.size, 0, none⟩ = some (.slice (some a) l.length sc) ∧ W.cell? ⟨w.heap.size, 1, none⟩ = some (.int .i64 mtu) ∧ W.cell? ⟨w.heap.size, 2, none⟩ = some (.int .i64 200) ∧ W.cell? ⟨w.heap.size, 3, none⟩ = some (.int .i64 300) ∧ W.cell? ⟨w.heap.size, 4, none⟩ = some (.bool true) ∧ W.cell? ⟨w.heap.size, 5, none⟩ = some (.bool true) ∧ W.cell? ⟨w.heap.size, 6, none⟩ = some (.bool false) ∧ W.cell? ⟨w.heap.size, 7, none⟩ = some (.int .u8 0) ∧ W.cell? ⟨w.heap.size, 8, none⟩ = some (.bool false) ∧ W.cell? ⟨w.heap.size, 9, none⟩ = some (.bool false) ∧ W.cell? ⟨w.heap.size, 10, none⟩ = some (.int .i64 0)) (first | exact S2 | exact S2m | assumption | exact KS.out _ (B3.out.alloc hz3 _) | exact KS.out _ (B4.out.alloc hz4 _) | exact KS.out _ ((B4.out.alloc hz4 _).alloc (by simp; omega) _) | go_keep)
          (first
            | (go_at_call 79; refine (mktNew _).mono ?_; rintro e w3 ⟨⟨p1, rfl⟩, hb3⟩; have hz3 : wr.heap.size ≤ w3.heap.size := (by have := hb3.size; (try simp at this); omega); have B3 : Hid (Below wr.heap.size wr w3) := (by first | exact Lib.hid (B2.out.trans (hb3.mono hz2)) | exact Lib.hid (B2m.out.trans (hb3.mono (by simp; omega)))); have S3 := KS.out _ B3.out; clear hb3)
            | (go_at_call 80; refine (routeNew _).mono ?_; rintro e w4 ⟨⟨p2, rfl⟩, hb4⟩; have hz4 : wr.heap.size ≤ w4.heap.size := (by have := hb4.size; (try simp at this); omega); have B4 : Hid (Below wr.heap.size wr w4) := (by first | exact Lib.hid (B3.out.trans (hb4.mono hz3)) | exact Lib.hid ((B3.out.alloc hz3 _).trans (hb4.mono (by simp; omega)))); have S4 := KS.out _ B4.out; clear hb4))
        all_goals (go_wp2_with fail; go_meet; refine ⟨_, rfl, ⟨_, heap_at _ _ _ (by simp), rfl, rfl⟩, (by first | omega | (simp; omega)), ?_⟩; first | exact (B4.out.alloc hz4 _) | exact ((B4.out.alloc hz4 _).alloc (by simp; omega) _))
      case rest =>
        obtain ⟨b, rfl, hHB, hbr, hBw⟩ := hcut
        clear hr0 hr1
        have g0 := HS.out wc hBw 0
        simp at g0
        have hac : a.block < wc.heap.size := by have := hbw.size; have := hBw.size; omega
        have hcl := cloneAd a l sc wc hac ((Hrow.out.below hbw ha).below (hBw.mono hbw.size) ha) hf (by omega)
        have Hcl := Lib.hid hcl
        have HHB := Lib.hid hHB
        have HBw := Lib.hid hBw
        have hwcs := hBw.size
        clear hcl hHB hBw
        have hG1 : ∀ W, Below wr.heap.size wr W → W.cell? ⟨w.heap.size, 1, none⟩ = some (.int .i64 mtu) := fun W hW => by have := HS.out W hW 1; simpa using this
        have G1 := Lib.hid hG1
        clear hG1
        go_wp2_with (first
          | (go_at_call 81; refine Hcl.out.mono ?_; rintro e w3 ⟨a', sc', rfl, hrow', ha', haw, hb3⟩; have hH3 := HHB.out.below hb3; have hB3 := HBw.out.trans (hb3.mono hwcs); have hw3s := hb3.size; obtain ⟨v1, hv1⟩ := hH3.cell 1 (by omega); have hz1 := hH3.frozen 1; have hbl := HHB.out.lt; have HI3 : Hid (HostI (w3.setCell ⟨b, 1, none⟩ (.slice (some a') l.length sc')) b p a' sc' l) := Lib.hid ⟨hH3.set 1 (by omega) _, hH3.self 1 (by omega) _, hrow'.setCell b 1 _ (by omega), (by simpa [World.setCell] using ha'), (by omega)⟩; have HB3 := Lib.hid (hB3.setCell (p := ⟨b, 1, none⟩) hbr (.slice (some a') l.length sc')); have hw3z : (w3.setCell ⟨b, 1, none⟩ (.slice (some a') l.length sc')).heap.size = w3.heap.size := (by simp [World.setCell]); have Hw3z := Lib.hid hw3z; clear hb3 hH3 hB3 hrow' hw3z)
          | (go_at_call 82; refine (fragNew _).mono ?_; rintro e w5 ⟨⟨p5, rfl⟩, hb5⟩; have hI5 := HI3.out.below hb5; have hB5 := HB3.out.trans (hb5.mono (by rw [Hw3z.out]; omega)); have hw5s := hb5.size; rw [Hw3z.out] at hw5s; obtain ⟨v5, hv5⟩ := hI5.hb.cell 14 (by omega); have hz5 := hI5.hb.frozen 14; have HI5 := Lib.hid (hI5.set 14 (by omega) (by omega) (.pointer (some p5))); have HB5 := Lib.hid (hB5.setCell (p := ⟨b, 14, none⟩) hbr (.pointer (some p5))); have k1 := G1.out _ HB5.out; have Hw5z := Lib.hid (show (w5.setCell ⟨b, 14, none⟩ (.pointer (some p5))).heap.size = w5.heap.size by simp [World.setCell]); clear hb5 hI5 hB5)
          | (go_at_call 83; refine (pmtuNew mtu hm1 hm2 _).mono ?_; rintro e w7 ⟨⟨p7, rfl⟩, hb7⟩; have hI7 := HI5.out.below hb7; have hB7 := HB5.out.trans (hb7.mono (by rw [Hw5z.out]; omega)); obtain ⟨v7, hv7⟩ := hI7.hb.cell 15 (by omega); have hz7 := hI7.hb.frozen 15; have HI7 := Lib.hid (hI7.set 15 (by omega) (by omega) (.pointer (some p7))); have HB7 := Lib.hid (hB7.setCell (p := ⟨b, 15, none⟩) hbr (.pointer (some p7))); clear hb7 hI7 hB7 k1))
        have hP : NewP l w (.returned (.tuple #[.pointer (some ⟨b, 0, none⟩), .int .i64 0])) (w7.setCell ⟨b, 15, none⟩ (.pointer (some p7))) := by
          unfold NewP
          rw [if_pos hdl]
          exact ⟨b, rfl, ⟨⟨p, HI7.out.hb.zero⟩, a', sc', HI7.out.one, HI7.out.row, HI7.out.lt⟩, hbw.trans (HB7.out.mono hbw.size)⟩
        go_ret2
        exact hP
end Go.Hm
