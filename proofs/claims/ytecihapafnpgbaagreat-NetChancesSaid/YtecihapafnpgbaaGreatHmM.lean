/- NetMay: what host.New calls: makers. · HostMay: slices.Clone over addresses. -/
import Derived.Test.YtecihapafnpgbaaGreatHmI
import Derived.Test.YtecihapafnpgbaaGreatAmG
import Derived.Carry
import Derived.Laws.OwnMore
import Derived.OwnWalk
import Derived.WalkSpells
set_option linter.unusedSimpArgs false
set_option linter.unusedVariables false
set_option linter.constructorNameAsVariable false
set_option linter.unusedSectionVars false
namespace Go.Hm
open Go Go.Am Go.Proofs Go.RowKit
set_option maxRecDepth 100000
/-- A pointer came. -/
def PtrBelow (w : World) (e : Ending) (w' : World) : Prop := (∃ p, e = .returned (.pointer (some p))) ∧ Below w.heap.size w w'
/-- A pointer came, and no error. -/
def Ptr0Below (w : World) (e : Ending) (w' : World) : Prop := (∃ p, e = .returned (.tuple #[.pointer (some p), .int .i64 0])) ∧ Below w.heap.size w w'
def isPtrR : Option Ro → Bool
  | some (.ret (.pointer (some _)) _) => true
  | _ => false
def isPtr0R : Option Ro → Bool
  | some (.ret (.tuple ⟨[.pointer (some _), .int .i64 (.ofNat 0)]⟩) _) => true
  | _ => false
theorem leaf_ptr (f : Nat) (args : List Value) (hf : ∀ v ∈ args, Flat v) (h : isPtrR (callA Tryz.prog fns .lf 100000 100 f args (.mk .lf 0)) = true) (w : World) :
    Calls Tryz.prog f ⟨args⟩ w (PtrBelow w) := by
  unfold isPtrR at h
  split at h
  · rename_i a m hr
    obtain ⟨_, hc⟩ := leaf_ok w.heap.size f args (.mk .lf 0) _ hr noSg w args (rel_empty Tryz.prog w 0) (LRel.flat hf)
    refine hc.mono fun e w' he => ?_
    obtain ⟨σ', _, hb, _, v', rfl, hv⟩ := he
    cases hv
    exact ⟨⟨_, rfl⟩, hb⟩
  · cases h
theorem leaf_ptr0 (f : Nat) (args : List Value) (hf : ∀ v ∈ args, Flat v) (h : isPtr0R (callA Tryz.prog fns .lf 100000 100 f args (.mk .lf 0)) = true) (w : World) :
    Calls Tryz.prog f ⟨args⟩ w (Ptr0Below w) := by
  unfold isPtr0R at h
  split at h
  · rename_i a m hr
    obtain ⟨_, hc⟩ := leaf_ok w.heap.size f args (.mk .lf 0) _ hr noSg w args (rel_empty Tryz.prog w 0) (LRel.flat hf)
    refine hc.mono fun e w' he => ?_
    obtain ⟨σ', _, hb, _, v', rfl, hv⟩ := he
    have hl : LRel σ' [.pointer (some a), .int .i64 (.ofNat 0)] (match v' with | .tuple ⟨l⟩ => l | _ => []) := by
      cases hv with
      | tuple h1 h2 => exact ⟨h1, h2⟩
    cases hv with
    | tuple h1 h2 =>
      rename_i l'
      obtain ⟨v1, t1, e1, k1, ha1⟩ := LRel.head (l' := l') ⟨h1, h2⟩
      obtain ⟨v2, t2, e2, k2, ha2⟩ := ha1.head
      obtain rfl := ha2.nil_inv
      subst e2; subst e1
      cases k1
      cases k2
      exact ⟨⟨_, rfl⟩, hb⟩
  · cases h
theorem mktNew (w : World) : Calls Tryz.prog 79 #[] w (PtrBelow w) := leaf_ptr _ [] (by simp) (by kernel_rfl) w
theorem routeNew (w : World) : Calls Tryz.prog 80 #[] w (PtrBelow w) := leaf_ptr _ [] (by simp) (by kernel_rfl) w
theorem fragNew (w : World) : Calls Tryz.prog 82 #[.int .i64 16] w (Ptr0Below w) := leaf_ptr0 _ [.int .i64 16] (by intro v hv; simp at hv; subst hv; exact .int _ _) (by kernel_rfl) w
abbrev tcpV : List Value := [.int .i64 200, .int .i64 300, .bool true, .bool true, .bool false, .int .u8 0, .bool false, .bool false, .int .i64 0]
theorem sockNew (w : World) : Calls Tryz.prog 78 #[.agg ⟨tcpV⟩] w (Ptr0Below w) := leaf_ptr0 _ [.agg ⟨tcpV⟩] (by
    intro v hv; simp at hv; subst hv
    refine .agg fun v hv => ?_
    simp [tcpV] at hv
    rcases hv with rfl | rfl | rfl | rfl | rfl | rfl | rfl
    all_goals first | exact .int _ _ | exact .bool _) (by kernel_rfl) w
set_option maxHeartbeats 1000000 in
theorem pmtuNew (mtu : Int) (h1 : 1280 ≤ mtu) (h2 : mtu ≤ 65535) (w : World) : Calls Tryz.prog 83 #[.int .i64 mtu] w (Ptr0Below w) := by
  have d1 : decide (mtu < 1280) = false := by simp; omega
  have d2 : decide (65535 < mtu) = false := by simp; omega
  have hmm := @run_makeMap Tryz.prog
  go_enter Tryz.func83, Tryz.ntmps83
  go_wp2
  go_ret2
  exact ⟨⟨_, rfl⟩, ((Below.refl _ w).alloc (Nat.le_refl _) _).alloc (by simp) _⟩
end Go.Hm
namespace Go.Hm
open Go Go.Proofs Go.RowKit
/-- The cells of a row of addresses. -/
def cellsL (l : List Ad) : List Value := l.flatMap fun x => (cellsA x.1 x.2).toList
theorem cellsL_cons (y : Ad) (l : List Ad) : cellsL (y :: l) = (cellsA y.1 y.2).toList ++ cellsL l := rfl
theorem cellsL_len : ∀ (l : List Ad), Fine l → (cellsL l).length = l.length * 17
  | [], _ => rfl
  | y :: l, h => by
    have ih := cellsL_len l fun x hx => h x (List.mem_cons_of_mem _ hx)
    have hy := cellsA_size y.1 y.2 (h y (List.mem_cons_self ..)).1
    rw [cellsL_cons, List.length_append, ih, Array.length_toList, hy, List.length_cons]; omega
theorem cellsL_get : ∀ (l : List Ad), Fine l → ∀ (i j : Nat) (x : Ad), l[i]? = some x → j < 17 → (cellsL l)[i * 17 + j]? = (cellsA x.1 x.2)[j]?
  | [], _, i, j, x, h, _ => by simp at h
  | y :: l, hf, i, j, x, h, hj => by
    have hy := cellsA_size y.1 y.2 (hf y (List.mem_cons_self ..)).1
    rw [cellsL_cons]
    cases i with
    | zero =>
      simp at h; subst h
      rw [List.getElem?_append_left (by rw [Array.length_toList, hy]; omega)]
      simp
    | succ i =>
      have ih := cellsL_get l (fun x hx => hf x (List.mem_cons_of_mem _ hx)) i j x (by simpa using h) hj
      rw [List.getElem?_append_right (by rw [Array.length_toList, hy]; omega), Array.length_toList, hy, ← ih]
      congr 1; omega
theorem add_add (a : Addr) (m n : Nat) : (a.add m).add n = a.add (m + n) := by
  unfold Addr.add
  split <;> split <;> simp_all <;> omega
theorem RowA.cells {W : World} {a : Addr} {l : List Ad} (h : RowA W a l) (hf : Fine l) (j : Nat) (u : Value) (hu : (cellsL l)[j]? = some u) : W.cell? (a.add j) = some u := by
  have hlt := (List.getElem?_eq_some_iff.1 hu).1
  rw [cellsL_len l hf] at hlt
  obtain ⟨x, hx⟩ : ∃ x, l[j / 17]? = some x := ⟨_, List.getElem?_eq_getElem (by omega)⟩
  have h1 := h (j / 17) x hx (j % 17) (by omega)
  have h2 := cellsL_get l hf (j / 17) (j % 17) x hx (by omega)
  have e : j / 17 * 17 + j % 17 = j := by omega
  rw [add_add, e] at h1
  rw [e, hu] at h2
  rw [h1, ← h2]
theorem RowA.of {W : World} {a : Addr} {l : List Ad} (hf : Fine l) (h : ∀ j u, (cellsL l)[j]? = some u → W.cell? (a.add j) = some u) : RowA W a l := by
  intro i x hi j hj
  have h2 := cellsL_get l hf i j x hi hj
  have hc := cellsA_size x.1 x.2 (hf x (List.mem_of_getElem? hi)).1
  obtain ⟨v, hv⟩ : ∃ v, (cellsA x.1 x.2)[j]? = some v := ⟨_, Array.getElem?_eq_getElem (by omega)⟩
  rw [add_add, h _ _ (h2.trans hv), hv]
theorem cellsL_one (l : List Ad) : ∀ u ∈ cellsL l, u.oneCell' = true := by
  intro u hu
  obtain ⟨x, _, hx⟩ := List.mem_flatMap.1 hu
  simp [cellsA] at hx
  rcases hx with rfl | ⟨_, _, rfl⟩ <;> rfl
/-- A row of its own, with the same addresses. -/
def CloneP (l : List Ad) (w : World) (e : Ending) (w' : World) : Prop :=
  ∃ a' sc', e = .returned (.slice (some a') l.length sc') ∧ RowA w' a' l ∧ a'.block < w'.heap.size ∧ w.heap.size ≤ a'.block ∧ Below w.heap.size w w'
theorem infoAd : (Tryz.prog.info? 32).map (fun i => (i.zero, i.size, i.bytes)) = some (some (.agg (cellsA false (List.replicate 16 0))), 17, 17) := by kernel_rfl
set_option maxRecDepth 100000 in
set_option maxHeartbeats 1000000 in
theorem cloneAd (a : Addr) (l : List Ad) (sc : Nat) (w : World) (ha : a.block < w.heap.size) (hrow : RowA w a l) (hf : Fine l) (hlen : l.length ≤ 1000) :
    Calls Tryz.prog 81 #[.slice (some a) l.length sc] w (CloneP l w) := by
  have q22 : ∀ (w : World) (a : Option Addr) (n c n' c' : Nat), (binOp .eql 82 (.slice a n c) (.slice none n' c')).run Tryz.prog w = .ok (.bool a.isNone) w := fun w a n c n' c' => Lib.run_eql_slice_nil w 82 32 a n c n' c' Tryz.underlying82
  obtain ⟨i0, hi, hz0, hz1, hz2⟩ := info_parts infoAd
  go_enter Tryz.func81, Tryz.ntmps81
  go_wp2_with (first | (at_builtin; refine wpList_append_own _ rfl _ _ 82 rfl w.heap.size 32 i0 (.agg (cellsA false (List.replicate 16 0))) 17 17 Tryz.underlying82 hi hz0 hz1 hz2 (by simp [cellsA, Value.cells]) (by decide) _ 0 [] rfl ?c1 a l.length sc (cellsL l) rfl (cellsL_len l hf) ?c2 (cellsL_one l) ?c3 ?c4 ?c5 ?_))
  case c1 => exact World.ownsRow_made w #[] 0 (Nat.le_refl _) (by simp [maxLen]) rfl
  case c2 =>
    intro j u hu
    have hb : Below w.heap.size w (w.alloc (.cells #[] 32)) := (Below.refl _ w).alloc (Nat.le_refl _) _
    rw [hb.cell (by unfold Addr.add; split <;> exact ha)]
    exact hrow.cells hf j u hu
  case c3 => unfold maxLen; omega
  case c4 => omega
  case c5 => simp
  intro v' w' hown hgr hne
  have hb : Below w.heap.size w w' := ((Below.refl _ w).alloc (Nat.le_refl _) _).trans ⟨hgr.os, hgr.tape, hgr.output, hgr.size, fun k hk => hgr.block k (by simp; omega) (by simp [Value.ownBlock]; omega)⟩
  have hP : CloneP l w (.returned v') w' := by
    rcases hown.2 with ⟨h, _⟩ | ⟨g, cap, cur, rfl, hbg, hg, _⟩
    · exact absurd h hne
    · exact ⟨⟨g, 0, none⟩, cap, rfl, RowA.of hf fun j u hu => hown.cells rfl j u hu, (Array.getElem?_eq_some_iff.1 hg).1, hbg, hb⟩
  clear hown hgr hne hb hrow
  go_wp2
  go_ret
  exact hP
end Go.Hm
