/- HostMay: addresses that come in. · NetMay: the law, at any number of addresses. -/
import Derived.Test.YtnhpljgeckdedaaGreatHmI
import Derived.Deep.Slices
import Derived.OpenShut
import Derived.Test.YtnhpljgeckdedaaGreatNmC
set_option linter.unusedSimpArgs false
set_option linter.unusedVariables false
set_option linter.constructorNameAsVariable false
namespace Go.Hm
open Go Go.Proofs Go.RowKit Go.ChangeShapes Go.WideShapes Go.Deep
theorem add_block (a : Addr) (n : Nat) : (a.add n).block = a.block := by unfold Addr.add; split <;> rfl
section
variable {H : Type} {enc : TypeId × Value → H} {w : World} {base : Nat} {spare : Nat → Bool} {held : Bool}
theorem cellsOf29 : Tryz.prog.cellsOf 42 = 17 := by kernel_rfl
theorem cellsOf27 : Tryz.prog.cellsOf 40 = 16 := by kernel_rfl
theorem cellsOf5 : Tryz.prog.cellsOf 5 = 1 := by kernel_rfl
theorem cellsOf4 : Tryz.prog.cellsOf 4 = 1 := by kernel_rfl
theorem under29 : ∃ f0 f1 : Field, Tryz.prog.underlying 42 = some (.struct #[f0, f1]) ∧ f0.type = 4 ∧ f0.offset = 0 ∧ f1.type = 40 ∧ f1.offset = 1 := ⟨_, _, Tryz.underlying42, rfl, rfl, rfl, rfl⟩
/-- A row of bytes that was read. -/
theorem bytes_of (cs : List Value) (h : ∀ i, i < cs.length → ∃ n : Int, cs[i]? = some (.int .u8 n) ∧ 0 ≤ n ∧ n ≤ 255) : ∃ bs : List Nat, bs.length = cs.length ∧ cs = bs.map (fun b : Nat => Value.int .u8 (Int.ofNat b)) ∧ ∀ b ∈ bs, b < 256 := by
  induction cs with
  | nil => exact ⟨[], rfl, rfl, by simp⟩
  | cons c cs ih =>
    obtain ⟨n, h0, h1, h2⟩ := h 0 (by simp)
    simp at h0; subst h0
    obtain ⟨bs, h3, rfl, h5⟩ := ih fun i hi => by
      have := h (i + 1) (by simpa using hi)
      simpa using this
    refine ⟨n.toNat :: bs, by simp, ?_, ?_⟩
    · simp
      omega
    · intro b hb
      rcases List.mem_cons.1 hb with rfl | hb
      · omega
      · exact h5 b hb
theorem trod_addr {fuel : Nat} {cs : List Value} {x : DataW H × List MemPlace} (h : DataW.trod enc Tryz.prog w base spare held fuel 42 cs = some x) :
    ∃ (six : Bool) (bs : List Nat), cs = (cellsA six bs).toList ∧ bs.length = 16 ∧ bs.getD 0 0 < 256 := by
  obtain ⟨f0, f1, hu, t0, o0, t1, o1⟩ := under29
  obtain ⟨xs, n, _, _, hlen, hxl, hf⟩ := DataW.trod_struct hu h
  rw [cellsOf29] at hlen
  have h0 := hf 0 f0 rfl
  have h1 := hf 1 f1 rfl
  rw [t0, o0, cellsOf4] at h0
  rw [t1, o1, cellsOf27] at h1
  have hx0 : xs[0]? = some (xs[0]'(by simp at hxl; omega)) := List.getElem?_eq_getElem _
  have hx1 : xs[1]? = some (xs[1]'(by simp at hxl; omega)) := List.getElem?_eq_getElem _
  obtain ⟨six, hs, _⟩ := DataW.trod_bool Tryz.underlying4 (h0.trans hx0)
  obtain ⟨ys, m, _, _, hl1, hyl, hg⟩ := DataW.trod_array Tryz.underlying40 (h1.trans hx1)
  rw [cellsOf27] at hl1
  obtain ⟨bs, hb1, hb2, hb3⟩ := bytes_of ((cs.drop 1).take 16) fun i hi => by
    have hi16 : i < 16 := by omega
    have hgi := hg i hi16
    rw [cellsOf5] at hgi
    have hyi : ys[i]? = some (ys[i]'(by omega)) := List.getElem?_eq_getElem _
    obtain ⟨k, hk, _, hwf⟩ := DataW.trod_int Tryz.underlying5 (hgi.trans hyi)
    refine ⟨k, ?_, (bounds_u8 hwf).1, (bounds_u8 hwf).2⟩
    have : (((cs.drop 1).take 16).drop (i * 1)).take 1 = [.int .u8 k] := hk
    have h2 : ((((cs.drop 1).take 16).drop (i * 1)).take 1)[0]? = some (.int .u8 k) := by rw [this]; rfl
    rw [List.getElem?_take_of_lt (by omega), List.getElem?_drop] at h2
    simpa using h2
  refine ⟨six, bs, ?_, by omega, ?_⟩
  · cases cs with
    | nil => simp at hlen
    | cons c cs =>
      simp at hs hb2 hlen
      subst hs
      have : cs.take 16 = cs := List.take_of_length_le (by omega)
      rw [this] at hb2
      simp [cellsA, hb2]
  · match bs, hb1 with
    | b :: bs, _ => exact hb3 b (List.mem_cons_self ..)
    | [], h => simp at h; omega
/-- Addresses that came in: none; or a row of them. -/
def IsRowA (w : World) (a : Option Addr) (len cap : Nat) : Prop :=
  len = 0 ∨ ∃ (x : Addr) (l : List Ad), a = some x ∧ l.length = len ∧ 1 ≤ len ∧ len ≤ cap ∧ cap ≤ maxLen ∧ x.block < w.heap.size ∧ RowA w x l ∧ Fine l
theorem open_addrs {fuel : Nat} {a : Option Addr} {len cap : Nat} {x : DataW H × List MemPlace} (h : DataW.trod enc Tryz.prog w base spare held fuel 48 [.slice a len cap] = some x) : IsRowA w a len cap := by
  rcases open_slice Tryz.underlying48 h with ⟨h0, _⟩ | ⟨a', len', cap', m, n, D, Pl, hcs, _, hl, hm, hmm, _, hi⟩
  · left
    simp at h0
    exact h0.2.1
  · simp at hcs
    obtain ⟨rfl, rfl, rfl⟩ := hcs
    rcases Nat.eq_zero_or_pos len with h0 | hpos
    · exact .inl h0
    right
    have hlm : len ≤ m := by rw [hmm]; split <;> omega
    have hex : ∀ i : Nat, ∃ x : Ad, i < len → (x.2.length = 16 ∧ x.2.getD 0 0 < 256 ∧ ∀ j, j < 17 → w.cell? ((a'.add (i * 17)).add j) = (cellsA x.1 x.2)[j]?) := fun i => by
      by_cases hil : i < len
      · obtain ⟨cs', hc, ht⟩ := hi i (by omega)
        rw [cellsOf29] at hc
        obtain ⟨six, bs, rfl, hb1, hb2⟩ := trod_addr ht
        obtain ⟨_, _, hcc⟩ := World.cells?_some hc
        exact ⟨(six, bs), fun _ => ⟨hb1, hb2, fun j hj => by rw [hcc j hj]; simp⟩⟩
      · exact ⟨(false, []), fun h => absurd h hil⟩
    obtain ⟨f, hf⟩ := Classical.axiomOfChoice hex
    refine ⟨a', (List.range len).map f, rfl, by simp, hpos, hl, hm, ?_, ?_, ?_⟩
    · have h1 := (hf 0 hpos).2.2 0 (by omega)
      rw [cellsA_zero] at h1
      have h2 := World.block_lt_of_cell? w _ h1
      rw [add_block, add_block] at h2
      exact h2
    · intro i x hx j hj
      have hil : i < len := by have := (List.getElem?_eq_some_iff.1 hx).1; simpa using this
      rw [List.getElem?_map, List.getElem?_range hil] at hx
      simp at hx; subst hx
      exact (hf i hil).2.2 j hj
    · intro x hx
      obtain ⟨i, hi, rfl⟩ := List.mem_map.1 hx
      have := hf i (List.mem_range.1 hi)
      exact ⟨this.1, this.2.1⟩
end
end Go.Hm
namespace Go.Nm
open Go Go.Am Go.Hm Go.Proofs Go.RowKit
set_option maxRecDepth 100000
theorem law_many (most : Int) (a : Option Addr) (n sc : Nat) (h : 8 < n) (w : World) :
    Calls Tryz.prog 4 #[.slice a n sc, .int .i64 most] w fun e w' => e = .returned (.bool true) ∧ Below w.heap.size w w' := by
  have e8 : decide ((8 : Int) < n) = true := by simp; omega
  have hal := Go.Am.alive30 w
  go_enter Tryz.func4, Tryz.ntmps4
  go_wp2_with (first
    | (go_at_call 5; refine hal.mono ?_; rintro e w5 ⟨rfl, hb5⟩))
  go_ret
  exact ⟨rfl, hb5⟩
theorem law_any (most : Int) (a : Option Addr) (n sc : Nat) (w : World) (h : IsRowA w a n sc) :
    Calls Tryz.prog 4 #[.slice a n sc, .int .i64 most] w fun e w' => e = .returned (.bool true) ∧ Below w.heap.size w w' := by
  rcases Nat.lt_or_ge 8 n with h8 | h8
  · exact law_many most a n sc h8 w
  · rcases h with rfl | ⟨x, l, rfl, rfl, h1, hl, hm, hx, hrow, hf⟩
    · exact law_few most a [] sc (by simp) (by simp) w (fun h => absurd rfl h) (fun x hx => by simp at hx)
    · exact law_few most (some x) l sc h8 hl w (fun _ => ⟨x, rfl, hx, hrow⟩) hf
end Go.Nm
