/- HostMay: host.New. -/
import Derived.Test.YtecihapafnpgbaaGreatHmM
import Derived.Outline
import Derived.Lib.Hide
set_option linter.unusedSimpArgs false
set_option linter.unusedVariables false
set_option linter.constructorNameAsVariable false
set_option linter.unusedSectionVars false
namespace Go.Hm
open Go Go.Proofs Go.RowKit
/-- A setting, as a value: its addresses, its MTU; the rest is as in the law. -/
abbrev setV (sl : Value) (mtu : Int) : Array Value := #[sl, .int .i64 mtu, .int .i64 200, .int .i64 300, .bool true, .bool true, .bool false, .int .u8 0, .bool false, .bool false, .int .i64 0]
set_option maxRecDepth 100000 in
theorem new_A (mtu : Int) (a : Option Addr) (sc : Nat) (w : World) :
    Calls Tryz.prog 26 #[.agg (setV (.slice a 0 sc) mtu)] w fun e w' => e = .returned (.tuple #[.pointer none, .int .i64 1]) ∧ Below w.heap.size w w' := by
  go_enter Tryz.func26, Tryz.ntmps26
  go_wp2
  go_ret2
  exact ⟨rfl, (Below.refl _ w).alloc (Nat.le_refl _) _⟩
set_option maxRecDepth 100000 in
theorem new_B (mtu : Int) (a : Option Addr) (n sc : Nat) (hn : 4 < n) (w : World) :
    Calls Tryz.prog 26 #[.agg (setV (.slice a n sc) mtu)] w fun e w' => e = .returned (.tuple #[.pointer none, .int .i64 1]) ∧ Below w.heap.size w w' := by
  have h1 : decide ((n : Int) < 1) = false := by simp; omega
  have h2 : decide ((4 : Int) < n) = true := by simp; omega
  go_enter Tryz.func26, Tryz.ntmps26
  go_wp2
  go_ret2
  exact ⟨rfl, (Below.refl _ w).alloc (Nat.le_refl _) _⟩
set_option maxRecDepth 100000 in
set_option maxHeartbeats 1000000 in
theorem new_C (mtu : Int) (a : Addr) (l : List Ad) (sc : Nat) (h1 : 1 ≤ l.length) (h4 : l.length ≤ 4) (w : World) (ha : a.block < w.heap.size) (hrow : RowA w a l) (hf : Fine l)
    (hno : (l.any fun x => !addrL x.1 x.2) = true ∨ mtu < 1280 ∨ 65535 < mtu) :
    Calls Tryz.prog 26 #[.agg (setV (.slice (some a) l.length sc) mtu)] w fun e w' => e = .returned (.tuple #[.pointer none, .int .i64 1]) ∧ Below w.heap.size w w' := by
  have d1 : decide ((l.length : Int) < 1) = false := by simp; omega
  have d2 : decide ((4 : Int) < l.length) = false := by simp; omega
  have hen : ∀ args W, (callFunc 76 args).run Tryz.prog W = .ok (.enter 76 args) W := fun args W => Go.Am.run_callFunc Tryz.func76 rfl (by kernel_rfl) W
  have hc := fun W (hb : Below w.heap.size w W) => contains98 76 #[] (fun x => !addrL x.1 x.2) a l sc W W.heap.size (Nat.le_refl _) (Nat.lt_of_lt_of_le ha hb.size) (hrow.below hb ha) hf (by omega) hen fun x hx W' _ => bad96 x.1 x.2 (hf x hx).1 (hf x hx).2 W'
  generalize (l.any fun x => !addrL x.1 x.2) = bad at hno hc
  clear hen hrow hf
  generalize hn : l.length = n at *
  clear hn
  have hbox : Below w.heap.size w (w.alloc (.cells (setV (.slice (some a) n sc) mtu) 86)) := (Below.refl _ w).alloc (Nat.le_refl _) _
  have hcell : ∀ w1 j, Below (w.alloc (.cells (setV (.slice (some a) n sc) mtu) 86)).heap.size (w.alloc (.cells (setV (.slice (some a) n sc) mtu) 86)) w1 → w1.cell? ⟨w.heap.size, j, none⟩ = (setV (.slice (some a) n sc) mtu)[j]? := fun w1 j hb => by
    rw [hb.cell (p := ⟨w.heap.size, j, none⟩) (by simp), cell_last]
  have hend : ∀ w1, Below (w.alloc (.cells (setV (.slice (some a) n sc) mtu) 86)).heap.size (w.alloc (.cells (setV (.slice (some a) n sc) mtu) 86)) w1 → Below w.heap.size w w1 := fun w1 hb => hbox.trans (hb.mono (by simp))
  have hc := hc _ hbox
  clear hbox
  have Hcell := Lib.hid hcell
  have Hend := Lib.hid hend
  have Hc := Lib.hid hc
  clear hcell hend hc
  go_enter Tryz.func26, Tryz.ntmps26
  cases bad
  · rcases Int.lt_or_le mtu 1280 with h5 | h5
    · have d3 : decide (mtu < 1280) = true := by simp; omega
      go_wp2_with (first | (go_at_call 77; refine Hc.out.mono ?_; rintro e w1 ⟨rfl, hb1⟩; have hc1 := Hcell.out w1 1 hb1; have Hb1 := Lib.hid hb1; clear hb1; simp at hc1))
      go_ret2
      exact ⟨rfl, Hend.out _ Hb1.out⟩
    · have h6 : 65535 < mtu := by
        rcases hno with h | h | h
        · cases h
        · omega
        · exact h
      have d3 : decide (mtu < 1280) = false := by simp; omega
      have d4 : decide (65535 < mtu) = true := by simp; omega
      go_wp2_with (first | (go_at_call 77; refine Hc.out.mono ?_; rintro e w1 ⟨rfl, hb1⟩; have hc1 := Hcell.out w1 1 hb1; have Hb1 := Lib.hid hb1; clear hb1; simp at hc1))
      go_ret2
      exact ⟨rfl, Hend.out _ Hb1.out⟩
  · go_wp2_with (first | (go_at_call 77; refine Hc.out.mono ?_; rintro e w1 ⟨rfl, hb1⟩; have Hb1 := Lib.hid hb1; clear hb1))
    go_ret2
    exact ⟨rfl, Hend.out _ Hb1.out⟩
end Go.Hm
