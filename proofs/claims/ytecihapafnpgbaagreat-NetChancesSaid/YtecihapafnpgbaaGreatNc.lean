/- NetChances: the law at data that is not too long. -/
import Derived.Test.YtecihapafnpgbaaGreatChZ
set_option linter.unusedSimpArgs false
set_option linter.unusedVariables false
set_option linter.constructorNameAsVariable false
set_option linter.unusedSectionVars false
namespace Go.Ch
open Go Go.Am Go.Hm Go.Proofs Go.RowKit
set_option maxRecDepth 100000
abbrev lossL : Array Value := #[.float .f64 4607182418800017408, .float .f64 4611686018427387904, .float .f64 9218868437227405312, .float .f64 0, .float .f64 9223372036854775808, .float .f64 13830554455654793216, .float .f64 18442240474082181120, .float .f64 9221120237041090561]
/-- A loss that is sure, or none. -/
def SureF (lo : Nat) : Prop := Go.Dr.chanceF lo = one ∧ ((FloatKind.f64.format.order lo 4607182418800017408 == some .gt) || (FloatKind.f64.format.order lo 4607182418800017408 == some .eq)) = true
def NoneF (lo : Nat) : Prop := Go.Dr.chanceF lo = 0 ∧ ((FloatKind.f64.format.order lo 4607182418800017408 == some .gt) || (FloatKind.f64.format.order lo 4607182418800017408 == some .eq)) = false
theorem lossAt (k : Nat) (hk : k < 8) : ∃ lo, lossL[k]? = some (.float .f64 lo) ∧ lo < 18446744073709551616 ∧ (SureF lo ∨ NoneF lo) := by
  rcases k with _ | _ | _ | _ | _ | _ | _ | _ | k
  · exact ⟨_, rfl, by omega, .inl ⟨by decide +kernel, by decide +kernel⟩⟩
  · exact ⟨_, rfl, by omega, .inl ⟨by decide +kernel, by decide +kernel⟩⟩
  · exact ⟨_, rfl, by omega, .inl ⟨by decide +kernel, by decide +kernel⟩⟩
  · exact ⟨_, rfl, by omega, .inr ⟨by decide +kernel, by decide +kernel⟩⟩
  · exact ⟨_, rfl, by omega, .inr ⟨by decide +kernel, by decide +kernel⟩⟩
  · exact ⟨_, rfl, by omega, .inr ⟨by decide +kernel, by decide +kernel⟩⟩
  · exact ⟨_, rfl, by omega, .inr ⟨by decide +kernel, by decide +kernel⟩⟩
  · exact ⟨_, rfl, by omega, .inr ⟨by decide +kernel, by decide +kernel⟩⟩
  · omega
/-- How a chance may stand: it is sure; or it lies between; or it is none. -/
theorem dbl_case (p : Nat) (hp : p < 18446744073709551616) (b1 b2 b3 : Bool) (h1 : ((FloatKind.f64.format.order p 4607182418800017408 == some .gt) || (FloatKind.f64.format.order p 4607182418800017408 == some .eq)) = b1) (h2 : (FloatKind.f64.format.order p 0 == some .gt) = b2)
    (h3 : (FloatKind.f64.format.order p 4607182418800017408 == some .lt) = b3) : (b1 = true ∧ b3 = false ∧ ∀ d, Go.Dr.hitF p d = true) ∨ (b1 = false ∧ b2 = true ∧ b3 = true) ∨ (b1 = false ∧ (b2 = false ∨ b3 = false) ∧ ∀ d, Go.Dr.hitF p d = false) := by
  have e1 : (4607182418800017408 : Nat) = one := rfl
  rw [e1] at h1 h3
  cases ho : FloatKind.f64.format.order p one with
  | none =>
    rw [ho] at h1 h3
    subst h1; subst h3
    exact .inr (.inr ⟨rfl, .inr rfl, fun d => hit_zero p d (none_ p hp (.inl ho))⟩)
  | some o =>
    rw [ho] at h1 h3
    cases o with
    | gt =>
      subst h1; subst h3
      exact .inl ⟨rfl, rfl, fun d => hit_one p d (sure p hp .gt ho (by simp))⟩
    | eq =>
      subst h1; subst h3
      exact .inl ⟨rfl, rfl, fun d => hit_one p d (sure p hp .eq ho (by simp))⟩
    | lt =>
      subst h1; subst h3
      cases b2 with
      | true => exact .inr (.inl ⟨rfl, rfl, rfl⟩)
      | false => exact .inr (.inr ⟨rfl, .inl rfl, fun d => hit_zero p d (none_ p hp (.inr ⟨ho, by intro h; rw [h] at h2; cases h2⟩))⟩)
set_option maxHeartbeats 4000000 in
theorem law_short (f1 f2 f3 dbl : Nat) (hf : f1 < 18446744073709551616 ∧ f2 < 18446744073709551616 ∧ f3 < 18446744073709551616 ∧ dbl < 18446744073709551616) (d : List Nat) (hl : d.length ≤ 1000) (dv : Value) (w : World) (hB : BytesAt w dv d) :
    Calls Tryz.prog 4 #[.agg #[.float .f64 f1, .float .f64 f2, .float .f64 f3], .float .f64 dbl, dv] w fun e w' => e = .returned (.bool true) ∧ Below w.heap.size w w' := by
  obtain ⟨_, da, dc, rfl, _, _, _⟩ := id hB
  have e8 : decide ((1000 : Int) < d.length) = false := by simp; omega
  have hal := fun W => Go.Am.alive30 W
  have hI1 := fun W => mInf 1 (.inl rfl) W
  have hI2 := fun W => mInf (-1) (.inr rfl) W
  have hNa := fun W => mNaN W
  have hCp := fun W => mCopy W
  simp only [if_true] at hI1
  have hmm : ¬ ((-1 : Int) = 1) := by omega
  simp only [hmm, if_false] at hI2
  go_enter Tryz.func4, Tryz.ntmps4
  go_upto_region 4 with (first
    | (go_at_call 16; refine (hI1 _).mono ?_; rintro e w1 ⟨rfl, rfl⟩)
    | (go_at_call 16; refine (hI2 _).mono ?_; rintro e w1 ⟨rfl, rfl⟩)
    | (go_at_call 18; refine (hNa _).mono ?_; rintro e w1 ⟨rfl, rfl⟩)
    | (go_at_call 17; refine (hCp _).mono ?_; rintro e w1 ⟨rfl, rfl⟩))
  have X1 := BoxAt.new w #[.float .f64 f1, .float .f64 f2, .float .f64 f3] 66
  have X2 := BoxAt.new (w.alloc (.cells #[.float .f64 f1, .float .f64 f2, .float .f64 f3] 66)) lossL 65
  have hsz1 : (w.alloc (.cells #[.float .f64 f1, .float .f64 f2, .float .f64 f3] 66)).heap.size = w.heap.size + 1 := by simp
  rw [hsz1] at X2
  have hb1 : Below (w.heap.size + 1) (w.alloc (.cells #[.float .f64 f1, .float .f64 f2, .float .f64 f3] 66)) ((w.alloc (.cells #[.float .f64 f1, .float .f64 f2, .float .f64 f3] 66)).alloc (.cells lossL 65)) := (Below.refl _ _).alloc (by simp) _
  have X1 := X1.below hb1 (by omega)
  have Xb : Below w.heap.size w ((w.alloc (.cells #[.float .f64 f1, .float .f64 f2, .float .f64 f3] 66)).alloc (.cells lossL 65)) := ((Below.refl _ _).alloc (Nat.le_refl _) _).alloc (by simp) _
  have Xs : ((w.alloc (.cells #[.float .f64 f1, .float .f64 f2, .float .f64 f3] 66)).alloc (.cells lossL 65)).heap.size = w.heap.size + 2 := by simp
  generalize (w.alloc (.cells #[.float .f64 f1, .float .f64 f2, .float .f64 f3] 66)).alloc (.cells lossL 65) = W at X1 X2 Xb Xs ⊢
  have hBW := hB.below Xb
  clear hb1 hsz1 hB hI1 hI2 hNa hCp e8
  go_loopw [22] (fun i V => ∃ k : Nat, k ≤ 8 ∧ i = .int .i64 k ∧ Below W.heap.size W V) (fun i _ => 8 - (intOf i).toNat)
  case atStart => exact ⟨0, by omega, rfl, Below.refl _ _⟩
  case round =>
    obtain ⟨V, rfl⟩ : ∃ V : World, V = wr := ⟨_, rfl⟩
    obtain ⟨k, hk, rfl, hbV⟩ := hrel
    rcases Nat.lt_or_ge k 8 with hlt | hge
    · obtain ⟨lo, hlo, hlo64, hkind⟩ := lossAt k hlt
      have qL : V.cell? ⟨w.heap.size + 1, k, none⟩ = some (.float .f64 lo) := by
        have h2 := X2.2 k _ hlo
        rw [hbV.cell (World.block_lt_of_cell? W _ h2)]; exact h2
      have hBV := hBW.below hbV
      have HX := Lib.hid X1
      clear X1 X2 hlo
      obtain ⟨b1, hd1⟩ : ∃ b, ((FloatKind.f64.format.order dbl 4607182418800017408 == some .gt) || (FloatKind.f64.format.order dbl 4607182418800017408 == some .eq)) = b := ⟨_, rfl⟩
      obtain ⟨b2, hd2⟩ : ∃ b, (FloatKind.f64.format.order dbl 0 == some .gt) = b := ⟨_, rfl⟩
      obtain ⟨b3, hd3⟩ : ∃ b, (FloatKind.f64.format.order dbl 4607182418800017408 == some .lt) = b := ⟨_, rfl⟩
      have hcase := dbl_case dbl hf.2.2.2 b1 b2 b3 hd1 hd2 hd3
      rcases hkind with ⟨hc1, ho1⟩ | ⟨hc1, ho1⟩
      · have hR := round d hl (fun j => if j = 5 then lo else if j = 4 then dbl else if j = 1 then f1 else if j = 2 then f2 else if j = 3 then f3 else 0) (t := tblL) (fun e he => by
          obtain rfl := List.mem_singleton.1 he
          exact ⟨hlo64, hf.1, hit_one lo f1 hc1⟩) run_lost V _ hBV
        unfold Round at hR
        clear hcase hd1
        go_upto_region 9 with (first
          | (go_at_call 19; refine hR.mono ?_; rintro e w1 ⟨n, rfl, hb1, H1⟩))
        have hb1W := hbV.trans (hb1.mono hbV.size)
        have XV := HX.out.below hb1W (by omega)
        have c0 := XV.2 0 _ rfl
        have c1 := XV.2 1 _ rfl
        have c2 := XV.2 2 _ rfl
        clear hR XV qL hBV
        go_upto_region 13 with (first
          | (go_at_call 20; refine H1.mono ?_; rintro e w2 ⟨v2, rfl, hb2, H2⟩)
          | (go_at_call 21; refine H2.mono ?_; rintro e w3 ⟨v3, rfl, hb3, H3⟩)
          | (go_at_call 22; refine H3.mono ?_; rintro e w4 ⟨v4, rfl, hb4, H4⟩)
          | (go_at_call 7; refine H4.mono ?_; rintro e w5 ⟨rfl, hb5, H5⟩)
          | (go_at_call 23; refine H5.mono ?_; rintro e w6 ⟨v6, rfl, hb6, H6⟩))
        clear H1 H2 H3 H4 H5 hb1 hb2 hb3 hb4 hb5 c0 c1 c2 hb1W
        cases b2 <;> cases b3
        all_goals
          go_wp2_with (first
            | (go_at_call 23; refine H6.mono ?_; rintro e w7 ⟨v7, rfl, hb7, H7⟩)
            | (go_at_call 24; refine H7.mono ?_; rintro e w8 ⟨rfl, hb8, H8⟩)
            | (go_at_call 25; refine H8.mono ?_; rintro e w9 ⟨rfl, hb9⟩))
          refine ⟨⟨k + 1, by omega, by go_num, ?_⟩, by simp [intOf]; omega⟩
          first | exact hbV.trans (hb9.mono hbV.size) | exact hbV.trans (hb8.mono hbV.size) | exact hbV.trans (hb7.mono hbV.size)
      · have hR := round d hl (fun j => if j = 5 then lo else if j = 4 then dbl else if j = 1 then f1 else if j = 2 then f2 else if j = 3 then f3 else 0) (t := tbl (Go.Dr.hitF dbl f1) (Go.Dr.hitF dbl f2) (Go.Dr.hitF dbl f3)) (fun e he => by
          simp only [List.mem_cons, List.not_mem_nil, or_false] at he
          rcases he with rfl | rfl | rfl | rfl | rfl | rfl
          · exact ⟨hlo64, hf.1, hit_zero lo f1 hc1⟩
          · exact ⟨hlo64, hf.2.1, hit_zero lo f2 hc1⟩
          · exact ⟨hlo64, hf.2.2.1, hit_zero lo f3 hc1⟩
          · exact ⟨hf.2.2.2, hf.1, rfl⟩
          · exact ⟨hf.2.2.2, hf.2.1, rfl⟩
          · exact ⟨hf.2.2.2, hf.2.2.1, rfl⟩) (run_kept _ _ _) V _ hBV
        unfold Round at hR
        rcases hcase with ⟨rfl, rfl, hh⟩ | ⟨rfl, rfl, rfl⟩ | ⟨rfl, h23, hh⟩
        · rw [hh f2] at hR
          simp only [if_true] at hR
          clear hh
          go_upto_region 9 with (first
            | (go_at_call 19; refine hR.mono ?_; rintro e w1 ⟨n, rfl, hb1, H1⟩))
          have hb1W := hbV.trans (hb1.mono hbV.size)
          have XV := HX.out.below hb1W (by omega)
          have c0 := XV.2 0 _ rfl
          have c1 := XV.2 1 _ rfl
          have c2 := XV.2 2 _ rfl
          clear hR XV qL hBV
          go_upto_region 13 with (first
            | (go_at_call 20; refine H1.mono ?_; rintro e w2 ⟨v2, rfl, hb2, H2⟩)
            | (go_at_call 21; refine H2.mono ?_; rintro e w3 ⟨v3, rfl, hb3, H3⟩)
            | (go_at_call 22; refine H3.mono ?_; rintro e w4 ⟨v4, rfl, hb4, H4⟩)
            | (go_at_call 7; refine H4.mono ?_; rintro e w5 ⟨rfl, hb5, H5⟩)
            | (go_at_call 23; refine H5.mono ?_; rintro e w6 ⟨v6, rfl, hb6, H6⟩))
          clear H1 H2 H3 H4 H5 hb1 hb2 hb3 hb4 hb5 c0 c1 c2 hb1W
          cases b2
          all_goals
            go_wp2_with (first
              | (go_at_call 23; refine H6.mono ?_; rintro e w7 ⟨v7, rfl, hb7, H7⟩)
              | (go_at_call 24; refine H7.mono ?_; rintro e w8 ⟨rfl, hb8, H8⟩)
              | (go_at_call 25; refine H8.mono ?_; rintro e w9 ⟨rfl, hb9⟩))
            refine ⟨⟨k + 1, by omega, by go_num, ?_⟩, by simp [intOf]; omega⟩
            first | exact hbV.trans (hb9.mono hbV.size) | exact hbV.trans (hb8.mono hbV.size) | exact hbV.trans (hb7.mono hbV.size)
        · generalize (if Go.Dr.hitF dbl f2 = true then 3 else 2) = em at hR
          go_upto_region 9 with (first
            | (go_at_call 19; refine hR.mono ?_; rintro e w1 ⟨n, rfl, hb1, H1⟩))
          have hb1W := hbV.trans (hb1.mono hbV.size)
          have XV := HX.out.below hb1W (by omega)
          have c0 := XV.2 0 _ rfl
          have c1 := XV.2 1 _ rfl
          have c2 := XV.2 2 _ rfl
          clear hR XV qL hBV
          go_upto_region 13 with (first
            | (go_at_call 20; refine H1.mono ?_; rintro e w2 ⟨v2, rfl, hb2, H2⟩)
            | (go_at_call 21; refine H2.mono ?_; rintro e w3 ⟨v3, rfl, hb3, H3⟩)
            | (go_at_call 22; refine H3.mono ?_; rintro e w4 ⟨v4, rfl, hb4, H4⟩)
            | (go_at_call 7; refine H4.mono ?_; rintro e w5 ⟨rfl, hb5, H5⟩)
            | (go_at_call 23; refine H5.mono ?_; rintro e w6 ⟨v6, rfl, hb6, H6⟩))
          clear H1 H2 H3 H4 H5 hb1 hb2 hb3 hb4 hb5 c0 c1 c2 hb1W
          go_wp2_with (first
            | (go_at_call 23; refine H6.mono ?_; rintro e w7 ⟨v7, rfl, hb7, H7⟩)
            | (go_at_call 24; refine H7.mono ?_; rintro e w8 ⟨rfl, hb8, H8⟩)
            | (go_at_call 25; refine H8.mono ?_; rintro e w9 ⟨rfl, hb9⟩))
          refine ⟨⟨k + 1, by omega, by go_num, ?_⟩, by simp [intOf]; omega⟩
          first | exact hbV.trans (hb9.mono hbV.size) | exact hbV.trans (hb8.mono hbV.size) | exact hbV.trans (hb7.mono hbV.size)
        · rw [hh f2] at hR
          simp only [Bool.false_eq_true, if_false] at hR
          clear hh
          go_upto_region 9 with (first
            | (go_at_call 19; refine hR.mono ?_; rintro e w1 ⟨n, rfl, hb1, H1⟩))
          have hb1W := hbV.trans (hb1.mono hbV.size)
          have XV := HX.out.below hb1W (by omega)
          have c0 := XV.2 0 _ rfl
          have c1 := XV.2 1 _ rfl
          have c2 := XV.2 2 _ rfl
          clear hR XV qL hBV
          go_upto_region 13 with (first
            | (go_at_call 20; refine H1.mono ?_; rintro e w2 ⟨v2, rfl, hb2, H2⟩)
            | (go_at_call 21; refine H2.mono ?_; rintro e w3 ⟨v3, rfl, hb3, H3⟩)
            | (go_at_call 22; refine H3.mono ?_; rintro e w4 ⟨v4, rfl, hb4, H4⟩)
            | (go_at_call 7; refine H4.mono ?_; rintro e w5 ⟨rfl, hb5, H5⟩)
            | (go_at_call 23; refine H5.mono ?_; rintro e w6 ⟨v6, rfl, hb6, H6⟩))
          clear H1 H2 H3 H4 H5 hb1 hb2 hb3 hb4 hb5 c0 c1 c2 hb1W
          cases b2 <;> cases b3
          all_goals first
            | (exfalso; (rcases h23 with h | h <;> cases h); done)
            | skip
          all_goals
            go_wp2_with (first
              | (go_at_call 23; refine H6.mono ?_; rintro e w7 ⟨v7, rfl, hb7, H7⟩)
              | (go_at_call 24; refine H7.mono ?_; rintro e w8 ⟨rfl, hb8, H8⟩)
              | (go_at_call 25; refine H8.mono ?_; rintro e w9 ⟨rfl, hb9⟩))
            refine ⟨⟨k + 1, by omega, by go_num, ?_⟩, by simp [intOf]; omega⟩
            first | exact hbV.trans (hb9.mono hbV.size) | exact hbV.trans (hb8.mono hbV.size) | exact hbV.trans (hb7.mono hbV.size)
    · obtain rfl : k = 8 := by omega
      go_wp2_with (first
        | (go_at_call 15; refine (hal _).mono ?_; rintro e w5 ⟨rfl, hb5⟩))
      go_ret
      exact ⟨rfl, Xb.trans ((hbV.trans (hb5.mono hbV.size)).mono (by omega))⟩
end Go.Ch
