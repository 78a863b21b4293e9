/- NetChances: chances that are sure, and none. -/
import Derived.Test.YtecihapafnpgbaaGreatDrA
set_option linter.unusedSimpArgs false
set_option linter.unusedVariables false
set_option linter.constructorNameAsVariable false
set_option linter.unusedSectionVars false
namespace Go.Ch
open Go Go.Dr
def one : Nat := 4607182418800017408
def belowF : Nat := 4607182418800017407
abbrev dat (x : Nat) : Ieee.Datum := FloatKind.f64.format.read x
theorem dat_one : dat one = .number false 4503599627370496 (-52) := by decide +kernel
theorem dat_below : dat belowF = .number false 9007199254740991 (-53) := by decide +kernel
theorem dat_zero : dat 0 = .number false 0 (-1074) := by decide +kernel
theorem ord_eq (x y : Nat) : FloatKind.f64.format.order x y = (dat x).order (dat y) := rfl
theorem read_form (x : Nat) : (∃ m i, dat x = .number (x / 9223372036854775808 % 2 == 1) m i ∧ (m = 0 → x % 9223372036854775808 = 0)) ∨ dat x = .infinity (x / 9223372036854775808 % 2 == 1) ∨ ∃ s t, dat x = .nan s t := by
  have hs : FloatKind.f64.format.signWeight = 9223372036854775808 := by decide +kernel
  have hb : FloatKind.f64.format.binade = 4503599627370496 := by decide +kernel
  unfold dat Ieee.Format.read
  simp only [hs]
  split
  · exact .inl ⟨_, _, rfl, fun h => h⟩
  · split
    · exact .inl ⟨_, _, rfl, fun h => by rw [hb] at h; omega⟩
    · split
      · exact .inr (.inl rfl)
      · exact .inr (.inr ⟨_, _, rfl⟩)
theorem cmp_lt (a b : Int) : compare a b = .lt ↔ a < b := by
  show compareOfLessAndEq a b = .lt ↔ a < b
  unfold compareOfLessAndEq
  split
  · simp [*]
  · split <;> simp <;> omega
theorem cmp_eq (a b : Int) : compare a b = .eq ↔ a = b := by
  show compareOfLessAndEq a b = .eq ↔ a = b
  unfold compareOfLessAndEq
  split
  · simp; omega
  · split <;> simp [*]
theorem sg_true (m k : Nat) : Ieee.signed true m k ≤ 0 := by
  show -((m <<< k : Nat) : Int) ≤ 0
  generalize m <<< k = z
  omega
theorem sg_false (m k : Nat) : Ieee.signed false m k = ((m * 2 ^ k : Nat) : Int) := by unfold Ieee.signed; simp [Nat.shiftLeft_eq]
theorem ord_below (D : Ieee.Datum) (h : D.order (dat belowF) = some .lt) : D.order (dat one) = some .lt := by
  rw [dat_below] at h
  rw [dat_one]
  cases D with
  | nan s t => cases h
  | infinity s => cases s <;> first | rfl | cases h
  | number s m i =>
    simp only [Ieee.Datum.order, Option.some.injEq] at h ⊢
    rw [cmp_lt] at h ⊢
    cases s with
    | true =>
      have h1 := sg_true m (i - min i (-52)).toNat
      rw [sg_false]
      have h2 : 0 < 4503599627370496 * 2 ^ (-52 - min i (-52)).toNat := Nat.mul_pos (by omega) (Nat.two_pow_pos _)
      omega
    | false =>
      rw [sg_false, sg_false] at h ⊢
      rcases (show i < -52 ∨ -52 ≤ i by omega) with hi | hi
      · have e1 : min i (-53) = i := by omega
        have e2 : min i (-52) = i := by omega
        rw [e1] at h
        rw [e2]
        obtain ⟨k, hk⟩ : ∃ k : Nat, (-53 - i).toNat = k := ⟨_, rfl⟩
        have hk2 : (-52 - i).toNat = k + 1 := by omega
        have hz : (i - i).toNat = 0 := by omega
        rw [hk, hz] at h
        rw [hk2, hz, Nat.pow_succ]
        have := Nat.two_pow_pos k
        omega
      · have e1 : min i (-53) = -53 := by omega
        have e2 : min i (-52) = -52 := by omega
        rw [e1] at h
        rw [e2]
        obtain ⟨k, hk⟩ : ∃ k : Nat, (i - -52).toNat = k := ⟨_, rfl⟩
        have hk2 : (i - -53).toNat = k + 1 := by omega
        have hz : (-53 - -53 : Int).toNat = 0 := by omega
        have hz2 : (-52 - -52 : Int).toNat = 0 := by omega
        rw [hk2, hz, Nat.pow_succ, show m * (2 ^ k * 2) = m * 2 ^ k * 2 from (Nat.mul_assoc _ _ _).symm] at h
        rw [hk, hz2]
        generalize m * 2 ^ k = z at h ⊢
        omega
theorem nn_zero (x : Nat) (hx : x < 9223372036854775808) : (dat x).order (dat 0) ≠ some .lt := by
  intro h
  have hn : (x / 9223372036854775808 % 2 == 1) = false := by rw [Nat.div_eq_of_lt hx]; rfl
  rw [dat_zero] at h
  rcases read_form x with ⟨m, i, hd, _⟩ | hd | ⟨s, t, hd⟩
  · rw [hd, hn] at h
    simp only [Ieee.Datum.order, Option.some.injEq] at h
    rw [cmp_lt, sg_false, sg_false] at h
    omega
  · rw [hd, hn] at h; cases h
  · rw [hd] at h; cases h
theorem nn_eq (x : Nat) (hx : x < 9223372036854775808) (h : (dat x).order (dat 0) = some .eq) : x = 0 := by
  have hn : (x / 9223372036854775808 % 2 == 1) = false := by rw [Nat.div_eq_of_lt hx]; rfl
  rw [dat_zero] at h
  rcases read_form x with ⟨m, i, hd, hm⟩ | hd | ⟨s, t, hd⟩
  · rw [hd, hn] at h
    simp only [Ieee.Datum.order, Option.some.injEq] at h
    rw [cmp_eq, sg_false, sg_false] at h
    have h0 : m * 2 ^ (i - min i (-1074)).toNat = 0 := by omega
    rcases Nat.mul_eq_zero.1 h0 with h1 | h1
    · have := hm h1; omega
    · have := Nat.two_pow_pos (i - min i (-1074)).toNat; omega
  · rw [hd, hn] at h; cases h
  · rw [hd] at h; cases h
theorem neg_one (x : Nat) (hx : 9223372036854775808 ≤ x) (hx2 : x < 18446744073709551616) (o : Ordering) (h : (dat x).order (dat one) = some o) : o = .lt := by
  have hn : (x / 9223372036854775808 % 2 == 1) = true := by
    have : x / 9223372036854775808 = 1 := by omega
    rw [this]; rfl
  rw [dat_one] at h
  rcases read_form x with ⟨m, i, hd, _⟩ | hd | ⟨s, t, hd⟩
  · rw [hd, hn] at h
    simp only [Ieee.Datum.order, Option.some.injEq] at h
    rw [← h, cmp_lt, sg_false]
    have h1 := sg_true m (i - min i (-52)).toNat
    have h2 : 0 < 4503599627370496 * 2 ^ (-52 - min i (-52)).toNat := Nat.mul_pos (by omega) (Nat.two_pow_pos _)
    omega
  · rw [hd, hn] at h; injection h with h; exact h.symm
  · rw [hd] at h; cases h
theorem nan_iff (x : Nat) : nanB x = (dat x).isNaN := by
  unfold nanB
  rw [ord_eq]
  cases dat x with
  | nan s t => rfl
  | infinity s => cases s <;> rfl
  | number s m i =>
    simp only [Ieee.Datum.order]
    rw [show (compare (Ieee.signed s m (i - min i i).toNat) (Ieee.signed s m (i - min i i).toNat)) = .eq from (cmp_eq _ _).2 rfl]
    rfl
/-- A number that is not below 0: what it is. -/
theorem pos_form (x : Nat) : posF x < 9223372036854775808 ∧ ((∃ m i, dat (posF x) = .number false m i) ∨ dat (posF x) = .infinity false) := by
  unfold posF
  rw [nan_iff]
  by_cases h : ((dat x).isNaN || decide (9223372036854775808 ≤ x)) = true
  · rw [if_pos h]; exact ⟨by omega, .inl ⟨_, _, dat_zero⟩⟩
  · rw [if_neg h]
    simp only [Bool.or_eq_true, decide_eq_true_eq, not_or] at h
    have hx : x < 9223372036854775808 := by omega
    have hn : (x / 9223372036854775808 % 2 == 1) = false := by rw [Nat.div_eq_of_lt hx]; rfl
    refine ⟨hx, ?_⟩
    rcases read_form x with ⟨m, i, hd, _⟩ | hd | ⟨s, t, hd⟩
    · rw [hn] at hd; exact .inl ⟨m, i, hd⟩
    · rw [hn] at hd; exact .inr hd
    · rw [hd] at h; exact absurd rfl h.1
theorem min_pos (x y n : Nat) (j : Int) (hy : dat y = .number false n j) (hn : n ≠ 0) (hx : (∃ m i, dat x = .number false m i) ∨ dat x = .infinity false) : minF x y = if (dat x).order (dat y) == some .lt then x else y := by
  unfold minF
  have e1 : FloatKind.f64.decode x = dat x := rfl
  have e2 : FloatKind.f64.decode y = dat y := rfl
  simp only [e1, e2, hy]
  cases n with
  | zero => exact absurd rfl hn
  | succ n =>
  rcases hx with ⟨m, i, hx⟩ | hx
  · rw [hx]
    cases m <;> simp [Ieee.Datum.isNaN, Ieee.Datum.isZero, BEq.beq]
  · rw [hx]
    simp [Ieee.Datum.isNaN, Ieee.Datum.isZero]
theorem draw_form (d : Nat) : drawF d = if (dat (posF d)).order (dat belowF) == some .lt then posF d else belowF := min_pos _ _ _ _ dat_below (by omega) (pos_form d).2
theorem chance_form (d : Nat) : chanceF d = if (dat (posF d)).order (dat one) == some .lt then posF d else one := min_pos _ _ _ _ dat_one (by omega) (pos_form d).2
theorem hit_one (p d : Nat) (hp : chanceF p = one) : hitF p d = true := by
  unfold hitF
  rw [hp, ord_eq, draw_form]
  split
  · rename_i h
    rw [ord_below _ (by simpa using h)]; rfl
  · decide +kernel
theorem hit_zero (p d : Nat) (hp : chanceF p = 0) : hitF p d = false := by
  unfold hitF
  rw [hp, ord_eq, draw_form]
  split
  · have := nn_zero _ (pos_form d).1
    simpa using this
  · decide +kernel
theorem pos_zero {x : Nat} (h : posF x = 0) : chanceF x = 0 := by
  rw [chance_form, h]; decide +kernel
/-- What is at least 1 is sure. -/
theorem sure (p : Nat) (hp : p < 18446744073709551616) (o : Ordering) (h : FloatKind.f64.format.order p one = some o) (ho : o ≠ .lt) : chanceF p = one := by
  rw [ord_eq] at h
  have h1 : p < 9223372036854775808 := by
    rcases Nat.lt_or_ge p 9223372036854775808 with h' | h'
    · exact h'
    · exact absurd (neg_one p h' hp o h) ho
  have h2 : (dat p).isNaN = false := by
    cases hd : dat p with
    | nan s t => rw [hd] at h; cases h
    | _ => rfl
  have h3 : posF p = p := by
    unfold posF
    rw [nan_iff, h2, if_neg (by simp; omega)]
  rw [chance_form, h3, h, if_neg (by simpa using ho)]
/-- What is no number, or not above 0, is none. -/
theorem none_ (p : Nat) (hp : p < 18446744073709551616) (h1 : FloatKind.f64.format.order p one = none ∨ FloatKind.f64.format.order p one = some .lt ∧ FloatKind.f64.format.order p 0 ≠ some .gt) : chanceF p = 0 := by
  apply pos_zero
  unfold posF
  rw [nan_iff]
  rcases h1 with h1 | ⟨h1, h2⟩
  · rw [ord_eq, dat_one] at h1
    have : (dat p).isNaN = true := by
      cases hd : dat p with
      | nan s t => rfl
      | infinity s => rw [hd] at h1; cases h1
      | number s m i => rw [hd] at h1; cases h1
    rw [this]; rfl
  · rcases Nat.lt_or_ge p 9223372036854775808 with h' | h'
    · rw [ord_eq] at h1 h2
      have h3 : (dat p).order (dat 0) = some .eq := by
        have h4 := nn_zero p h'
        cases ho : (dat p).order (dat 0) with
        | none =>
          rw [dat_zero] at ho
          rw [dat_one] at h1
          cases hd : dat p with
          | nan s t => rw [hd] at h1; cases h1
          | infinity s => rw [hd] at ho; cases ho
          | number s m i => rw [hd] at ho; cases ho
        | some o =>
          cases o with
          | lt => exact absurd ho h4
          | gt => exact absurd ho h2
          | eq => rfl
      have := nn_eq p h' h3
      subst this
      split <;> rfl
    · rw [if_pos (by simp; omega)]
end Go.Ch
