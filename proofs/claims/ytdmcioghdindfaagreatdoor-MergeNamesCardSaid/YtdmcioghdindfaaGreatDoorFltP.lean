/-
  PLAIN: floats by their bits: which are finite, which are nought, when two are one.
-/
import Derived.Test.YtdmcioghdindfaaGreatDoorJsonP
import GoSem.Core.Float
set_option linter.unusedSimpArgs false
namespace Go.Flt
open Ieee Go.Json
/-- The sign, the magnitude, the place of a finite float. -/
def sgn (b : Nat) : Bool := b / 9223372036854775808 % 2 == 1
def rng (b : Nat) : Nat := b % 9223372036854775808
def magF (b : Nat) : Nat := if rng b < 4503599627370496 then rng b else 4503599627370496 + rng b % 4503599627370496
def plcF (b : Nat) : Nat := rng b / 4503599627370496 - 1
theorem sw : Format.signWeight double = 9223372036854775808 := rfl
theorem bw : Format.binade double = 4503599627370496 := rfl
theorem iw : Format.infRung double = 9218868437227405312 := rfl
theorem lw : Format.leastPlace double = -1074 := rfl
theorem rng_fin (b : Nat) : finiteF b = decide (rng b < 9218868437227405312) := by
  unfold finiteF rng
  rw [Bool.eq_iff_iff]
  simp only [Bool.not_eq_true', decide_eq_false_iff_not, decide_eq_true_eq]
  omega
theorem read_eq (b : Nat) : double.read b = if rng b < 4503599627370496 then .number (sgn b) (rng b) (-1074) else if rng b < 9218868437227405312 then .number (sgn b) (4503599627370496 + rng b % 4503599627370496) (-1074 + ((rng b / 4503599627370496 - 1 : Nat) : Int))
    else if rng b = 9218868437227405312 then .infinity (sgn b) else .nan (sgn b) (rng b - 9218868437227405312) := rfl
theorem read_fin {b : Nat} (h : finiteF b = true) : double.read b = .number (sgn b) (magF b) (-1074 + (plcF b : Int)) := by
  rw [rng_fin, decide_eq_true_eq] at h
  rw [read_eq]
  unfold magF plcF
  split
  · rename_i h1
    congr 1
    omega
  · rfl
theorem read_not {b : Nat} (h : finiteF b = false) : double.read b = .infinity (sgn b) ∨ ∃ n, double.read b = .nan (sgn b) n := by
  rw [rng_fin, decide_eq_false_iff_not] at h
  rw [read_eq, if_neg (by omega), if_neg (by omega)]
  split
  · exact .inl rfl
  · exact .inr ⟨_, rfl⟩
theorem order_self {b : Nat} (h : finiteF b = true) : double.order b b = some .eq := by
  unfold Format.order Datum.order
  rw [read_fin h]
  simp
theorem abs_fin (b : Nat) : finiteF (rng b) = finiteF b := by
  rw [rng_fin, rng_fin]
  unfold rng
  congr 2
  omega
theorem mag_lt (b : Nat) : magF b < 9007199254740992 := by
  unfold magF
  split <;> omega
theorem max_read : double.read 9218868437227405311 = .number false 9007199254740991 971 := by decide +kernel
theorem order_max {b : Nat} (h : finiteF b = true) : double.order (rng b) 9218868437227405311 ≠ some .gt := by
  have hp : plcF (rng b) ≤ 2045 := by
    have h2 := abs_fin b
    rw [h, rng_fin, decide_eq_true_eq] at h2
    unfold plcF
    omega
  have hm := mag_lt (rng b)
  unfold Format.order Datum.order
  rw [read_fin ((abs_fin b).trans h), max_read]
  have hs : sgn (rng b) = false := by
    unfold sgn rng
    rw [Nat.div_eq_of_lt (Nat.mod_lt _ (by decide))]
    rfl
  rw [hs]
  have hmin : min (-1074 + (plcF (rng b) : Int)) 971 = -1074 + (plcF (rng b) : Int) := by omega
  simp only [hmin, Int.sub_self, Int.toNat_zero]
  intro e
  injection e with e
  have e := Int.compare_eq_gt.1 e
  unfold signed at e
  simp only [Bool.false_eq_true, if_false, Nat.shiftLeft_eq, Nat.pow_zero, Nat.mul_one] at e
  have h1 := Nat.one_le_two_pow (n := (971 - (-1074 + (plcF (rng b) : Int))).toNat)
  have h2 : 9007199254740991 * 1 ≤ 9007199254740991 * 2 ^ (971 - (-1074 + (plcF (rng b) : Int))).toNat := Nat.mul_le_mul_left _ h1
  omega
theorem rng_mag (b : Nat) : rng b = magF b + plcF b * 4503599627370496 := by
  unfold magF plcF
  split <;> omega
theorem mag_ge {b : Nat} (h : 1 ≤ plcF b) : 4503599627370496 ≤ magF b := by
  unfold plcF at h
  unfold magF
  split <;> omega
/-- The whole number that stands for a finite float, in units of a common place. -/
def vF (b k : Nat) : Int := signed (sgn b) (magF b) (plcF b - k)
theorem order_fin {a b : Nat} (ha : finiteF a = true) (hb : finiteF b = true) : double.order a b = some (compare (vF a (min (plcF a) (plcF b))) (vF b (min (plcF a) (plcF b)))) := by
  unfold Format.order Datum.order vF
  rw [read_fin ha, read_fin hb]
  have h1 : (-1074 + (plcF a : Int) - min (-1074 + (plcF a : Int)) (-1074 + (plcF b : Int))).toNat = plcF a - min (plcF a) (plcF b) := by omega
  have h2 : (-1074 + (plcF b : Int) - min (-1074 + (plcF a : Int)) (-1074 + (plcF b : Int))).toNat = plcF b - min (plcF a) (plcF b) := by omega
  simp only [h1, h2]
theorem signed_zero (s : Bool) (m k : Nat) : signed s m k = 0 ↔ m = 0 := by
  unfold signed
  rw [Nat.shiftLeft_eq]
  have h1 := Nat.one_le_two_pow (n := k)
  have h2 : m * 2 ^ k = 0 ↔ m = 0 := by
    constructor
    · intro h
      rcases Nat.mul_eq_zero.1 h with h | h
      · exact h
      · omega
    · intro h; rw [h, Nat.zero_mul]
  split <;> omega
theorem signed_inj {s t : Bool} {m n k l : Nat} (h : signed s m k = signed t n l) : m * 2 ^ k = n * 2 ^ l ∧ (m ≠ 0 → s = t) := by
  unfold signed at h
  rw [Nat.shiftLeft_eq, Nat.shiftLeft_eq] at h
  have h1 := Nat.one_le_two_pow (n := k)
  have h2 : m ≠ 0 → 0 < m * 2 ^ k := fun h => Nat.mul_pos (by omega) (by omega)
  generalize m * 2 ^ k = X at *
  generalize n * 2 ^ l = Y at *
  cases s <;> cases t <;> simp at h
  · exact ⟨by omega, fun _ => rfl⟩
  · refine ⟨by omega, fun h3 => ?_⟩
    have := h2 h3
    omega
  · refine ⟨by omega, fun h3 => ?_⟩
    have := h2 h3
    omega
  · exact ⟨by omega, fun _ => rfl⟩
theorem mag_shift {a b : Nat} (h : magF a * 2 ^ (plcF a - min (plcF a) (plcF b)) = magF b * 2 ^ (plcF b - min (plcF a) (plcF b))) : rng a = rng b := by
  have hlt := mag_lt a
  have hlt2 := mag_lt b
  have key : ∀ {x y k : Nat}, x < 9007199254740992 → 4503599627370496 ≤ y → 1 ≤ k → x = y * 2 ^ k → False := by
    intro x y k h1 h2 h3 h4
    have h5 : 2 ^ 1 ≤ 2 ^ k := Nat.pow_le_pow_right (by decide) h3
    have h6 : y * 2 ^ 1 ≤ y * 2 ^ k := Nat.mul_le_mul_left _ h5
    omega
  rcases Nat.lt_trichotomy (plcF a) (plcF b) with hp | hp | hp
  · have hm : min (plcF a) (plcF b) = plcF a := by omega
    rw [hm, Nat.sub_self, Nat.pow_zero, Nat.mul_one] at h
    exact (key hlt (mag_ge (by omega)) (by omega) h).elim
  · rw [hp, Nat.min_self, Nat.sub_self, Nat.pow_zero, Nat.mul_one, Nat.mul_one] at h
    rw [rng_mag a, rng_mag b, h, hp]
  · have hm : min (plcF a) (plcF b) = plcF b := by omega
    rw [hm, Nat.sub_self, Nat.pow_zero, Nat.mul_one] at h
    exact (key hlt2 (mag_ge (by omega)) (by omega) h.symm).elim
theorem mag_zero {b : Nat} : magF b = 0 ↔ rng b = 0 := by
  have h := rng_mag b
  constructor
  · intro h2
    rcases Nat.eq_zero_or_pos (plcF b) with h3 | h3
    · rw [h, h2, h3]
    · have := mag_ge h3; omega
  · intro h2; omega
theorem sgn_rng {a b : Nat} (ha : a < 18446744073709551616) (hb : b < 18446744073709551616) (hs : sgn a = sgn b) (hr : rng a = rng b) : a = b := by
  unfold sgn at hs
  unfold rng at hr
  have h1 : a / 9223372036854775808 = 0 ∨ a / 9223372036854775808 = 1 := by omega
  have h2 : b / 9223372036854775808 = 0 ∨ b / 9223372036854775808 = 1 := by omega
  rcases h1 with h1 | h1 <;> rcases h2 with h2 | h2 <;> rw [h1, h2] at hs <;> simp at hs <;> omega
/-- Finite floats, none minus nought, are one alone with the same bits. -/
theorem order_eq {a b : Nat} (ha : finiteF a = true) (hb : finiteF b = true) (ha2 : a < 18446744073709551616) (hb2 : b < 18446744073709551616) (hna : a ≠ 9223372036854775808) (hnb : b ≠ 9223372036854775808) :
    (double.order a b == some .eq) = decide (a = b) := by
  rw [Bool.eq_iff_iff, decide_eq_true_iff, beq_iff_eq]
  constructor
  · intro h
    rw [order_fin ha hb] at h
    injection h with h
    have h := Int.compare_eq_eq.1 h
    obtain ⟨h1, h2⟩ := signed_inj h
    have hr := mag_shift h1
    by_cases hz : magF a = 0
    · have z1 := mag_zero.1 hz
      have z2 := hr ▸ z1
      unfold rng at z1 z2
      omega
    · exact sgn_rng ha2 hb2 (h2 hz) hr
  · rintro rfl
    exact order_self ha
theorem order_zero {b : Nat} (h : finiteF b = true) (hb : b < 18446744073709551616) : (double.order b 0 == some .eq) = decide (b = 0 ∨ b = 9223372036854775808) := by
  rw [Bool.eq_iff_iff, decide_eq_true_iff, beq_iff_eq, order_fin h (by decide)]
  have h0 : vF 0 (min (plcF b) (plcF 0)) = 0 := (signed_zero _ _ _).2 (by decide)
  rw [h0]
  constructor
  · intro e
    injection e with e
    have e := mag_zero.1 ((signed_zero _ _ _).1 (Int.compare_eq_eq.1 e))
    unfold rng at e
    omega
  · intro e
    have : vF b (min (plcF b) (plcF 0)) = 0 := (signed_zero _ _ _).2 (mag_zero.2 (by unfold rng; omega))
    rw [this]
    rfl
/-- What is not finite is no number or beyond all. -/
theorem order_not {b : Nat} (h : finiteF b = false) : double.order b b ≠ some .eq ∨ double.order (rng b) 9218868437227405311 = some .gt := by
  rw [rng_fin, decide_eq_false_iff_not] at h
  rcases Nat.eq_or_lt_of_le (Nat.le_of_not_lt h) with h1 | h1
  · right
    rw [← h1]
    decide +kernel
  · left
    unfold Format.order
    rw [read_eq, if_neg (by omega), if_neg (by omega), if_neg (by omega)]
    unfold Datum.order
    simp
end Go.Flt
