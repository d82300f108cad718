/-
  The reference's words of a block, held against the program's: plain.
-/
import Derived.Test.YtknecjjdegngfaaDoorSha
import Derived.OpenShut
import Derived.Laws.BitsAllLaws
namespace Go.Sha
open Go
theorem or_nat32 (a b : Nat) (ha : a < 4294967296) (hb : b < 4294967296) : bits .or .u32 (a : Int) (b : Int) = ((a ||| b : Nat) : Int) := by
  have hx : a ||| b < 2 ^ 32 := Nat.or_lt_two_pow (by omega) (by omega)
  have h1 : (BitVec.ofInt 32 (a : Int)).toNat = a := by
    rw [BitVec.ofInt_natCast, BitVec.toNat_ofNat]; exact Nat.mod_eq_of_lt (by omega)
  have h2 : (BitVec.ofInt 32 (b : Int)).toNat = b := by
    rw [BitVec.ofInt_natCast, BitVec.toNat_ofNat]; exact Nat.mod_eq_of_lt (by omega)
  show IntKind.u32.wrap ((BitVec.ofInt 32 (a : Int) ||| BitVec.ofInt 32 (b : Int)).toNat : Int) = _
  rw [BitVec.toNat_or, h1, h2]
  simp [IntKind.wrap, IntKind.bits, IntKind.signed]
  omega
theorem or_add (a b : Int) (k : Nat) (m : Int) (hk : k ≤ 32) (ha : a = m * 2 ^ k) (hm : 0 ≤ m) (ha2 : a < 4294967296) (hb : 0 ≤ b) (hb2 : b < 2 ^ k) : bits .or .u32 a b = a + b := by
  obtain ⟨m, rfl⟩ := Int.eq_ofNat_of_zero_le hm
  obtain ⟨b, rfl⟩ := Int.eq_ofNat_of_zero_le hb
  have hb3 : b < 2 ^ k := by exact_mod_cast hb2
  have e : (m : Int) * 2 ^ k = ((2 ^ k * m : Nat) : Int) := by
    rw [Int.mul_comm, Int.natCast_mul, Int.natCast_pow]
    rfl
  have h1 := Nat.two_pow_add_eq_or_of_lt hb3 m
  have hlt : b < 4294967296 := by
    have := Nat.pow_le_pow_right (n := 2) (by omega) hk
    have e2 : 2 ^ 32 = 4294967296 := by decide
    omega
  rw [ha, e] at ha2 ⊢
  rw [or_nat32 _ _ (by omega) hlt, ← h1, Int.natCast_add]
theorem or_256 (x b : Int) (hx : 0 ≤ x) (hx2 : x < 16777216) (hb : 0 ≤ b) (hb2 : b < 256) : bits .or .u32 (x * 256 % 4294967296) b = x * 256 + b := by
  rw [show x * 256 % 4294967296 = x * 256 by omega]
  exact or_add _ _ 8 x (by omega) rfl hx (by omega) hb (by simpa using hb2)
theorem hz_four (B : Nat → Int) (hB : ∀ i, 0 ≤ B i ∧ B i < 256) (t : Nat) : hz B t 4 = B (4 * t) * 16777216 + B (4 * t + 1) * 65536 + B (4 * t + 2) * 256 + B (4 * t + 3) := by
  have b0 := hB (4 * t)
  have b1 := hB (4 * t + 1)
  have b2 := hB (4 * t + 2)
  have b3 := hB (4 * t + 3)
  have h0 : hz B t 0 = 0 := rfl
  have h1 : hz B t 1 = B (4 * t) := by
    show bits .or .u32 (hz B t 0 * 256 % 4294967296) (B (4 * t + 0)) = _
    rw [h0, Nat.add_zero, or_256 0 _ (by omega) (by omega) b0.1 b0.2]
    simp
  have h2 : hz B t 2 = B (4 * t) * 256 + B (4 * t + 1) := by
    show bits .or .u32 (hz B t 1 * 256 % 4294967296) (B (4 * t + 1)) = _
    rw [h1, or_256 _ _ (by omega) (by omega) b1.1 b1.2]
  have h3 : hz B t 3 = (B (4 * t) * 256 + B (4 * t + 1)) * 256 + B (4 * t + 2) := by
    show bits .or .u32 (hz B t 2 * 256 % 4294967296) (B (4 * t + 2)) = _
    rw [h2, or_256 _ _ (by omega) (by omega) b2.1 b2.2]
  show bits .or .u32 (hz B t 3 * 256 % 4294967296) (B (4 * t + 3)) = _
  rw [h3, or_256 _ _ (by omega) (by omega) b3.1 b3.2]
  omega
/-- The reference's word. -/
theorem word_four (a b c d : Int) (ha : 0 ≤ a ∧ a < 256) (hb : 0 ≤ b ∧ b < 256) (hc : 0 ≤ c ∧ c < 256) (hd : 0 ≤ d ∧ d < 256) :
    bits .or .u32 (bits .or .u32 (bits .or .u32 (a * 16777216) (b * 65536)) (c * 256)) d = a * 16777216 + b * 65536 + c * 256 + d := by
  rw [or_add (a * 16777216) (b * 65536) 24 a (by omega) (by simp) ha.1 (by omega) (by omega) (by simp; omega)]
  rw [or_add _ (c * 256) 16 (a * 256 + b) (by omega) (by simp; omega) (by omega) (by omega) (by omega) (by simp; omega)]
  rw [or_add _ d 8 (a * 65536 + b * 256 + c) (by omega) (by simp; omega) (by omega) (by omega) (by omega) (by simp; omega)]
end Go.Sha
