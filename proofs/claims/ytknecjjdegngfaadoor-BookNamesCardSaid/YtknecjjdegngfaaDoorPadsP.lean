/-
  What stands behind a row, read as a number: plain.
-/
import Derived.Test.YtknecjjdegngfaaDoorPadW
import Derived.Laws.Bits64b
namespace Go.Sha
open Go
/-- The number told by the bytes 1 to k of what stands behind n bytes. -/
def told (n k : Nat) : Int := 8 * (n : Int) / 2 ^ (8 * (padLen n - 1 - k))
theorem tailB_get (n : Nat) : ∀ (K i : Nat), i < K → (tailB n K).getD i 0 = 8 * (n : Int) / 2 ^ (8 * (K - 1 - i)) % 256
  | 0, i, h => absurd h (by omega)
  | K + 1, 0, _ => by simp [tailB]
  | K + 1, i + 1, h => by
    have := tailB_get n K i (by omega)
    rw [show K + 1 - 1 - (i + 1) = K - 1 - i by omega, ← this]
    simp [tailB]
theorem big_div (n e : Nat) (hn : n < 2305843009213693952) (he : 64 ≤ e) : 8 * (n : Int) / 2 ^ e = 0 := by
  refine Int.ediv_eq_zero_of_lt (by omega) ?_
  have h2 : (2 : Int) ^ 64 ≤ 2 ^ e := by
    have := Nat.pow_le_pow_right (n := 2) (by omega) he
    exact_mod_cast this
  have h3 : (2 : Int) ^ 64 = 18446744073709551616 := by decide
  omega
theorem padF_head (n : Nat) : (padF n).getD 0 0 = 128 := rfl
theorem padF_zero (n k : Nat) (h : k + 9 < padLen n) : (padF n).getD (k + 1) 0 = 0 := by
  have := padLen_ge n
  unfold padF padK
  simp only [List.getD_eq_getElem?_getD, List.getElem?_cons_succ]
  rw [List.getElem?_append_left (by simp; omega), List.getElem?_replicate, if_pos (by omega)]
  rfl
theorem padF_byte (n k : Nat) (hn : n < 2305843009213693952) (h : k + 1 < padLen n) : (padF n).getD (k + 1) 0 = 8 * (n : Int) / 2 ^ (8 * (padLen n - 1 - (k + 1))) % 256 := by
  have hp := padLen_ge n
  by_cases hz : k + 9 < padLen n
  · rw [padF_zero n k hz, big_div n _ hn (by omega)]
    rfl
  · unfold padF padK
    simp only [List.getD_eq_getElem?_getD, List.getElem?_cons_succ]
    rw [List.getElem?_append_right (by simp; omega), List.length_replicate]
    have := tailB_get n 8 (k - (padLen n - 1 - 8)) (by omega)
    rw [List.getD_eq_getElem?_getD] at this
    rw [this]
    congr 4
    omega
theorem told_zero (n : Nat) (hn : n < 2305843009213693952) : told n 0 = 0 := by
  have := padLen_ge n
  exact big_div n _ hn (by omega)
theorem told_all (n : Nat) : told n (padLen n - 1) = 8 * (n : Int) := by
  unfold told
  rw [Nat.sub_self]
  simp
theorem told_range (n k : Nat) : 0 ≤ told n k ∧ told n k ≤ 8 * (n : Int) := by
  unfold told
  have h : 0 ≤ 8 * (n : Int) := by omega
  exact ⟨Int.ediv_nonneg h (Int.le_of_lt (Int.pow_pos (by decide))), Int.ediv_le_self _ h⟩
theorem or_byte (Y : Nat) (h : Y < 18446744073709551616) : bits .or .u64 (((Y / 256 * 256 : Nat)) : Int) ((Y % 256 : Nat) : Int) = (Y : Int) := by
  rw [bits_or_u64_nat _ _ (by omega) (by omega)]
  have := Nat.two_pow_add_eq_or_of_lt (i := 8) (b := Y % 256) (by omega) (Y / 256)
  have e : Y / 256 * 256 = 2 ^ 8 * (Y / 256) := by omega
  rw [e, ← this]
  congr 1
  omega
theorem told_step (n k : Nat) (hn : n < 2305843009213693952) (h : k + 1 < padLen n) : bits .or .u64 (IntKind.u64.wrap (told n k * 256)) ((padF n).getD (k + 1) 0) = told n (k + 1) := by
  rw [padF_byte n k hn h]
  obtain ⟨e, he⟩ : ∃ e, e = padLen n - 1 - (k + 1) := ⟨_, rfl⟩
  have e1 : padLen n - 1 - k = e + 1 := by omega
  unfold told
  rw [e1, ← he]
  have hY : 8 * (n : Int) / 2 ^ (8 * e) = ((8 * n / 2 ^ (8 * e) : Nat) : Int) := by
    rw [Int.natCast_ediv]; simp
  have hZ : 8 * (n : Int) / 2 ^ (8 * (e + 1)) = ((8 * n / 2 ^ (8 * e) / 256 : Nat) : Int) := by
    rw [show 8 * (e + 1) = 8 * e + 8 by omega, Int.pow_add, ← Int.ediv_ediv_of_nonneg (Int.le_of_lt (Int.pow_pos (by decide))), hY]
    rfl
  have hlt : 8 * n / 2 ^ (8 * e) < 18446744073709551616 := Nat.lt_of_le_of_lt (Nat.div_le_self _ _) (by omega)
  rw [hZ, hY]
  generalize 8 * n / 2 ^ (8 * e) = Y at hlt ⊢
  have := or_byte Y hlt
  rw [show ((Y / 256 * 256 : Nat) : Int) = ((Y / 256 : Nat) : Int) * 256 by omega, show ((Y % 256 : Nat) : Int) = (Y : Int) % 256 by omega] at this
  rw [IntKind.wrap_u64, show ((Y / 256 : Nat) : Int) * 256 % 18446744073709551616 = ((Y / 256 : Nat) : Int) * 256 by omega]
  exact this
end Go.Sha
