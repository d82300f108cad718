/-
  The order of rows of bytes, in plain Lean: antisymmetric, zero just for the same rows, transitive.
-/
import Derived.Test.YtgblndddcbfdiaaDoorCompW
import Derived.Test.YtgblndddcbfdiaaDoorMemK
namespace Go.Sha
open Go Go.Aff
theorem compareBytes_anti : ∀ (a b : List UInt8), Lib.compareBytes b a = - Lib.compareBytes a b
  | [], [] => rfl
  | [], _ :: _ => rfl
  | _ :: _, [] => rfl
  | x :: a, y :: b => by
    have ih := compareBytes_anti a b
    unfold Lib.compareBytes
    by_cases h1 : x < y
    · have h2 : ¬ y < x := fun h => absurd (UInt8.lt_trans h1 h) (UInt8.lt_irrefl x)
      simp [h1, h2]
    · by_cases h2 : y < x
      · simp [h1, h2]
      · simp [h1, h2, ih]
theorem compareBytes_range : ∀ (a b : List UInt8), Lib.compareBytes a b = -1 ∨ Lib.compareBytes a b = 0 ∨ Lib.compareBytes a b = 1
  | [], [] => .inr (.inl rfl)
  | [], _ :: _ => .inl rfl
  | _ :: _, [] => .inr (.inr rfl)
  | x :: a, y :: b => by
    have ih := compareBytes_range a b
    unfold Lib.compareBytes
    by_cases h1 : x < y
    · simp [h1]
    · by_cases h2 : y < x
      · simp [h1, h2]
      · simpa [h1, h2] using ih
theorem compareBytes_zero : ∀ (a b : List UInt8), Lib.compareBytes a b = 0 ↔ a = b
  | [], [] => by simp [Lib.compareBytes]
  | [], _ :: _ => by simp [Lib.compareBytes]
  | _ :: _, [] => by simp [Lib.compareBytes]
  | x :: a, y :: b => by
    have ih := compareBytes_zero a b
    unfold Lib.compareBytes
    by_cases h1 : x < y
    · have : x ≠ y := fun e => absurd (e ▸ h1) (UInt8.lt_irrefl _)
      simp [h1, this]
    · by_cases h2 : y < x
      · have : x ≠ y := fun e => absurd (e ▸ h2) (UInt8.lt_irrefl _)
        simp [h1, h2, this]
      · have : x = y := UInt8.le_antisymm (UInt8.not_lt.1 h2) (UInt8.not_lt.1 h1)
        simp [this, ih, UInt8.lt_irrefl]
theorem compareBytes_trans : ∀ (a b c : List UInt8), Lib.compareBytes a b ≤ 0 → Lib.compareBytes b c ≤ 0 → Lib.compareBytes a c ≤ 0
  | [], _, [], _, _ => by simp [Lib.compareBytes]
  | [], _, _ :: _, _, _ => by simp [Lib.compareBytes]
  | _ :: _, [], _, h, _ => by simp [Lib.compareBytes] at h
  | _ :: _, _ :: _, [], _, h => by simp [Lib.compareBytes] at h
  | x :: a, y :: b, z :: c, h1, h2 => by
    have ih := compareBytes_trans a b c
    unfold Lib.compareBytes at h1 h2 ⊢
    simp only [UInt8.lt_iff_toNat_lt] at h1 h2 ⊢
    by_cases a1 : x.toNat < y.toNat <;> by_cases a2 : y.toNat < x.toNat <;> by_cases a3 : y.toNat < z.toNat <;> by_cases a4 : z.toNat < y.toNat <;> by_cases a5 : x.toNat < z.toNat <;> by_cases a6 : z.toNat < x.toNat <;> first | (exfalso; omega) | (simp only [a1, a2, a3, a4, a5, a6, if_true, if_false] at h1 h2 ⊢; first | omega | exact ih h1 h2)
theorem cmpI_anti (xs ys : List Int) : cmpI ys xs = - cmpI xs ys := compareBytes_anti _ _
theorem cmpI_range (xs ys : List Int) : -1 ≤ cmpI xs ys ∧ cmpI xs ys ≤ 1 := by
  have := compareBytes_range (Lib.bytesOf xs) (Lib.bytesOf ys)
  unfold cmpI; omega
theorem cmpI_self (xs : List Int) : cmpI xs xs = 0 := (compareBytes_zero _ _).2 rfl
theorem cmpI_zero {xs ys : List Int} (hx : IsBytes xs) (hy : IsBytes ys) : cmpI xs ys = 0 ↔ xs = ys :=
  ⟨fun h => bytesOf_inj hx hy ((compareBytes_zero _ _).1 h), fun h => h ▸ cmpI_self xs⟩
theorem cmpI_trans (xs ys zs : List Int) (h1 : cmpI xs ys ≤ 0) (h2 : cmpI ys zs ≤ 0) : cmpI xs zs ≤ 0 := compareBytes_trans _ _ _ h1 h2
end Go.Sha
