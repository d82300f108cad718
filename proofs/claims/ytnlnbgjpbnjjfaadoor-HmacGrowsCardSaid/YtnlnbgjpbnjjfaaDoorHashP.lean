/-
  SHA-256 of rows, in plain Lean: states behind blocks, padding, digests. No program in sight.
-/
import Derived.Test.YtnlnbgjpbnjjfaaDoorSha
import Derived.Test.YtnlnbgjpbnjjfaaDoorMem
namespace Go.Sha
open Go Go.Aff
def blockAt (X : List Int) (k : Nat) (i : Nat) : Int := X.getD (64 * k + i) 0
/-- The state behind the first k blocks of X. -/
def stN (S : Nat → Int) (X : List Int) : Nat → Nat → Int
  | 0 => S
  | k + 1 => round (stN S X k) (blockAt X k)
theorem stN_congr (S : Nat → Int) (X Y : List Int) (k : Nat) (h : ∀ i, i < 64 * k → X[i]? = Y[i]?) : stN S X k = stN S Y k := by
  induction k with
  | zero => rfl
  | succ k ih =>
    have e : blockAt X k = blockAt Y k ∨ True := .inr trivial
    unfold stN
    rw [ih (fun i hi => h i (by omega))]
    refine round_congr _ _ _ (fun i hi => ?_)
    unfold blockAt
    rw [List.getD_eq_getElem?_getD, List.getD_eq_getElem?_getD, h _ (by omega)]
end Go.Sha
