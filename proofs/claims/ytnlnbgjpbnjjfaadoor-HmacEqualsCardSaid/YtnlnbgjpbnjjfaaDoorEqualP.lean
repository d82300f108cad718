/-
  Rows held against one another by xor and or, in plain Lean.
-/
import Derived.Test.YtnlnbgjpbnjjfaaDoorMem
import Derived.Laws.BitsAllLaws
import Derived.IntWalk
namespace Go.Mac
open Go Go.Aff
theorem i64_or_nat (a b : Nat) (ha : a < 9223372036854775808) (hb : b < 9223372036854775808) : bits .or .i64 (a : Int) (b : Int) = ((a ||| b : Nat) : Int) := by
  have hx : a ||| b < 2 ^ 63 := Nat.or_lt_two_pow (by omega) (by omega)
  show IntKind.i64.wrap ((BitVec.ofInt 64 (a : Int) ||| BitVec.ofInt 64 (b : Int)).toNat : Int) = _
  rw [BitVec.toNat_or, ofInt_u64 a (by omega), ofInt_u64 b (by omega)]
  exact IntWalk.i64_in _ (by omega)
theorem i64_xor_nat (a b : Nat) (ha : a < 9223372036854775808) (hb : b < 9223372036854775808) : bits .xor .i64 (a : Int) (b : Int) = ((a ^^^ b : Nat) : Int) := by
  have hx : a ^^^ b < 2 ^ 63 := Nat.xor_lt_two_pow (by omega) (by omega)
  show IntKind.i64.wrap ((BitVec.ofInt 64 (a : Int) ^^^ BitVec.ofInt 64 (b : Int)).toNat : Int) = _
  rw [BitVec.toNat_xor, ofInt_u64 a (by omega), ofInt_u64 b (by omega)]
  exact IntWalk.i64_in _ (by omega)
theorem nat_xor_zero {a b : Nat} : a ^^^ b = 0 ↔ a = b := by
  constructor
  · intro h
    have h2 : (a ^^^ b) ^^^ b = 0 ^^^ b := by rw [h]
    rwa [Nat.xor_assoc, Nat.xor_self, Nat.xor_zero, Nat.zero_xor] at h2
  · rintro rfl; exact Nat.xor_self a
theorem nat_or_zero {a b : Nat} : a ||| b = 0 ↔ a = 0 ∧ b = 0 := Nat.or_eq_zero_iff
/-- What Equal has gathered behind k bytes. -/
def eqX (a b : List Int) : Nat → Int
  | 0 => bits .xor .i64 (a.length : Int) (b.length : Int)
  | k + 1 => bits .or .i64 (eqX a b k) (bits .xor .u8 (a.getD k 0) (b.getD k 0))
theorem byte_getD {a : List Int} (h : IsBytes a) (k : Nat) : 0 ≤ a.getD k 0 ∧ a.getD k 0 < 256 := by
  rw [List.getD_eq_getElem?_getD]
  cases hk : a[k]? with
  | none => simp
  | some x => exact h x (List.mem_of_getElem? hk)
theorem eqX_told {a b : List Int} (ha : IsBytes a) (hb : IsBytes b) (hla : a.length < 9223372036854775808) (hlb : b.length < 9223372036854775808) (k : Nat) :
    0 ≤ eqX a b k ∧ eqX a b k < 9223372036854775808 ∧ (eqX a b k = 0 ↔ a.length = b.length ∧ ∀ i, i < k → a.getD i 0 = b.getD i 0) := by
  induction k with
  | zero =>
    have hx : a.length ^^^ b.length < 2 ^ 63 := Nat.xor_lt_two_pow (by omega) (by omega)
    unfold eqX
    rw [i64_xor_nat _ _ hla hlb]
    refine ⟨by omega, by omega, ?_⟩
    rw [show (((a.length ^^^ b.length : Nat) : Int) = 0 ↔ a.length ^^^ b.length = 0) by omega, nat_xor_zero]
    simp
  | succ k ih =>
    obtain ⟨h1, h2, h3⟩ := ih
    obtain ⟨A, hA⟩ := Int.eq_ofNat_of_zero_le h1
    have b1 := byte_getD ha k
    have b2 := byte_getD hb k
    have hx : (a.getD k 0).toNat ^^^ (b.getD k 0).toNat < 2 ^ 8 := Nat.xor_lt_two_pow (by omega) (by omega)
    unfold eqX
    rw [u8_xor _ _ b1.1 b1.2 b2.1 b2.2, hA]
    rw [hA] at h2 h3
    have ho : A ||| ((a.getD k 0).toNat ^^^ (b.getD k 0).toNat) < 2 ^ 63 := Nat.or_lt_two_pow (by omega) (by omega)
    have e := i64_or_nat A ((a.getD k 0).toNat ^^^ (b.getD k 0).toNat) (by omega) (by omega)
    rw [e]
    refine ⟨by omega, by omega, ?_⟩
    rw [show (((A ||| ((a.getD k 0).toNat ^^^ (b.getD k 0).toNat) : Nat) : Int) = 0 ↔ A ||| ((a.getD k 0).toNat ^^^ (b.getD k 0).toNat) = 0) by omega, nat_or_zero, nat_xor_zero]
    have h3' : A = 0 ↔ a.length = b.length ∧ ∀ i, i < k → a.getD i 0 = b.getD i 0 := by rw [← h3]; exact (by constructor <;> (intro h; simpa using h))
    rw [h3']
    constructor
    · rintro ⟨⟨e1, e2⟩, e3⟩
      refine ⟨e1, fun i hi => ?_⟩
      by_cases hik : i = k
      · subst hik; omega
      · exact e2 i (by omega)
    · rintro ⟨e1, e2⟩
      exact ⟨⟨e1, fun i hi => e2 i (by omega)⟩, by rw [e2 k (by omega)]⟩
theorem eqX_all {a b : List Int} (ha : IsBytes a) (hb : IsBytes b) (hla : a.length < 9223372036854775808) (hlb : b.length < 9223372036854775808) : (eqX a b (min a.length b.length) == 0) = decide (a = b) := by
  have h := (eqX_told ha hb hla hlb (min a.length b.length)).2.2
  rw [Bool.eq_iff_iff]
  simp only [beq_iff_eq, decide_eq_true_iff]
  rw [h]
  constructor
  · rintro ⟨e1, e2⟩
    refine List.ext_getElem e1 (fun i h1 h2 => ?_)
    have := e2 i (by omega)
    simpa [List.getD_eq_getElem?_getD, h1, h2] using this
  · rintro rfl
    exact ⟨rfl, fun _ _ => rfl⟩
end Go.Mac
