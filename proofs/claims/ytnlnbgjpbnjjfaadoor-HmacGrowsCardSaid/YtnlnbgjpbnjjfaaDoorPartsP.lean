/-
  Rows of parts, taken apart, in plain Lean: no program in sight.
-/
import Derived.Test.YtnlnbgjpbnjjfaaDoorMem
namespace Go.Mac
open Go Go.Aff
/-- The digits from place i on; fr: the first of them; n: the number so far. Wrong at a place, or the place behind them and the number. -/
def scan (row : List Int) (fr : Nat) : Nat → Nat → Nat → Except Nat (Nat × Nat)
  | 0, i, n => .ok (i, n)
  | f + 1, i, n =>
    match row[i]? with
    | none => .ok (i, n)
    | some b => if 48 ≤ b ∧ b ≤ 57 then (if 2147483648 ≤ 10 * n + (b - 48).toNat ∨ (fr < i ∧ row.getD fr 0 = 48) then .error i else scan row fr f (i + 1) (10 * n + (b - 48).toNat)) else .ok (i, n)
/-- The parts from place i on; acc: those ahead. Wrong at a place, or all parts. -/
def parse (row : List Int) : Nat → Nat → List (List Int) → Except Nat (List (List Int))
  | 0, _, acc => .ok acc
  | f + 1, i, acc =>
    if row.length ≤ i then .ok acc
    else match scan row i (row.length - i) i 0 with
      | .error at' => .error at'
      | .ok (j, n) =>
        if j = row.length ∨ j = i ∨ row.getD j 0 ≠ 32 then .error j
        else if row.length - j - 1 ≤ n then .error row.length
        else if row.getD (j + 1 + n) 0 ≠ 32 then .error (j + 1 + n)
        else parse row f (j + 1 + n + 1) (acc ++ [(row.drop (j + 1)).take n])
def partsF (row : List Int) : Except Nat (List (List Int)) := parse row (row.length + 1) 0 []

section
variable {row : List Int}
theorem scan_end {fr f i n : Nat} (h : row[i]? = none) : scan row fr f i n = .ok (i, n) := by
  cases f with
  | zero => rfl
  | succ f => unfold scan; rw [h]
theorem scan_other {fr f i n : Nat} {b : Int} (h : row[i]? = some b) (hb : ¬ (48 ≤ b ∧ b ≤ 57)) : scan row fr f i n = .ok (i, n) := by
  cases f with
  | zero => rfl
  | succ f => unfold scan; rw [h]; simp only [hb, if_false]
theorem scan_wrong {fr f i n : Nat} {b : Int} (h : row[i]? = some b) (hb : 48 ≤ b ∧ b ≤ 57) (hw : 2147483648 ≤ 10 * n + (b - 48).toNat ∨ (fr < i ∧ row.getD fr 0 = 48)) : scan row fr (f + 1) i n = .error i := by
  unfold scan; rw [h]; simp only [hb, and_self, if_true]; rw [if_pos hw]
theorem scan_step {fr f i n : Nat} {b : Int} (h : row[i]? = some b) (hb : 48 ≤ b ∧ b ≤ 57) (hw : ¬ (2147483648 ≤ 10 * n + (b - 48).toNat ∨ (fr < i ∧ row.getD fr 0 = 48))) : scan row fr (f + 1) i n = scan row fr f (i + 1) (10 * n + (b - 48).toNat) := by
  conv => lhs; unfold scan
  rw [h]; simp only [hb, and_self, if_true]; rw [if_neg hw]
/-- Where the digits end: within the row, at or behind their start; the number is small. -/
theorem scan_le {fr : Nat} : ∀ {f i n j m : Nat}, scan row fr f i n = .ok (j, m) → i ≤ row.length → n < 2147483648 → i ≤ j ∧ j ≤ row.length ∧ m < 2147483648 := by
  intro f
  induction f with
  | zero => intro i n j m h hi hn; unfold scan at h; injection h with h; injection h with h1 h2; omega
  | succ f ih =>
    intro i n j m h hi hn
    unfold scan at h
    cases hr : row[i]? with
    | none => rw [hr] at h; injection h with h; injection h with h1 h2; omega
    | some b =>
      rw [hr] at h
      have hlt := (List.getElem?_eq_some_iff.1 hr).1
      by_cases hb : 48 ≤ b ∧ b ≤ 57
      · simp only [hb, and_self, if_true] at h
        by_cases hw : 2147483648 ≤ 10 * n + (b - 48).toNat ∨ (fr < i ∧ row.getD fr 0 = 48)
        · rw [if_pos hw] at h; cases h
        · rw [if_neg hw] at h
          have := ih h (by omega) (by omega)
          omega
      · simp only [hb, if_false] at h
        injection h with h; injection h with h1 h2; omega
theorem scan_wrong_le {fr : Nat} : ∀ {f i n j : Nat}, scan row fr f i n = .error j → i ≤ j ∧ j < row.length := by
  intro f
  induction f with
  | zero => intro i n j h; unfold scan at h; cases h
  | succ f ih =>
    intro i n j h
    unfold scan at h
    cases hr : row[i]? with
    | none => rw [hr] at h; cases h
    | some b =>
      rw [hr] at h
      have hlt := (List.getElem?_eq_some_iff.1 hr).1
      by_cases hb : 48 ≤ b ∧ b ≤ 57
      · simp only [hb, and_self, if_true] at h
        by_cases hw : 2147483648 ≤ 10 * n + (b - 48).toNat ∨ (fr < i ∧ row.getD fr 0 = 48)
        · rw [if_pos hw] at h; injection h with h; omega
        · rw [if_neg hw] at h
          have := ih h
          omega
      · simp only [hb, if_false] at h; cases h
/-- More fuel than places changes nothing. -/
theorem parse_end {f i : Nat} {acc : List (List Int)} (h : row.length ≤ i) : parse row f i acc = .ok acc := by
  cases f with
  | zero => rfl
  | succ f => unfold parse; rw [if_pos h]
theorem parse_scan {f i at' : Nat} {acc : List (List Int)} (h : i < row.length) (hs : scan row i (row.length - i) i 0 = .error at') : parse row (f + 1) i acc = .error at' := by
  unfold parse; rw [if_neg (by omega), hs]
theorem parse_mark {f i j n : Nat} {acc : List (List Int)} (h : i < row.length) (hs : scan row i (row.length - i) i 0 = .ok (j, n)) (hj : j = row.length ∨ j = i ∨ row.getD j 0 ≠ 32) : parse row (f + 1) i acc = .error j := by
  unfold parse; rw [if_neg (by omega), hs]; dsimp only; rw [if_pos hj]
theorem parse_short {f i j n : Nat} {acc : List (List Int)} (h : i < row.length) (hs : scan row i (row.length - i) i 0 = .ok (j, n)) (hj : ¬ (j = row.length ∨ j = i ∨ row.getD j 0 ≠ 32)) (hn : row.length - j - 1 ≤ n) : parse row (f + 1) i acc = .error row.length := by
  unfold parse; rw [if_neg (by omega), hs]; dsimp only; rw [if_neg hj, if_pos hn]
theorem parse_last {f i j n : Nat} {acc : List (List Int)} (h : i < row.length) (hs : scan row i (row.length - i) i 0 = .ok (j, n)) (hj : ¬ (j = row.length ∨ j = i ∨ row.getD j 0 ≠ 32)) (hn : ¬ row.length - j - 1 ≤ n) (hm : row.getD (j + 1 + n) 0 ≠ 32) : parse row (f + 1) i acc = .error (j + 1 + n) := by
  unfold parse; rw [if_neg (by omega), hs]; dsimp only; rw [if_neg hj, if_neg hn, if_pos hm]
theorem parse_step {f i j n : Nat} {acc : List (List Int)} (h : i < row.length) (hs : scan row i (row.length - i) i 0 = .ok (j, n)) (hj : ¬ (j = row.length ∨ j = i ∨ row.getD j 0 ≠ 32)) (hn : ¬ row.length - j - 1 ≤ n) (hm : ¬ row.getD (j + 1 + n) 0 ≠ 32) :
    parse row (f + 1) i acc = parse row f (j + 1 + n + 1) (acc ++ [(row.drop (j + 1)).take n]) := by
  conv => lhs; unfold parse
  rw [if_neg (by omega), hs]; dsimp only; rw [if_neg hj, if_neg hn, if_neg hm]
end
theorem parts_wakes : partsF [50, 32, 97, 98, 32, 48, 32, 32] = .ok [[97, 98], []] := by rfl
end Go.Mac
