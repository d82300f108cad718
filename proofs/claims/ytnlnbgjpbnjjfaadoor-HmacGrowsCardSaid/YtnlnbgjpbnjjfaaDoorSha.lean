/-
  SHA-256 in plain Lean, spelled as the walk spells the program's own words. No program in sight.
-/
import Derived.WalkKit
namespace Go.Sha
open Go
/-- x turned right by n bits. -/
def tu (x n : Int) : Int := bits .or .u32 (x / 2 ^ n.toNat) (x * 2 ^ (32 - n).toNat % 4294967296)
def hz (B : Nat → Int) (t : Nat) : Nat → Int
  | 0 => 0
  | k + 1 => bits .or .u32 (hz B t k * 256 % 4294967296) (B (4 * t + k))
def nextW (W : Nat → Int) (t : Nat) : Int :=
  (W (t - 16) + W (t - 7) + bits .xor .u32 (bits .xor .u32 (tu (W (t - 15)) 7) (tu (W (t - 15)) 18)) (W (t - 15) / 8)
    + bits .xor .u32 (bits .xor .u32 (tu (W (t - 2)) 17) (tu (W (t - 2)) 19)) (W (t - 2) / 1024)) % 4294967296
/-- The first t numbers W. -/
def ws (B : Nat → Int) : Nat → List Int
  | 0 => []
  | t + 1 => ws B t ++ [if t < 16 then hz B t 4 else nextW (fun j => (ws B t).getD j 0) t]
def wsv (B : Nat → Int) (t j : Nat) : Int := (ws B t).getD j 0
theorem ws_length (B : Nat → Int) (t : Nat) : (ws B t).length = t := by induction t <;> simp_all [ws]
/-- The row of W while round t stands at byte k. -/
def wk (B : Nat → Int) (t k j : Nat) : Int := if j = t then hz B t k else wsv B t j
theorem wsv_zero (B : Nat → Int) (j : Nat) : wsv B 0 j = 0 := by simp [wsv, ws]
theorem wsv_ge (B : Nat → Int) (t j : Nat) (h : t ≤ j) : wsv B t j = 0 := by
  unfold wsv; rw [List.getD_eq_getElem?_getD, List.getElem?_eq_none (by rw [ws_length]; exact h)]; rfl
theorem wk_zero (B : Nat → Int) (t j : Nat) : wk B t 0 j = wsv B t j := by
  unfold wk; split
  · subst_vars; rw [wsv_ge B _ _ (Nat.le_refl _)]; rfl
  · rfl
theorem wsv_succ_lt (B : Nat → Int) (t j : Nat) (h : t < 16) : wsv B (t + 1) j = wk B t 4 j := by
  unfold wk
  by_cases hj : j = t
  · subst hj
    rw [if_pos rfl]; unfold wsv
    rw [List.getD_eq_getElem?_getD]; unfold ws; rw [if_pos h, List.getElem?_append_right (by rw [ws_length]; exact Nat.le_refl _), ws_length]; simp
  · rw [if_neg hj]; unfold wsv
    simp only [List.getD_eq_getElem?_getD]
    rcases Nat.lt_or_ge j t with h1 | h1
    · rw [ws, List.getElem?_append_left (by rw [ws_length]; exact h1)]
    · rw [List.getElem?_eq_none (by rw [ws_length]; omega), List.getElem?_eq_none (by rw [ws_length]; omega)]
theorem wsv_succ_ge (B : Nat → Int) (t j : Nat) (h : 16 ≤ t) : wsv B (t + 1) j = if j = t then nextW (wsv B t) t else wsv B t j := by
  by_cases hj : j = t
  · subst hj
    rw [if_pos rfl]; unfold wsv
    rw [List.getD_eq_getElem?_getD]; conv => lhs; unfold ws
    rw [if_neg (by omega), List.getElem?_append_right (by rw [ws_length]; exact Nat.le_refl _), ws_length]; simp
  · rw [if_neg hj]; unfold wsv
    simp only [List.getD_eq_getElem?_getD]
    rcases Nat.lt_or_ge j t with h1 | h1
    · rw [ws, List.getElem?_append_left (by rw [ws_length]; exact h1)]
    · rw [List.getElem?_eq_none (by rw [ws_length]; omega), List.getElem?_eq_none (by rw [ws_length]; omega)]
/-- The constants, and the first state. -/
def K : List Int := [1116352408, 1899447441, 3049323471, 3921009573, 961987163, 1508970993, 2453635748, 2870763221, 3624381080, 310598401, 607225278, 1426881987, 1925078388, 2162078206, 2614888103, 3248222580, 3835390401, 4022224774, 264347078, 604807628, 770255983, 1249150122, 1555081692, 1996064986, 2554220882, 2821834349, 2952996808, 3210313671, 3336571891, 3584528711, 113926993, 338241895, 666307205, 773529912, 1294757372, 1396182291, 1695183700, 1986661051, 2177026350, 2456956037, 2730485921, 2820302411, 3259730800, 3345764771, 3516065817, 3600352804, 4094571909, 275423344, 430227734, 506948616, 659060556, 883997877, 958139571, 1322822218, 1537002063, 1747873779, 1955562222, 2024104815, 2227730452, 2361852424, 2428436474, 2756734187, 3204031479, 3329325298]
def firstL : List Int := [1779033703, 3144134277, 1013904242, 2773480762, 1359893119, 2600822924, 528734635, 1541459225]
def first (i : Nat) : Int := firstL.getD i 0
/-- T and U of a round (not yet wrapped round), and the eight numbers behind it. -/
def tOne (e f g h k w : Int) : Int :=
  h + k + w + bits .xor .u32 (bits .xor .u32 (tu e 6) (tu e 11)) (tu e 25) + bits .xor .u32 (bits .and .u32 e f) (bits .and .u32 (bits .xor .u32 IntKind.u32.max e) g)
def tTwo (a b c : Int) : Int :=
  bits .xor .u32 (bits .xor .u32 (tu a 2) (tu a 13)) (tu a 22) + bits .xor .u32 (bits .xor .u32 (bits .and .u32 a b) (bits .and .u32 a c)) (bits .and .u32 b c)
def stL (l : List Int) (k w : Int) : List Int :=
  let a := l.getD 0 0; let b := l.getD 1 0; let c := l.getD 2 0; let d := l.getD 3 0
  let e := l.getD 4 0; let f := l.getD 5 0; let g := l.getD 6 0; let h := l.getD 7 0
  [(tOne e f g h k w + tTwo a b c) % 4294967296, a, b, c, (d + tOne e f g h k w) % 4294967296, e, f, g]
def csL (W S : Nat → Int) : Nat → List Int
  | 0 => [S 0, S 1, S 2, S 3, S 4, S 5, S 6, S 7]
  | t + 1 => stL (csL W S t) (K.getD t 0) (W t)
theorem csL_eight (W S : Nat → Int) (t : Nat) : ∃ a b c d e f g h, csL W S t = [a, b, c, d, e, f, g, h] := by
  cases t with
  | zero => exact ⟨_, _, _, _, _, _, _, _, rfl⟩
  | succ t => exact ⟨_, _, _, _, _, _, _, _, rfl⟩
/-- The state behind a block. -/
def round (S B : Nat → Int) (i : Nat) : Int := ((csL (wsv B 64) S 64).getD i 0 + S i) % 4294967296
theorem hz_congr (B C : Nat → Int) (t : Nat) (ht : t < 16) (h : ∀ i, i < 64 → B i = C i) (k : Nat) (hk : k ≤ 4) : hz B t k = hz C t k := by
  induction k with
  | zero => rfl
  | succ k ih => unfold hz; rw [ih (by omega), h _ (by omega)]
theorem ws_congr (B C : Nat → Int) (h : ∀ i, i < 64 → B i = C i) (t : Nat) : ws B t = ws C t := by
  induction t with
  | zero => rfl
  | succ t ih =>
    unfold ws
    rw [ih]
    by_cases ht : t < 16
    · rw [if_pos ht, if_pos ht, hz_congr B C t ht h 4 (by omega)]
    · rw [if_neg ht, if_neg ht]
theorem round_congr (S B C : Nat → Int) (h : ∀ i, i < 64 → B i = C i) : round S B = round S C := by
  unfold round
  have e : wsv B 64 = wsv C 64 := by funext j; unfold wsv; rw [ws_congr B C h]
  rw [e]
theorem csL_congr (W S T : Nat → Int) (h : ∀ i, i < 8 → S i = T i) (t : Nat) : csL W S t = csL W T t := by
  induction t with
  | zero => simp only [csL, h 0 (by omega), h 1 (by omega), h 2 (by omega), h 3 (by omega), h 4 (by omega), h 5 (by omega), h 6 (by omega), h 7 (by omega)]
  | succ t ih => unfold csL; rw [ih]
theorem round_congr_state (S T B : Nat → Int) (h : ∀ i, i < 8 → S i = T i) (i : Nat) (hi : i < 8) : round S B i = round T B i := by
  unfold round
  rw [csL_congr _ S T h, h i hi]
theorem round_range (S B : Nat → Int) (i : Nat) : 0 ≤ round S B i ∧ round S B i < 4294967296 := by
  unfold round; omega
/-- A state, a block, as the model's values. -/
def wl (S : Nat → Int) : List Value := (List.range 8).map fun i => Value.int .u32 (S i)
def bl (B : Nat → Int) : List Value := (List.range 64).map fun i => Value.int .u8 (B i)
end Go.Sha
