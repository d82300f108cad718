/-
  PLAIN: trees of digests: roots, proofs, growths, peaks, and what a climb makes of them.
-/
import Derived.Test.YtknecjjdegngfaaDoorKit
set_option linter.unusedSimpArgs false
namespace Go.Book
/-- The greatest power of two below n. -/
def spl (n : Nat) : Nat := 2 ^ Nat.log2 (n - 1)
theorem spl_pos (n : Nat) : 0 < spl n := Nat.two_pow_pos _
theorem spl_lt {n : Nat} (h : 2 ≤ n) : spl n < n := by
  have := Nat.log2_self_le (n := n - 1) (by omega)
  unfold spl
  omega
theorem spl_ge {n : Nat} (h : 2 ≤ n) : n ≤ 2 * spl n := by
  have := Nat.lt_log2_self (n := n - 1)
  rw [Nat.pow_succ] at this
  unfold spl
  omega
theorem log2_eq {a m : Nat} (h1 : 2 ^ a ≤ m) (h2 : m < 2 ^ (a + 1)) : Nat.log2 m = a := by
  have hp := Nat.two_pow_pos a
  have e1 : a ≤ Nat.log2 m := (Nat.le_log2 (by omega)).2 h1
  have e2 : Nat.log2 m < a + 1 := (Nat.log2_lt (by omega)).2 h2
  omega
theorem spl_eq {a m : Nat} (h1 : 2 ^ a < m) (h2 : m ≤ 2 ^ (a + 1)) : spl m = 2 ^ a := by
  unfold spl
  rw [log2_eq (a := a) (by omega) (by omega)]
/-- What begins behind the split of a greater row has the same split. -/
theorem spl_same {m n : Nat} (hn : 2 ≤ n) (h1 : spl n < m) (h2 : m ≤ n) : spl m = spl n := by
  have h3 := spl_ge hn
  unfold spl at h1 h3 ⊢
  exact spl_eq h1 (by rw [Nat.pow_succ]; omega)
theorem spl_half {n b : Nat} (hn : 2 ≤ n) (h : n ≤ 2 ^ (b + 1)) : spl n ≤ 2 ^ b := by
  have h1 := spl_lt hn
  unfold spl at h1 ⊢
  have h2 : Nat.log2 (n - 1) < b + 1 := by
    rcases Nat.lt_or_ge (Nat.log2 (n - 1)) (b + 1) with h3 | h3
    · exact h3
    · have := Nat.pow_le_pow_right (show 0 < 2 by omega) h3
      omega
  exact Nat.pow_le_pow_right (by omega) (by omega)
section
variable {D : Type} (E : D) (pr : D → D → D)
def rootG (l : List D) : D :=
  if _h : 2 ≤ l.length then pr (rootG (l.take (spl l.length))) (rootG (l.drop (spl l.length))) else l.headD E
termination_by l.length
decreasing_by
  all_goals
    have h1 := spl_lt _h
    have h2 := spl_pos l.length
    simp only [List.length_take, List.length_drop]
    omega
def standsG (i : Nat) (l : List D) : List D :=
  if _h : 2 ≤ l.length then
    if i < spl l.length then standsG i (l.take (spl l.length)) ++ [rootG E pr (l.drop (spl l.length))]
    else standsG (i - spl l.length) (l.drop (spl l.length)) ++ [rootG E pr (l.take (spl l.length))]
  else []
termination_by l.length
decreasing_by
  all_goals
    have h1 := spl_lt _h
    have h2 := spl_pos l.length
    simp only [List.length_take, List.length_drop]
    omega
def growG (m : Nat) (l : List D) (known : Bool) : List D :=
  if m = l.length then if known then [] else [rootG E pr l]
  else if _h : 2 ≤ l.length then
    if m ≤ spl l.length then growG m (l.take (spl l.length)) known ++ [rootG E pr (l.drop (spl l.length))]
    else growG (m - spl l.length) (l.drop (spl l.length)) false ++ [rootG E pr (l.take (spl l.length))]
  else []
termination_by l.length
decreasing_by
  all_goals
    have h1 := spl_lt _h
    have h2 := spl_pos l.length
    simp only [List.length_take, List.length_drop]
    omega
def peaksG (l : List D) : List D :=
  if _h : 0 < l.length then rootG E pr (l.take (2 ^ Nat.log2 l.length)) :: peaksG (l.drop (2 ^ Nat.log2 l.length)) else []
termination_by l.length
decreasing_by
  have := Nat.two_pow_pos (Nat.log2 l.length)
  simp only [List.length_drop]
  omega
def foldG : List D → D
  | [] => E
  | [d] => d
  | d :: e :: l => pr d (foldG (e :: l))
end
def wayF (i n : Nat) : List Bool :=
  if _h : 2 ≤ n then if i < spl n then wayF i (spl n) ++ [true] else wayF (i - spl n) (n - spl n) ++ [false] else []
termination_by n
decreasing_by
  all_goals
    have h1 := spl_lt _h
    have h2 := spl_pos n
    omega
def gwayF (m n : Nat) (known : Bool) : List Bool × Bool :=
  if m = n then ([], known) else
  if _h : 2 ≤ n then if m ≤ spl n then ((gwayF m (spl n) known).1 ++ [true], (gwayF m (spl n) known).2) else ((gwayF (m - spl n) (n - spl n) false).1 ++ [false], false) else ([], known)
termination_by n
decreasing_by
  all_goals
    have h1 := spl_lt _h
    have h2 := spl_pos n
    omega
/-- What a climb makes. -/
def climbF {T D : Type} (join : T → T → T) (of : D → T) (other : T → D → T) : T → List Bool → List D → T
  | s, b :: way, d :: proof => climbF join of other (if b then join s (of d) else other s d) way proof
  | s, [], _ => s
  | s, _ :: _, [] => s
theorem climb_app {T D : Type} (join : T → T → T) (of : D → T) (other : T → D → T) (w2 : List Bool) (p2 : List D) : ∀ (w1 : List Bool) (p1 : List D) (s : T), w1.length = p1.length →
    climbF join of other s (w1 ++ w2) (p1 ++ p2) = climbF join of other (climbF join of other s w1 p1) w2 p2
  | [], [], s, _ => by simp [climbF]
  | b :: w1, d :: p1, s, h => by simpa [climbF] using climb_app join of other w2 p2 w1 p1 _ (by simpa using h)
  | [], _ :: _, _, h => by simp at h
  | _ :: _, [], _, h => by simp at h
section
variable {D : Type} (E : D) (pr : D → D → D)
theorem root_one (d : D) : rootG E pr [d] = d := by rw [rootG]; simp
theorem root_two {l : List D} (h : 2 ≤ l.length) : rootG E pr l = pr (rootG E pr (l.take (spl l.length))) (rootG E pr (l.drop (spl l.length))) := by rw [rootG, dif_pos h]
theorem stands_len (i : Nat) (l : List D) : (standsG E pr i l).length = (wayF i l.length).length := by
  rw [standsG, wayF]
  by_cases h : 2 ≤ l.length
  · have h1 := spl_lt h
    have h2 := spl_pos l.length
    rw [dif_pos h, dif_pos h]
    by_cases hi : i < spl l.length
    · have ih := stands_len i (l.take (spl l.length))
      rw [if_pos hi, if_pos hi, List.length_append, List.length_append, ih, List.length_take, Nat.min_eq_left (by omega)]
      rfl
    · have ih := stands_len (i - spl l.length) (l.drop (spl l.length))
      rw [if_neg hi, if_neg hi, List.length_append, List.length_append, ih, List.length_drop]
      rfl
  · rw [dif_neg h, dif_neg h]
    rfl
termination_by l.length
decreasing_by
  all_goals
    simp only [List.length_take, List.length_drop]
    omega
theorem stands_ok (i : Nat) (l : List D) (d : D) (hd : l[i]? = some d) : climbF pr id (fun s d => pr d s) d (wayF i l.length) (standsG E pr i l) = rootG E pr l := by
  have hi : i < l.length := (List.getElem?_eq_some_iff.1 hd).1
  rw [standsG, wayF]
  by_cases h : 2 ≤ l.length
  · have h1 := spl_lt h
    have h2 := spl_pos l.length
    rw [dif_pos h, dif_pos h, root_two E pr h]
    by_cases hk : i < spl l.length
    · have ih := stands_ok i (l.take (spl l.length)) d (by rw [List.getElem?_take, if_pos hk, hd])
      have hl : (l.take (spl l.length)).length = spl l.length := by rw [List.length_take]; omega
      rw [hl] at ih
      rw [if_pos hk, if_pos hk, climb_app _ _ _ _ _ _ _ _ (by rw [stands_len, hl]), ih]
      simp [climbF]
    · have ih := stands_ok (i - spl l.length) (l.drop (spl l.length)) d (by rw [List.getElem?_drop, ← hd]; congr 1; omega)
      rw [List.length_drop] at ih
      rw [if_neg hk, if_neg hk, climb_app _ _ _ _ _ _ _ _ (by rw [stands_len, List.length_drop]), ih]
      simp [climbF]
  · match l, h, hd with
    | [x], _, hd =>
      have : i = 0 := by simp at hi; exact hi
      subst this
      have : x = d := by simpa using hd
      subst this
      simp [root_one, climbF]
    | [], _, hd => simp at hd
    | _ :: _ :: _, h, _ => simp at h
termination_by l.length
decreasing_by
  all_goals
    simp only [List.length_take, List.length_drop]
    omega
theorem way_short (i n b : Nat) (h : n ≤ 2 ^ b) : (wayF i n).length ≤ b := by
  rw [wayF]
  by_cases hn : 2 ≤ n
  · have h1 := spl_lt hn
    have h2 := spl_ge hn
    have h3 := spl_pos n
    rw [dif_pos hn]
    match b, h with
    | 0, h => simp at h; omega
    | b + 1, h =>
      have h4 := spl_half hn h
      split
      · have ih := way_short i (spl n) b h4
        simp only [List.length_append, List.length_cons, List.length_nil]
        omega
      · have ih := way_short (i - spl n) (n - spl n) b (by omega)
        simp only [List.length_append, List.length_cons, List.length_nil]
        omega
  · rw [dif_neg hn]
    exact Nat.zero_le _
termination_by n
decreasing_by all_goals omega
theorem gway_short (m n b : Nat) (known : Bool) (h : n ≤ 2 ^ b) : (gwayF m n known).1.length ≤ b := by
  rw [gwayF]
  split
  · exact Nat.zero_le _
  · by_cases hn : 2 ≤ n
    · have h1 := spl_lt hn
      have h2 := spl_ge hn
      have h3 := spl_pos n
      rw [dif_pos hn]
      match b, h with
      | 0, h => simp at h; omega
      | b + 1, h =>
        have h4 := spl_half hn h
        split
        · have ih := gway_short m (spl n) b known h4
          simp only [List.length_append, List.length_cons, List.length_nil]
          omega
        · have ih := gway_short (m - spl n) (n - spl n) b false (by omega)
          simp only [List.length_append, List.length_cons, List.length_nil]
          omega
    · rw [dif_neg hn]
      exact Nat.zero_le _
termination_by n
decreasing_by all_goals omega
theorem gway_false (m n : Nat) : (gwayF m n false).2 = false := by
  rw [gwayF]
  split
  · rfl
  · by_cases hn : 2 ≤ n
    · have h1 := spl_lt hn
      rw [dif_pos hn]
      split
      · exact gway_false m (spl n)
      · rfl
    · rw [dif_neg hn]
termination_by n
decreasing_by all_goals omega
/-- The old root and the new one. -/
def joinT (s d : D × D) : D × D := (s.1, pr s.2 d.2)
def aheadT (s : D × D) (d : D) : D × D := (pr d s.1, pr d s.2)
theorem grow_ok (Z : D) (m : Nat) (l : List D) (known : Bool) (hm : 0 < m) (hl : m ≤ l.length) :
    ∃ (s : D) (G : List D), growG E pr m l known = (if (gwayF m l.length known).2 then [] else [s]) ++ G ∧ G.length = (gwayF m l.length known).1.length ∧ ((gwayF m l.length known).2 = true → s = rootG E pr (l.take m)) ∧
      climbF (joinT pr) (fun d => (Z, d)) (aheadT pr) (s, s) (gwayF m l.length known).1 G = (rootG E pr (l.take m), rootG E pr l) := by
  rw [growG, gwayF]
  by_cases he : m = l.length
  · rw [if_pos he, if_pos he]
    refine ⟨rootG E pr l, [], ?_, rfl, fun _ => ?_, ?_⟩
    · cases known <;> simp
    · rw [he, List.take_length]
    · simp [climbF, he]
  · have h : 2 ≤ l.length := by omega
    have h1 := spl_lt h
    have h2 := spl_pos l.length
    rw [if_neg he, if_neg he, dif_pos h, dif_pos h]
    by_cases hk : m ≤ spl l.length
    · have hll : (l.take (spl l.length)).length = spl l.length := by rw [List.length_take]; omega
      obtain ⟨s, G, e1, e2, e3, e4⟩ := grow_ok Z m (l.take (spl l.length)) known hm (by omega)
      rw [hll] at e1 e2 e3 e4
      rw [List.take_take, Nat.min_eq_left hk] at e3 e4
      rw [if_pos hk, if_pos hk]
      refine ⟨s, G ++ [rootG E pr (l.drop (spl l.length))], ?_, ?_, e3, ?_⟩
      · rw [e1, List.append_assoc]
      · rw [List.length_append, List.length_append, e2]
        rfl
      · rw [climb_app _ _ _ _ _ _ _ _ e2.symm, e4, root_two E pr h]
        simp [climbF, joinT]
    · have hll : (l.drop (spl l.length)).length = l.length - spl l.length := by rw [List.length_drop]
      obtain ⟨s, G, e1, e2, e3, e4⟩ := grow_ok Z (m - spl l.length) (l.drop (spl l.length)) false (by omega) (by omega)
      rw [hll] at e1 e2 e3 e4
      rw [gway_false] at e1
      rw [if_neg hk, if_neg hk]
      refine ⟨s, G ++ [rootG E pr (l.take (spl l.length))], ?_, ?_, (fun h => by simp at h), ?_⟩
      · rw [e1, List.append_assoc]
      · rw [List.length_append, List.length_append, e2]
        rfl
      · have hs := spl_same h (by omega) hl
        have hm2 : (l.take m).length = m := by rw [List.length_take]; omega
        rw [climb_app _ _ _ _ _ _ _ _ e2.symm, e4, root_two E pr h, root_two E pr (l := l.take m) (by omega), hm2, hs, List.take_take, Nat.min_eq_left (by omega), List.drop_take]
        simp [climbF, aheadT]
termination_by l.length
decreasing_by
  all_goals
    simp only [List.length_take, List.length_drop]
    omega
theorem peaksG_nil : peaksG E pr [] = [] := by rw [peaksG]; simp
theorem fold_peaks (l : List D) : foldG E pr (peaksG E pr l) = rootG E pr l := by
  rw [peaksG]
  by_cases h0 : 0 < l.length
  · have hp := Nat.two_pow_pos (Nat.log2 l.length)
    have h1 := Nat.log2_self_le (n := l.length) (by omega)
    have h2 := Nat.lt_log2_self (n := l.length)
    rw [dif_pos h0]
    have ih := fold_peaks (l.drop (2 ^ Nat.log2 l.length))
    rcases Nat.lt_or_ge (2 ^ Nat.log2 l.length) l.length with h3 | h3
    · have hs : spl l.length = 2 ^ Nat.log2 l.length := spl_eq h3 (by omega)
      rw [root_two E pr (l := l) (by omega), hs, ← ih]
      rw [peaksG, dif_pos (by rw [List.length_drop]; omega)]
      rfl
    · rw [List.take_of_length_le h3, List.drop_eq_nil_of_le h3, peaksG]
      simp [foldG]
  · have : l = [] := List.eq_nil_of_length_eq_zero (by omega)
    subst this
    simp [foldG, rootG]
termination_by l.length
decreasing_by
  simp only [List.length_drop]
  omega
end
end Go.Book
