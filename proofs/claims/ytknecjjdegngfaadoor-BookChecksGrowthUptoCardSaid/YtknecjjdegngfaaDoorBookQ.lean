/-
  PLAIN: what a proof that is taken with a book's root says: its leaf, or two unlike rows with one digest.
-/
import Derived.Test.YtknecjjdegngfaaDoorRootW
set_option linter.unusedSimpArgs false
namespace Go.Book
open Go Go.Aff Go.Sha
def climb1 (s : List Int) (way : List Bool) (ps : List (List Int)) : List Int := climbF pairF id (fun s d => pairF d s) s way ps
def climb2 (s : List Int × List Int) (way : List Bool) (ps : List (List Int)) : List Int × List Int := climbF (joinT pairF) (fun d => (List.replicate 32 0, d)) (aheadT pairF) s way ps
/-- The rows that a climb hashes. -/
def upRows : List Int → List Bool → List (List Int) → List (List Int)
  | s, b :: way, d :: ps => (if b then 1 :: (s ++ d) else 1 :: (d ++ s)) :: upRows (if b then pairF s d else pairF d s) way ps
  | _, [], _ => []
  | _, _ :: _, [] => []
def gupRows : List Int × List Int → List Bool → List (List Int) → List (List Int)
  | s, b :: way, d :: ps => (if b then [1 :: (s.2 ++ d)] else [1 :: (d ++ s.1), 1 :: (d ++ s.2)]) ++ gupRows (if b then (s.1, pairF s.2 d) else (pairF d s.1, pairF d s.2)) way ps
  | _, [], _ => []
  | _, _ :: _, [] => []
/-- The rows of entries. -/
def rowsF (es : List (List Int)) : List (List Int) :=
  if _h : 2 ≤ es.length then rowsF (es.take (spl es.length)) ++ rowsF (es.drop (spl es.length)) ++ [1 :: (brootF ((es.take (spl es.length)).map leafF) ++ brootF ((es.drop (spl es.length)).map leafF))]
  else match es with
    | [] => [[]]
    | e :: _ => [0 :: e]
termination_by es.length
decreasing_by
  all_goals
    have h1 := spl_lt _h
    have h2 := spl_pos es.length
    simp only [List.length_take, List.length_drop]
    omega
/-- Two unlike rows of these have one digest. -/
def Exc (R S : List (List Int)) : Prop := ∃ r ∈ R, ∃ q ∈ S, sumF first 0 r = sumF first 0 q ∧ r ≠ q
theorem Exc.mono {R R' S S' : List (List Int)} (h : Exc R S) (hR : ∀ x ∈ R, x ∈ R') (hS : ∀ x ∈ S, x ∈ S') : Exc R' S' := by
  obtain ⟨r, hr, q, hq, h1, h2⟩ := h
  exact ⟨r, hR r hr, q, hS q hq, h1, h2⟩
theorem climb1_snoc (s : List Int) (way : List Bool) (ps : List (List Int)) (b : Bool) (d : List Int) (h : way.length = ps.length) : climb1 s (way ++ [b]) (ps ++ [d]) = if b then pairF (climb1 s way ps) d else pairF d (climb1 s way ps) := by
  unfold climb1
  rw [climb_app _ _ _ _ _ _ _ _ h]
  cases b <;> rfl
theorem climb2_snoc (s : List Int × List Int) (way : List Bool) (ps : List (List Int)) (b : Bool) (d : List Int) (h : way.length = ps.length) :
    climb2 s (way ++ [b]) (ps ++ [d]) = if b then ((climb2 s way ps).1, pairF (climb2 s way ps).2 d) else (pairF d (climb2 s way ps).1, pairF d (climb2 s way ps).2) := by
  unfold climb2
  rw [climb_app _ _ _ _ _ _ _ _ h]
  cases b <;> rfl
theorem upRows_snoc (b : Bool) (d : List Int) : ∀ (way : List Bool) (ps : List (List Int)) (s : List Int), way.length = ps.length →
    upRows s (way ++ [b]) (ps ++ [d]) = upRows s way ps ++ [if b then 1 :: (climb1 s way ps ++ d) else 1 :: (d ++ climb1 s way ps)]
  | [], [], s, _ => by cases b <;> rfl
  | x :: way, y :: ps, s, h => by
    have ih := upRows_snoc b d way ps (if x then pairF s y else pairF y s) (by simpa using h)
    simp only [List.cons_append, upRows, ih]
    cases x <;> rfl
  | [], _ :: _, _, h => by simp at h
  | _ :: _, [], _, h => by simp at h
theorem gupRows_snoc (b : Bool) (d : List Int) : ∀ (way : List Bool) (ps : List (List Int)) (s : List Int × List Int), way.length = ps.length →
    gupRows s (way ++ [b]) (ps ++ [d]) = gupRows s way ps ++ (if b then [1 :: ((climb2 s way ps).2 ++ d)] else [1 :: (d ++ (climb2 s way ps).1), 1 :: (d ++ (climb2 s way ps).2)])
  | [], [], s, _ => by cases b <;> rfl
  | x :: way, y :: ps, s, h => by
    have ih := gupRows_snoc b d way ps (if x then (s.1, pairF s.2 y) else (pairF y s.1, pairF y s.2)) (by simpa using h)
    simp only [List.cons_append, gupRows, ih, List.append_assoc]
    cases x <;> rfl
  | [], _ :: _, _, h => by simp at h
  | _ :: _, [], _, h => by simp at h
theorem climb1_len (s : List Int) : ∀ (way : List Bool) (ps : List (List Int)), s.length = 32 → (climb1 s way ps).length = 32 := by
  intro way
  induction way generalizing s with
  | nil => intro ps h; cases ps <;> exact h
  | cons b way ih =>
    intro ps h
    cases ps with
    | nil => exact h
    | cons d ps => exact ih _ ps (by cases b <;> exact sumF_length _ _ _)
theorem climb2_len (s : List Int × List Int) : ∀ (way : List Bool) (ps : List (List Int)), s.1.length = 32 → s.2.length = 32 → (climb2 s way ps).1.length = 32 ∧ (climb2 s way ps).2.length = 32 := by
  intro way
  induction way generalizing s with
  | nil => intro ps h h'; cases ps <;> exact ⟨h, h'⟩
  | cons b way ih =>
    intro ps h h'
    cases ps with
    | nil => exact ⟨h, h'⟩
    | cons d ps =>
      refine ih _ ps ?_ ?_
      · cases b
        · exact sumF_length _ _ _
        · exact h
      · cases b <;> exact sumF_length _ _ _
theorem broot_len (es : List (List Int)) : (brootF (es.map leafF)).length = 32 := by
  unfold brootF
  by_cases h2 : 2 ≤ (es.map leafF).length
  · rw [root_two _ _ h2]; exact sumF_length _ _ _
  · match es, h2 with
    | [], _ => rw [List.map_nil, rootG]; exact sumF_length _ _ _
    | [d], _ => rw [List.map_cons, List.map_nil, root_one]; exact sumF_length _ _ _
    | _ :: _ :: _, h2 => exact absurd (by simp) h2
theorem broot_split (es : List (List Int)) (h : 2 ≤ es.length) : brootF (es.map leafF) = pairF (brootF ((es.take (spl es.length)).map leafF)) (brootF ((es.drop (spl es.length)).map leafF)) := by
  unfold brootF
  rw [root_two _ _ (by simpa using h)]
  simp [List.map_take, List.map_drop]
theorem rowsF_two (es : List (List Int)) (h : 2 ≤ es.length) : rowsF es = rowsF (es.take (spl es.length)) ++ rowsF (es.drop (spl es.length)) ++ [1 :: (brootF ((es.take (spl es.length)).map leafF) ++ brootF ((es.drop (spl es.length)).map leafF))] := by
  rw [rowsF, dif_pos h]
/-- One pair of roots held against another one. -/
theorem pair_step {D d L R : List Int} (hD : D.length = 32) (hL : L.length = 32) (h : pairF D d = pairF L R) : (D = L ∧ d = R) ∨ (sumF first 0 (1 :: (D ++ d)) = sumF first 0 (1 :: (L ++ R)) ∧ 1 :: (D ++ d) ≠ 1 :: (L ++ R)) := by
  by_cases he : (1 : Int) :: (D ++ d) = 1 :: (L ++ R)
  · left
    injection he with _ he
    exact List.append_inj he (by omega)
  · exact .inr ⟨h, he⟩
theorem snoc_of {α : Type} (l : List α) (k : Nat) (h : l.length = k + 1) : ∃ l' x, l = l' ++ [x] ∧ l'.length = k := by
  refine ⟨l.take k, l[k]'(by omega), ?_, by rw [List.length_take]; omega⟩
  rw [List.take_append_getElem, List.take_of_length_le (by omega)]
/-- THE LAW OF ENTRIES. -/
theorem entry_law : ∀ (N : Nat) (es : List (List Int)), es.length = N → ∀ (i : Nat) (leaf : List Int) (ps : List (List Int)), i < N → leaf.length = 32 → (∀ d ∈ ps, d.length = 32) → ps.length = (wayF i N).length →
    climb1 leaf (wayF i N) ps = brootF (es.map leafF) → (∃ e, es[i]? = some e ∧ leaf = leafF e) ∨ Exc (upRows leaf (wayF i N) ps) (rowsF es) := by
  intro N
  induction N using Nat.strongRecOn with
  | _ N ih =>
  intro es hN i leaf ps hi hl hp hps h
  by_cases h2 : 2 ≤ N
  · have s1 := spl_lt h2
    have s2 := spl_pos N
    have hr := broot_split es (by omega)
    have hrows := rowsF_two es (by omega)
    rw [hN] at hr hrows
    obtain ⟨k, hk⟩ : ∃ k, k = spl N := ⟨_, rfl⟩
    rw [← hk] at hr hrows s1 s2
    have e0 : wayF i N = if i < k then wayF i k ++ [true] else wayF (i - k) (N - k) ++ [false] := by rw [wayF, dif_pos h2, hk]
    have ht : (es.take k).length = k := by rw [List.length_take]; omega
    have hdl : (es.drop k).length = N - k := by rw [List.length_drop]; omega
    by_cases hik : i < k
    · rw [if_pos hik] at e0
      rw [e0] at hps h ⊢
      rw [List.length_append] at hps
      obtain ⟨ps', d, rfl, hps'⟩ := snoc_of ps _ hps
      rw [climb1_snoc _ _ _ _ _ hps'.symm, if_pos rfl, hr] at h
      rw [upRows_snoc _ _ _ _ _ hps'.symm, if_pos rfl]
      rcases pair_step (climb1_len leaf _ _ hl) (broot_len _) h with ⟨h1, _⟩ | hx
      · rcases ih k s1 (es.take k) ht i leaf ps' hik hl (fun d hd => hp d (by simp [hd])) hps' h1 with ⟨e, he, hle⟩ | hE
        · refine .inl ⟨e, ?_, hle⟩
          rw [List.getElem?_take, if_pos hik] at he
          exact he
        · exact .inr (hE.mono (fun x hx => by simp [hx]) (fun x hx => by rw [hrows]; simp [hx]))
      · exact .inr ⟨_, by simp, _, by rw [hrows]; simp, hx.1, hx.2⟩
    · rw [if_neg hik] at e0
      rw [e0] at hps h ⊢
      rw [List.length_append] at hps
      obtain ⟨ps', d, rfl, hps'⟩ := snoc_of ps _ hps
      rw [climb1_snoc _ _ _ _ _ hps'.symm, if_neg (by decide), hr] at h
      rw [upRows_snoc _ _ _ _ _ hps'.symm, if_neg (by decide)]
      rcases pair_step (hp d (by simp)) (broot_len _) h with ⟨_, h1⟩ | hx
      · rcases ih (N - k) (by omega) (es.drop k) hdl (i - k) leaf ps' (by omega) hl (fun d hd => hp d (by simp [hd])) hps' h1 with ⟨e, he, hle⟩ | hE
        · refine .inl ⟨e, ?_, hle⟩
          rw [List.getElem?_drop, show k + (i - k) = i by omega] at he
          exact he
        · exact .inr (hE.mono (fun x hx => by simp [hx]) (fun x hx => by rw [hrows]; simp [hx]))
      · exact .inr ⟨_, by simp, _, by rw [hrows]; simp, hx.1, hx.2⟩
  · obtain rfl : N = 1 := by omega
    obtain rfl : i = 0 := by omega
    have e0 : wayF 0 1 = [] := by rw [wayF]; rfl
    rw [e0] at h
    match es, hN with
    | [e], _ =>
      refine .inl ⟨e, rfl, ?_⟩
      have h1 : climb1 leaf [] ps = leaf := by cases ps <;> rfl
      rw [h1] at h
      rw [h]
      exact root_one _ _ _
/-- THE LAW OF GROWTHS. -/
theorem growth_law : ∀ (N : Nat) (es : List (List Int)), es.length = N → ∀ (m : Nat) (b : Bool) (s : List Int) (ps : List (List Int)), 0 < m → m ≤ N → s.length = 32 → (∀ d ∈ ps, d.length = 32) → ps.length = (gwayF m N b).1.length →
    (climb2 (s, s) (gwayF m N b).1 ps).2 = brootF (es.map leafF) → (climb2 (s, s) (gwayF m N b).1 ps).1 = brootF ((es.take m).map leafF) ∨ Exc (gupRows (s, s) (gwayF m N b).1 ps) (rowsF es) := by
  intro N
  induction N using Nat.strongRecOn with
  | _ N ih =>
  intro es hN m b s ps hm0 hmN hl hp hps h
  by_cases he : m = N
  · have e0 : (gwayF m N b).1 = [] := by rw [gwayF, if_pos he]
    rw [e0] at h ⊢
    left
    have h1 : climb2 (s, s) [] ps = (s, s) := by cases ps <;> rfl
    rw [h1] at h ⊢
    rw [List.take_of_length_le (by omega)]
    exact h
  · have h2 : 2 ≤ N := by omega
    have s1 := spl_lt h2
    have s2 := spl_pos N
    have hr := broot_split es (by omega)
    have hrows := rowsF_two es (by omega)
    rw [hN] at hr hrows
    have hsame := fun h1 => spl_same h2 h1 hmN
    obtain ⟨k, hk⟩ : ∃ k, k = spl N := ⟨_, rfl⟩
    rw [← hk] at hr hrows s1 s2 hsame
    have e0 : (gwayF m N b).1 = if m ≤ k then (gwayF m k b).1 ++ [true] else (gwayF (m - k) (N - k) false).1 ++ [false] := by
      rw [gwayF, if_neg he, dif_pos h2, hk]; split <;> rfl
    have ht : (es.take k).length = k := by rw [List.length_take]; omega
    have hdl : (es.drop k).length = N - k := by rw [List.length_drop]; omega
    by_cases hik : m ≤ k
    · rw [if_pos hik] at e0
      rw [e0] at hps h ⊢
      rw [List.length_append] at hps
      obtain ⟨ps', d, rfl, hps'⟩ := snoc_of ps _ hps
      rw [climb2_snoc _ _ _ _ _ hps'.symm, if_pos rfl, hr] at h
      rw [climb2_snoc _ _ _ _ _ hps'.symm, gupRows_snoc _ _ _ _ _ hps'.symm, if_pos rfl, if_pos rfl]
      have hlen := climb2_len (s, s) (gwayF m k b).1 ps' hl hl
      rcases pair_step hlen.2 (broot_len _) h with ⟨h1, _⟩ | hx
      · rcases ih k s1 (es.take k) ht m b s ps' hm0 hik hl (fun d hd => hp d (by simp [hd])) hps' h1 with hle | hE
        · refine .inl ?_
          rw [List.take_take, Nat.min_eq_left hik] at hle
          exact hle
        · exact .inr (hE.mono (fun x hx => by simp [hx]) (fun x hx => by rw [hrows]; simp [hx]))
      · exact .inr ⟨_, by simp, _, by rw [hrows]; simp, hx.1, hx.2⟩
    · rw [if_neg hik] at e0
      rw [e0] at hps h ⊢
      rw [List.length_append] at hps
      obtain ⟨ps', d, rfl, hps'⟩ := snoc_of ps _ hps
      rw [climb2_snoc _ _ _ _ _ hps'.symm, if_neg (by decide), hr] at h
      rw [climb2_snoc _ _ _ _ _ hps'.symm, gupRows_snoc _ _ _ _ _ hps'.symm, if_neg (by decide), if_neg (by decide)]
      rcases pair_step (hp d (by simp)) (broot_len _) h with ⟨h0, h1⟩ | hx
      · rcases ih (N - k) (by omega) (es.drop k) hdl (m - k) false s ps' (by omega) (by omega) hl (fun d hd => hp d (by simp [hd])) hps' h1 with hle | hE
        · refine .inl ?_
          have hm2 : (es.take m).length = m := by rw [List.length_take]; omega
          have hsp := broot_split (es.take m) (by omega)
          rw [hm2, hsame (by omega), List.take_take, Nat.min_eq_left (by omega), List.drop_take] at hsp
          show pairF d _ = _
          rw [hsp, hle, h0]
        · exact .inr (hE.mono (fun x hx => by simp [hx]) (fun x hx => by rw [hrows]; simp [hx]))
      · exact .inr ⟨_, by simp, _, by rw [hrows]; simp, hx.1, hx.2⟩
end Go.Book
