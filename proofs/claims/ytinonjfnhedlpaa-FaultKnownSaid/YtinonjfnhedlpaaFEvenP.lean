/-
  Plain: what is flat has the same numbers; the list that the law FaultEven makes is the flat one.
-/
import Derived.Test.YtinonjfnhedlpaaFFlatW
import Derived.Test.YtinonjfnhedlpaaFIsW
set_option linter.unusedSimpArgs false
namespace Go.Fault
open Go Go.RowKit Go.Aff
/-- The number of a Spot, of a Trail. -/
def VT.within : VT → Option Int
  | .spot n _ => some n
  | .trail n _ => some n
  | _ => none
/-- Behind each Spot, each Trail comes its number. -/
def okI : List (Nat × VT) → Prop
  | [] => True
  | p :: l => (∀ n, p.2.within = some n → ∃ l', l = (p.1 + 1, .num n) :: l') ∧ okI l
theorem okI_append {a b : List (Nat × VT)} (ha : okI a) (hb : okI b) : okI (a ++ b) := by
  induction a with
  | nil => exact hb
  | cons p a ih =>
    refine ⟨fun n hn => ?_, ih ha.2⟩
    obtain ⟨l', hl⟩ := ha.1 n hn
    exact ⟨l' ++ b, by rw [hl]; rfl⟩
theorem okI_flatten {L : List (List (Nat × VT))} (h : ∀ l, l ∈ L → okI l) : okI L.flatten := by
  induction L with
  | nil => exact trivial
  | cons l L ih => exact okI_append (h l (List.mem_cons_self ..)) (ih fun x hx => h x (List.mem_cons_of_mem _ hx))
theorem VT.items_ok (t : VT) : ∀ d, okI (t.items d) := by
  induction t using VT.ind with
  | h5 b wd e ih =>
    intro d
    simp only [VT.items]
    refine ⟨fun n hn => by simp [VT.within] at hn, ?_⟩
    split
    · exact trivial
    · exact ih (d + 1)
  | h6 A c l ih =>
    intro d
    simp only [VT.items]
    refine ⟨fun n hn => by simp [VT.within] at hn, okI_flatten fun x hx => ?_⟩
    obtain ⟨y, hy, rfl⟩ := List.mem_map.1 hx
    exact ih y hy (d + 1)
  | h2 n a => intro d; simp only [VT.items]; exact ⟨fun k hk => ⟨[], by simp [VT.within] at hk; rw [hk]⟩, ⟨fun k hk => by simp [VT.within] at hk, trivial⟩⟩
  | h3 n s => intro d; simp only [VT.items]; exact ⟨fun k hk => ⟨[], by simp [VT.within] at hk; rw [hk]⟩, ⟨fun k hk => by simp [VT.within] at hk, trivial⟩⟩
  | _ => intro d; simp only [VT.items]; exact ⟨fun k hk => by simp [VT.within] at hk, trivial⟩
theorem okI_at {l : List (Nat × VT)} (h : okI l) : ∀ (i : Nat) (p : Nat × VT) (n : Int), l[i]? = some p → p.2.within = some n → l[i + 1]? = some (p.1 + 1, .num n) := by
  induction l with
  | nil => intro i p n h; cases h
  | cons q l ih =>
    intro i p n hi hn
    cases i with
    | zero =>
      simp only [List.getElem?_cons_zero, Option.some.injEq] at hi
      subst hi
      obtain ⟨l', hl⟩ := h.1 n hn
      rw [hl]
      rfl
    | succ i =>
      simp only [List.getElem?_cons_succ] at hi ⊢
      exact ih h.2 i p n hi hn
/-- The same numbers. -/
theorem fold_inT (n : Int) (k : Nat) : ∀ (l : List (Nat × VT)) (acc : List VT), l.length ≤ k → okI l → (∀ p, p ∈ l → 1 ≤ p.1) → (l.foldl flatS (acc, 0)).1.any (fun x => inT n x) = (acc.any (fun x => inT n x) || l.any fun p => isNum n p.2) := by
  induction k with
  | zero =>
    intro l acc hl _ _
    obtain rfl : l = [] := List.eq_nil_of_length_eq_zero (by omega)
    simp
  | succ k ih =>
    intro l acc hl hok hd
    cases l with
    | nil => simp
    | cons p l =>
      obtain ⟨d, x⟩ := p
      simp only [List.length_cons] at hl
      have hd1 := hd (d, x) (List.mem_cons_self ..)
      have hdl : ∀ p, p ∈ l → 1 ≤ p.1 := fun p hp => hd p (List.mem_cons_of_mem _ hp)
      rw [List.foldl_cons, List.any_cons]
      cases x with
      | spot m a =>
        obtain ⟨l', rfl⟩ := hok.1 m rfl
        simp only [List.length_cons] at hl
        rw [List.foldl_cons, List.any_cons]
        have e1 : flatS (flatS (acc, 0) (d, VT.spot m a)) (d + 1, VT.num m) = (acc ++ [.spot m a], 0) := by simp [flatS]
        simp only at e1 ⊢
        rw [e1, ih l' _ (by omega) hok.2.2 (fun p hp => hdl p (List.mem_cons_of_mem _ hp)), List.any_append]
        simp [inT, isNum, Bool.or_assoc]
      | trail m s =>
        obtain ⟨l', rfl⟩ := hok.1 m rfl
        simp only [List.length_cons] at hl
        rw [List.foldl_cons, List.any_cons]
        have e1 : flatS (flatS (acc, 0) (d, VT.trail m s)) (d + 1, VT.num m) = (acc ++ [.trail m s], 0) := by simp [flatS]
        simp only at e1 ⊢
        rw [e1, ih l' _ (by omega) hok.2.2 (fun p hp => hdl p (List.mem_cons_of_mem _ hp)), List.any_append]
        simp [inT, isNum, Bool.or_assoc]
      | num m =>
        have e1 : flatS (acc, 0) (d, VT.num m) = (acc ++ [.num m], 0) := by
          simp only [flatS]
          rw [if_neg (by simp at hd1; omega)]
        rw [e1, ih l _ (by omega) hok.2 hdl, List.any_append]
        simp [inT, isNum, Bool.or_assoc]
      | nil => rw [show flatS (acc, 0) (d, VT.nil) = (acc, 0) from rfl, ih l _ (by omega) hok.2 hdl]; simp [isNum]
      | gone => rw [show flatS (acc, 0) (d, VT.gone) = (acc, 0) from rfl, ih l _ (by omega) hok.2 hdl]; simp [isNum]
      | note b wd e => rw [show flatS (acc, 0) (d, VT.note b wd e) = (acc, 0) from rfl, ih l _ (by omega) hok.2 hdl]; simp [isNum]
      | all A c l0 => rw [show flatS (acc, 0) (d, VT.all A c l0) = (acc, 0) from rfl, ih l _ (by omega) hok.2 hdl]; simp [isNum]
theorem flat_inT (n : Int) (t : VT) : inT n (flatT (flatL (t.items 1)).1) = inT n t := by
  have h1 := fold_inT n _ (t.items 1) [] (Nat.le_refl _) (t.items_ok 1) (fun p hp => (t.items_deep 1 p hp).1)
  rw [inT_items n t 1] at h1
  simp only [List.any_nil, Bool.false_or] at h1
  rw [← h1]
  show _ = ((flatL (t.items 1)).1).any fun x => inT n x
  generalize (flatL (t.items 1)).1 = L
  match L with
  | [] => simp [flatT, inT]
  | [x] => simp [flatT]
  | x :: y :: L => simp [flatT, inT, Function.comp]
/-- How the flat list goes on from a place. -/
def isWithin (p : Nat × VT) : Int := match p.2.within with
  | some _ => (p.1 : Int) + 1
  | none => 0
theorem flatS_snd (s : List VT × Int) (p : Nat × VT) : (flatS s p).2 = isWithin p := by
  obtain ⟨d, t⟩ := p
  cases t <;> simp only [flatS, isWithin, VT.within]
  split <;> rfl
theorem flatL_take (l : List (Nat × VT)) (i : Nat) (p : Nat × VT) (h : l[i]? = some p) : flatL (l.take (i + 1)) = flatS (flatL (l.take i)) p := by
  rw [List.take_add_one, h]
  exact flatL_snoc _ _
theorem flatL_at0 (l : List (Nat × VT)) : flatL (l.take 0) = ([], 0) := rfl
theorem flatL_snd (l : List (Nat × VT)) (i : Nat) (p : Nat × VT) (h : l[i]? = some p) : (flatL (l.take (i + 1))).2 = isWithin p := by rw [flatL_take l i p h, flatS_snd]
end Go.Fault
