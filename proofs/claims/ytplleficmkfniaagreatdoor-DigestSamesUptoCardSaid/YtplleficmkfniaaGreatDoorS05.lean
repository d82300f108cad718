/- Texts. -/
import Derived.Test.YtplleficmkfniaaGreatDoorS04
import Derived.Test.YtplleficmkfniaaGreatDoorCards
import Derived.Test.YtplleficmkfniaaGreatDoorTie
import Derived.ProofKit
import Derived.Deep.DeepHandedRow
import Derived.Lib.LaidTab
import Derived.Stop.LaidErr
set_option linter.unusedSimpArgs false
set_option maxRecDepth 100000
set_option maxHeartbeats 4000000
namespace Go.Proofs.YtplleficmkfniaaGreatDoor
open Go Go.RowKit Go.Sha Go.Aff
theorem own : ownKnob Tryz.prog.godebug = none := by kernel_rfl
theorem laidOut : laidOutB Tryz.prog = true := by kernel_rfl
theorem gFirst : Tryz.prog.globalNamed "affidavit/sha.first" = some 1 := by kernel_rfl
theorem gConst : Tryz.prog.globalNamed "affidavit/sha.constants" = some 3 := by kernel_rfl
theorem gFirstT : (Tryz.prog.globals[1]?).map (·.type) = some 254 := by kernel_rfl
theorem gConstT : (Tryz.prog.globals[3]?).map (·.type) = some 346 := by kernel_rfl
theorem cellsU32 : Tryz.prog.cellsOf 253 = 1 := by kernel_rfl
theorem cells8U32 : Tryz.prog.cellsOf 254 = 8 := by kernel_rfl
theorem cells64U32 : Tryz.prog.cellsOf 346 = 64 := by kernel_rfl
def fillCells (cs : Array Value) : Obj → Obj
 | .cells _ t frozen => .cells cs t frozen
 | o => o
end Go.Proofs.YtplleficmkfniaaGreatDoor
namespace Go.Aff
open Go Go.RowKit Go.ChangeShapes Go.WideShapes Go.Deep
section
variable {H : Type} {enc : TypeId × Value → H} {P : Program} {w : World} {base : Nat} {held : Bool}
end
end Go.Aff
namespace Go.Proofs.YtplleficmkfniaaGreatDoor
open Go Go.RowKit Go.Sha Go.Aff
section
variable {H : Type}
theorem bulk_mem : ∀ (l : List (DataW H)) (i : Nat) (d : DataW H), l[i]? = some d → Rows.uptoBulk d ≤ Rows.uptoBulkAll l
 | [], _, _, h => by simp at h
 | x :: l, 0, d, h => by
  have e : x = d := by simpa using h
  subst e
  unfold Rows.uptoBulkAll; omega
 | x :: l, i + 1, d, h => by
  have := bulk_mem l i d (by simpa using h)
  unfold Rows.uptoBulkAll; omega
theorem small_at {ds : List (DataW H)} (h : Rows.uptoSmall H ds = true) {i : Nat} {d : DataW H} (hi : ds[i]? = some d) : Rows.uptoBulk d ≤ 1048576 := by
 have h1 := of_decide_eq_true h
 have h2 := bulk_mem ds i d hi
 omega
end
end Go.Proofs.YtplleficmkfniaaGreatDoor
namespace Go.Utf
def formF (c : Int) : Int × Int × Int :=
 if c < 128 then (1, 0, 0) else if c < 194 then (0, 0, 0) else if c < 224 then (2, 128, 191) else if c = 224 then (3, 160, 191) else if c = 237 then (3, 128, 159)
 else if c < 240 then (3, 128, 191) else if c = 240 then (4, 144, 191) else if c < 244 then (4, 128, 191) else if c = 244 then (4, 128, 143) else (0, 0, 0)
def mayF (f : Int × Int × Int) (i : Int) (c : Int) : Bool := if i = 1 then decide (c ≥ f.2.1) && decide (c ≤ f.2.2) else decide (c ≥ 128) && decide (c ≤ 191)
def takeF (h : List Int) (c : Int) : Option (List Int) :=
 match h with
 | [] => if (formF c).1 = 0 then none else if (formF c).1 > 1 then some [c] else some []
 | x :: r => if mayF (formF x) (r.length + 1) c then (if ((r.length : Int) + 1) + 1 = (formF x).1 then some [] else some (x :: r ++ [c])) else none
def feedF : List Int → List Int → Option (List Int)
 | h, [] => some h
 | h, c :: cs => match takeF h c with
  | none => none
  | some h' => feedF h' cs
def rightF (bs : List Int) : Bool := feedF [] bs == some []
def wideR (c : Int) : Int := if c < 128 then 1 else if c ≥ 194 ∧ c ≤ 223 then 2 else if c ≥ 224 ∧ c ≤ 239 then 3 else if c ≥ 240 ∧ c ≤ 244 then 4 else 0
def secondR (c d : Int) : Bool := if d < 128 ∨ d > 191 then false else if c = 224 then decide (d ≥ 160) else if c = 237 then decide (d ≤ 159) else if c = 240 then decide (d ≥ 144) else if c = 244 then decide (d ≤ 143) else true
def contR (d : Int) : Bool := !(decide (d < 128) || decide (d > 191))
def atR : List Int → Option (Int × Nat)
 | [] => none
 | c :: l =>
  if wideR c = 1 then some (c, 1)
  else if wideR c = 2 then (match l with
   | d :: _ => if secondR c d && contR d then some (64 * (c - 192) + d - 128, 2) else none
   | _ => none)
  else if wideR c = 3 then (match l with
   | d :: e :: _ => if secondR c d && contR d && contR e then some (64 * (64 * (c - 224) + d - 128) + e - 128, 3) else none
   | _ => none)
  else if wideR c = 4 then (match l with
   | d :: e :: f :: _ => if secondR c d && contR d && contR e && contR f then some (64 * (64 * (64 * (c - 240) + d - 128) + e - 128) + f - 128, 4) else none
   | _ => none)
  else none
theorem atR_len {l : List Int} {r : Int} {n : Nat} (h : atR l = some (r, n)) : 1 ≤ n ∧ n ≤ 4 ∧ n ≤ l.length := by
 unfold atR at h
 repeat' split at h
 all_goals first | (cases h; done) | (simp at h; simp; omega)
def runesR : Nat → List Int → List Int × Bool
 | 0, l => ([], l.isEmpty)
 | k + 1, l => match l with
  | [] => ([], true)
  | c :: r => match atR (c :: r) with
   | none => ([], false)
   | some (x, n) => ((x :: (runesR k ((c :: r).drop n)).1), (runesR k ((c :: r).drop n)).2)
def rightR (l : List Int) : Bool := (runesR l.length l).2
theorem form_wide (c : Int) : (formF c).1 = wideR c := by
 unfold formF wideR
 repeat' split
 all_goals first | rfl | omega
theorem may_second (c d : Int) (h : 2 ≤ wideR c) : mayF (formF c) 1 d = (secondR c d && contR d) := by
 unfold formF mayF secondR contR
 unfold wideR at h
 rw [if_pos rfl]
 have hx : ∀ (p q : Bool), (p = true ↔ q = true) → p = q := by decide
 apply hx
 repeat' split at h
 all_goals first | (exfalso; omega) | skip
 all_goals (repeat' split) <;> (simp; try omega)
theorem may_cont (f : Int × Int × Int) (i d : Int) (h : i ≠ 1) : mayF f i d = contR d := by
 unfold mayF contR
 rw [if_neg h]
 cases h1 : decide (d < 128) <;> cases h2 : decide (d > 191) <;> simp at h1 h2 <;> simp <;> omega
theorem feed_cons (h : List Int) (c : Int) (cs : List Int) : feedF h (c :: cs) = match takeF h c with
  | none => none
  | some h' => feedF h' cs := rfl
theorem take_nil (c : Int) : takeF [] c = if wideR c = 0 then none else if wideR c > 1 then some [c] else some [] := by
 unfold takeF
 rw [form_wide]
theorem take_cons (x : Int) (r : List Int) (c : Int) : takeF (x :: r) c = if mayF (formF x) (r.length + 1) c then (if ((r.length : Int) + 1) + 1 = (formF x).1 then some [] else some (x :: r ++ [c])) else none := rfl
theorem take_one (c d : Int) (h : 2 ≤ wideR c) : takeF [c] d = if secondR c d && contR d then (if wideR c = 2 then some [] else some [c, d]) else none := by
 rw [take_cons, show ((([] : List Int).length : Int) + 1) = 1 from rfl, may_second c d h, form_wide]
 have : ((1 : Int) + 1 = wideR c) ↔ (wideR c = 2) := by omega
 simp only [this, List.cons_append, List.nil_append]
theorem take_two (c d e : Int) : takeF [c, d] e = if contR e then (if wideR c = 3 then some [] else some [c, d, e]) else none := by
 rw [take_cons, show ((([d] : List Int).length : Int) + 1) = 2 from rfl, may_cont _ _ _ (by decide), form_wide]
 have : ((2 : Int) + 1 = wideR c) ↔ (wideR c = 3) := by omega
 simp only [this, List.cons_append, List.nil_append]
theorem take_three (c d e f : Int) : takeF [c, d, e] f = if contR f then (if wideR c = 4 then some [] else some [c, d, e, f]) else none := by
 rw [take_cons, show ((([d, e] : List Int).length : Int) + 1) = 3 from rfl, may_cont _ _ _ (by decide), form_wide]
 have : ((3 : Int) + 1 = wideR c) ↔ (wideR c = 4) := by omega
 simp only [this, List.cons_append, List.nil_append]
theorem wide_cases (c : Int) : wideR c = 0 ∨ wideR c = 1 ∨ wideR c = 2 ∨ wideR c = 3 ∨ wideR c = 4 := by
 unfold wideR
 repeat' split
 all_goals simp
theorem feed_at (c : Int) (l : List Int) : (feedF [] (c :: l) == some []) = match atR (c :: l) with
  | none => false
  | some (_, n) => feedF [] ((c :: l).drop n) == some [] := by
 rcases wide_cases c with h | h | h | h | h
 ·simp [feed_cons, take_nil, atR, h]
 ·simp [feed_cons, take_nil, atR, h]
 ·match l with
  | [] => simp [feed_cons, take_nil, atR, h, feedF]
  | d :: l =>
   rw [feed_cons, take_nil]
   simp only [h]
   simp only [show ¬ ((2 : Int) = 0) by decide, show (2 : Int) > 1 by decide, if_true, if_false]
   rw [feed_cons, take_one c d (by omega)]
   simp only [atR, h]
   by_cases hs : (secondR c d && contR d) = true
   ·simp [hs]
   ·simp [hs]
 ·match l with
  | [] => simp [feed_cons, take_nil, atR, h, feedF]
  | [d] =>
   rw [feed_cons, take_nil]
   simp only [h]
   simp only [show ¬ ((3 : Int) = 0) by decide, show (3 : Int) > 1 by decide, if_true, if_false]
   rw [feed_cons, take_one c d (by omega)]
   simp only [atR, h]
   by_cases hs : (secondR c d && contR d) = true
   ·simp [hs, feedF]
   ·simp [hs]
  | d :: e :: l =>
   rw [feed_cons, take_nil]
   simp only [h]
   simp only [show ¬ ((3 : Int) = 0) by decide, show (3 : Int) > 1 by decide, if_true, if_false]
   rw [feed_cons, take_one c d (by omega)]
   simp only [atR, h]
   by_cases hs : (secondR c d && contR d) = true
   ·simp only [hs, if_true, show ¬ ((3 : Int) = 2) by decide, if_false, show ¬ ((3 : Int) = 1) by decide, Bool.true_and]
    rw [feed_cons, take_two]
    by_cases he : contR e = true
    ·simp [he, h]
    ·simp [he]
   ·simp [hs]
 ·match l with
  | [] => simp [feed_cons, take_nil, atR, h, feedF]
  | [d] =>
   rw [feed_cons, take_nil]
   simp only [h]
   simp only [show ¬ ((4 : Int) = 0) by decide, show (4 : Int) > 1 by decide, if_true, if_false]
   rw [feed_cons, take_one c d (by omega)]
   simp only [atR, h]
   by_cases hs : (secondR c d && contR d) = true
   ·simp [hs, feedF]
   ·simp [hs]
  | [d, e] =>
   rw [feed_cons, take_nil]
   simp only [h]
   simp only [show ¬ ((4 : Int) = 0) by decide, show (4 : Int) > 1 by decide, if_true, if_false]
   rw [feed_cons, take_one c d (by omega)]
   simp only [atR, h]
   by_cases hs : (secondR c d && contR d) = true
   ·simp only [hs, if_true, show ¬ ((4 : Int) = 2) by decide, if_false, show ¬ ((4 : Int) = 1) by decide, show ¬ ((4 : Int) = 3) by decide]
    rw [feed_cons, take_two]
    by_cases he : contR e = true
    ·simp [he, h, feedF]
    ·simp [he]
   ·simp [hs]
  | d :: e :: f :: l =>
   rw [feed_cons, take_nil]
   simp only [h]
   simp only [show ¬ ((4 : Int) = 0) by decide, show (4 : Int) > 1 by decide, if_true, if_false]
   rw [feed_cons, take_one c d (by omega)]
   simp only [atR, h]
   by_cases hs : (secondR c d && contR d) = true
   ·simp only [hs, if_true, show ¬ ((4 : Int) = 2) by decide, if_false, show ¬ ((4 : Int) = 1) by decide, show ¬ ((4 : Int) = 3) by decide, Bool.true_and]
    rw [feed_cons, take_two]
    by_cases he : contR e = true
    ·simp only [he, h, if_true, show ¬ ((4 : Int) = 3) by decide, if_false, Bool.true_and]
     rw [feed_cons, take_three]
     by_cases hf : contR f = true
     ·simp [hf, h]
     ·simp [hf]
    ·simp [he]
   ·simp [hs]
theorem right_runes : ∀ (k : Nat) (l : List Int), l.length ≤ k → (runesR k l).2 = (feedF [] l == some [])
 | 0, l, h => by
  have : l = [] := List.length_eq_zero_iff.1 (by omega)
  subst this
  rfl
 | k + 1, [], _ => rfl
 | k + 1, c :: l, h => by
  rw [feed_at c l]
  unfold runesR
  cases ha : atR (c :: l) with
  | none => simp only [ha]
  | some p =>
   obtain ⟨x, n⟩ := p
   have hn := atR_len ha
   simp only [ha]
   exact right_runes k ((c :: l).drop n) (by simp at h ⊢; omega)
theorem right_eq (l : List Int) : rightF l = rightR l := (right_runes l.length l (Nat.le_refl _)).symm
def highF (c : Int) : Bool := decide (c ≥ 240)
def cmpB : List Int → List Int → Int
 | [], [] => 0
 | [], _ :: _ => -1
 | _ :: _, [] => 1
 | x :: a, y :: b => if x = y then cmpB a b else if highF x && !highF y && decide (y ≥ 238) then -1 else if highF y && !highF x && decide (x ≥ 238) then 1 else if x < y then -1 else 1
def unitsOf (r : Int) : List Int := if r < 65536 then [r] else [55296 + (r - 65536) / 1024, 56320 + (r - 65536) % 1024]
def unitsR (l : List Int) : List Int := ((runesR l.length l).1.map unitsOf).flatten
def lexR : List Int → List Int → Int
 | [], [] => 0
 | [], _ :: _ => -1
 | _ :: _, [] => 1
 | x :: a, y :: b => if x < y then -1 else if x > y then 1 else lexR a b
theorem lex_self_append : ∀ (p a b : List Int), lexR (p ++ a) (p ++ b) = lexR a b
 | [], _, _ => rfl
 | x :: p, a, b => by
  show (if x < x then -1 else if x > x then 1 else lexR (p ++ a) (p ++ b)) = _
  rw [if_neg (by omega), if_neg (by omega)]
  exact lex_self_append p a b
theorem cmpB_self_append : ∀ (p a b : List Int), cmpB (p ++ a) (p ++ b) = cmpB a b
 | [], _, _ => rfl
 | x :: p, a, b => by
  show (if x = x then cmpB (p ++ a) (p ++ b) else _) = _
  rw [if_pos rfl]
  exact cmpB_self_append p a b
inductive RightL : List Int → List Int → Prop
 | nil : RightL [] []
 | cons {l : List Int} {r : Int} {n : Nat} {us : List Int} (h : atR l = some (r, n)) (ht : RightL (l.drop n) us) : RightL l (unitsOf r ++ us)
theorem right_l : ∀ (k : Nat) (l : List Int), l.length ≤ k → (runesR k l).2 = true → RightL l (((runesR k l).1.map unitsOf).flatten)
 | 0, l, h, _ => by
  have : l = [] := List.length_eq_zero_iff.1 (by omega)
  subst this
  exact .nil
 | k + 1, [], _, _ => .nil
 | k + 1, c :: l, h, ht => by
  cases ha : atR (c :: l) with
  | none => simp [runesR, ha] at ht
  | some p =>
   obtain ⟨x, n⟩ := p
   have hn := atR_len ha
   simp only [runesR, ha] at ht ⊢
   simp only [List.map_cons, List.flatten_cons]
   exact .cons ha (right_l k _ (by simp at h ⊢; omega) ht)
theorem right_units {l : List Int} (h : rightR l = true) : RightL l (unitsR l) := right_l l.length l (Nat.le_refl _) h
theorem at_forms {l : List Int} {r : Int} {n : Nat} (h : atR l = some (r, n)) :
  (∃ c t, l = c :: t ∧ n = 1 ∧ c < 128 ∧ r = c) ∨
  (∃ c d t, l = c :: d :: t ∧ n = 2 ∧ 194 ≤ c ∧ c ≤ 223 ∧ 128 ≤ d ∧ d ≤ 191 ∧ r = 64 * (c - 192) + d - 128) ∨
  (∃ c d e t, l = c :: d :: e :: t ∧ n = 3 ∧ 224 ≤ c ∧ c ≤ 239 ∧ 128 ≤ d ∧ d ≤ 191 ∧ 128 ≤ e ∧ e ≤ 191 ∧ (c = 224 → 160 ≤ d) ∧ (c = 237 → d ≤ 159) ∧ r = 64 * (64 * (c - 224) + d - 128) + e - 128) ∨
  (∃ c d e f t, l = c :: d :: e :: f :: t ∧ n = 4 ∧ 240 ≤ c ∧ c ≤ 244 ∧ 128 ≤ d ∧ d ≤ 191 ∧ 128 ≤ e ∧ e ≤ 191 ∧ 128 ≤ f ∧ f ≤ 191 ∧ (c = 240 → 144 ≤ d) ∧ (c = 244 → d ≤ 143) ∧ r = 64 * (64 * (64 * (c - 240) + d - 128) + e - 128) + f - 128) := by
 have hw : ∀ c : Int, (wideR c = 1 → c < 128) ∧ (wideR c = 2 → 194 ≤ c ∧ c ≤ 223) ∧ (wideR c = 3 → 224 ≤ c ∧ c ≤ 239) ∧ (wideR c = 4 → 240 ≤ c ∧ c ≤ 244) := by
  intro c
  unfold wideR
  repeat' split
  all_goals (simp; try omega)
 have hs : ∀ c d : Int, secondR c d = true → 128 ≤ d ∧ d ≤ 191 ∧ (c = 224 → 160 ≤ d) ∧ (c = 237 → d ≤ 159) ∧ (c = 240 → 144 ≤ d) ∧ (c = 244 → d ≤ 143) := by
  intro c d
  unfold secondR
  repeat' split
  all_goals (simp; try omega)
 have hc : ∀ d : Int, contR d = true → 128 ≤ d ∧ d ≤ 191 := by
  intro d
  unfold contR
  simp
 match l with
 | [] => cases h
 | c :: t =>
  rcases wide_cases c with h1 | h1 | h1 | h1 | h1
  ·simp [atR, h1] at h
  ·simp [atR, h1] at h
   have := (hw c).1 h1
   exact .inl ⟨c, t, rfl, h.2.symm, this, h.1.symm⟩
  ·match t with
   | [] => simp [atR, h1] at h
   | d :: t =>
    by_cases h2 : (secondR c d && contR d) = true
    ·simp [atR, h1, h2] at h
     have := (hw c).2.1 h1
     simp at h2
     have h3 := hs c d h2.1
     exact .inr (.inl ⟨c, d, t, rfl, h.2.symm, this.1, this.2, h3.1, h3.2.1, h.1.symm⟩)
    ·simp [atR, h1, h2] at h
  ·match t with
   | [] => simp [atR, h1] at h
   | [_] => simp [atR, h1] at h
   | d :: e :: t =>
    by_cases h2 : (secondR c d && contR d && contR e) = true
    ·simp [atR, h1, h2] at h
     have := (hw c).2.2.1 h1
     simp at h2
     have h3 := hs c d h2.1.1
     have h4 := hc e h2.2
     exact .inr (.inr (.inl ⟨c, d, e, t, rfl, h.2.symm, this.1, this.2, h3.1, h3.2.1, h4.1, h4.2, h3.2.2.1, h3.2.2.2.1, h.1.symm⟩))
    ·simp [atR, h1, h2] at h
  ·match t with
   | [] => simp [atR, h1] at h
   | [_] => simp [atR, h1] at h
   | [_, _] => simp [atR, h1] at h
   | d :: e :: f :: t =>
    by_cases h2 : (secondR c d && contR d && contR e && contR f) = true
    ·simp [atR, h1, h2] at h
     have := (hw c).2.2.2 h1
     simp at h2
     have h3 := hs c d h2.1.1.1
     have h4 := hc e h2.1.2
     have h5 := hc f h2.2
     exact .inr (.inr (.inr ⟨c, d, e, f, t, rfl, h.2.symm, this.1, this.2, h3.1, h3.2.1, h4.1, h4.2, h5.1, h5.2, h3.2.2.2.2.1, h3.2.2.2.2.2, h.1.symm⟩))
    ·simp [atR, h1, h2] at h
def difB (x y : Int) : Int := if highF x && !highF y && decide (y ≥ 238) then -1 else if highF y && !highF x && decide (x ≥ 238) then 1 else if x < y then -1 else 1
theorem cmpB_eq {x y : Int} (a b : List Int) (h : x = y) : cmpB (x :: a) (y :: b) = cmpB a b := by
 show (if x = y then _ else _) = _
 rw [if_pos h]
theorem cmpB_ne {x y : Int} (a b : List Int) (h : x ≠ y) : cmpB (x :: a) (y :: b) = difB x y := by
 show (if x = y then _ else _) = _
 rw [if_neg h]
 rfl
theorem difB_low {x y : Int} (hx : x < 240) (hy : y < 240) : difB x y = if x < y then -1 else 1 := by
 simp [difB, highF, show ¬ (240 ≤ x) by omega, show ¬ (240 ≤ y) by omega]
theorem difB_high {x y : Int} (hx : 240 ≤ x) (hy : 240 ≤ y) : difB x y = if x < y then -1 else 1 := by
 simp [difB, highF, hx, hy]
theorem difB_lh {x y : Int} (hx : x < 240) (hy : 240 ≤ y) : difB x y = if x < 238 then -1 else 1 := by
 by_cases h : x < 238
 ·simp [difB, highF, show ¬ (240 ≤ x) by omega, hy, show ¬ (238 ≤ x) by omega, h]
  omega
 ·simp [difB, highF, show ¬ (240 ≤ x) by omega, hy, show (238 ≤ x) by omega, h]
theorem difB_hl {x y : Int} (hx : 240 ≤ x) (hy : y < 240) : difB x y = if y < 238 then 1 else -1 := by
 by_cases h : y < 238
 ·simp [difB, highF, show ¬ (240 ≤ y) by omega, hx, show ¬ (238 ≤ y) by omega, h]
  omega
 ·simp [difB, highF, show ¬ (240 ≤ y) by omega, hx, show (238 ≤ y) by omega, h]
theorem units_low {r : Int} (h : r < 65536) (us : List Int) : unitsOf r ++ us = r :: us := by simp [unitsOf, h]
theorem units_high {r : Int} (h : 65536 ≤ r) (us : List Int) : unitsOf r ++ us = (55296 + (r - 65536) / 1024) :: (56320 + (r - 65536) % 1024) :: us := by simp [unitsOf, show ¬ r < 65536 by omega]
theorem lex_eq {x y : Int} (a b : List Int) (h : x = y) : lexR (x :: a) (y :: b) = lexR a b := by
 show (if x < y then _ else if x > y then _ else _) = _
 rw [if_neg (by omega), if_neg (by omega)]
theorem lex_lt {x y : Int} (a b : List Int) (h : x < y) : lexR (x :: a) (y :: b) = -1 := by
 show (if x < y then _ else if x > y then _ else _) = _
 rw [if_pos h]
theorem lex_gt {x y : Int} (a b : List Int) (h : y < x) : lexR (x :: a) (y :: b) = 1 := by
 show (if x < y then _ else if x > y then _ else _) = _
 rw [if_neg (by omega), if_pos h]
theorem lex_low {r s : Int} (h : r < 65536) (h2 : s < 65536) (us vs : List Int) (hne : r ≠ s) : lexR (unitsOf r ++ us) (unitsOf s ++ vs) = if r < s then -1 else 1 := by
 rw [units_low h, units_low h2]
 by_cases hl : r < s
 ·rw [lex_lt _ _ hl, if_pos hl]
 ·rw [lex_gt _ _ (by omega), if_neg hl]
theorem lex_high {r s : Int} (h : 65536 ≤ r) (h2 : 65536 ≤ s) (us vs : List Int) (hne : r ≠ s) : lexR (unitsOf r ++ us) (unitsOf s ++ vs) = if r < s then -1 else 1 := by
 rw [units_high h, units_high h2]
 by_cases hq : (r - 65536) / 1024 = (s - 65536) / 1024
 ·rw [lex_eq _ _ (by omega)]
  by_cases hl : r < s
  ·rw [lex_lt _ _ (by omega), if_pos hl]
  ·rw [lex_gt _ _ (by omega), if_neg hl]
 ·by_cases hl : r < s
  ·rw [lex_lt _ _ (by omega), if_pos hl]
  ·rw [lex_gt _ _ (by omega), if_neg hl]
theorem lex_lh {r s : Int} (h : r < 65536) (h2 : 65536 ≤ s) (h3 : s ≤ 1114111) (hr : r < 55296 ∨ 57344 ≤ r) (us vs : List Int) : lexR (unitsOf r ++ us) (unitsOf s ++ vs) = if r < 55296 then -1 else 1 := by
 rw [units_low h, units_high h2]
 by_cases hl : r < 55296
 ·rw [lex_lt _ _ (by omega), if_pos hl]
 ·rw [lex_gt _ _ (by omega), if_neg hl]
theorem lex_hl {r s : Int} (h : s < 65536) (h2 : 65536 ≤ r) (h3 : r ≤ 1114111) (hr : s < 55296 ∨ 57344 ≤ s) (us vs : List Int) : lexR (unitsOf r ++ us) (unitsOf s ++ vs) = if s < 55296 then 1 else -1 := by
 rw [units_low h, units_high h2]
 by_cases hl : s < 55296
 ·rw [lex_gt _ _ (by omega), if_pos hl]
 ·rw [lex_lt _ _ (by omega), if_neg hl]
theorem lex_same {r s : Int} (h : r = s) (us vs : List Int) : lexR (unitsOf r ++ us) (unitsOf s ++ vs) = lexR us vs := by
 subst h
 exact lex_self_append _ _ _
theorem if_congr_iff {p q : Prop} [Decidable p] [Decidable q] (h : p ↔ q) (x y : Int) : (if p then x else y) = if q then x else y := by
 by_cases hp : p
 ·rw [if_pos hp, if_pos (h.1 hp)]
 ·rw [if_neg hp, if_neg (fun hq => hp (h.2 hq))]
theorem units_ne (r : Int) (us : List Int) : ∃ x t, unitsOf r ++ us = x :: t := by
 by_cases h : r < 65536
 ·exact ⟨_, _, units_low h us⟩
 ·exact ⟨_, _, units_high (by omega) us⟩
theorem cmp_right {a ua : List Int} (ha : RightL a ua) : ∀ {b ub : List Int}, RightL b ub → cmpB a b = lexR ua ub := by
 induction ha with
 | nil =>
  intro b ub hb
  cases hb with
  | nil => rfl
  | cons h ht =>
   rename_i r n us
   obtain ⟨x, t, hx⟩ := units_ne r us
   rw [hx]
   have := atR_len h
   match b with
   | [] => simp at this; omega
   | _ :: _ => rfl
 | cons h ht ih =>
  rename_i a r n us
  intro b ub hb
  cases hb with
  | nil =>
   obtain ⟨x, t, hx⟩ := units_ne r us
   rw [hx]
   have := atR_len h
   match a with
   | [] => simp at this; omega
   | _ :: _ => rfl
  | cons h2 ht2 =>
   rename_i s m vs
   rcases at_forms h with ⟨c, t, rfl, rfl, q1, rfl⟩ | ⟨c, d, t, rfl, rfl, q1, q2, q3, q4, rfl⟩ | ⟨c, d, e, t, rfl, rfl, q1, q2, q3, q4, q5, q6, q7, q8, rfl⟩ | ⟨c, d, e, f, t, rfl, rfl, q1, q2, q3, q4, q5, q6, q7, q8, q9, q10, rfl⟩ <;>
   rcases at_forms h2 with ⟨c', t', rfl, rfl, p1, rfl⟩ | ⟨c', d', t', rfl, rfl, p1, p2, p3, p4, rfl⟩ | ⟨c', d', e', t', rfl, rfl, p1, p2, p3, p4, p5, p6, p7, p8, rfl⟩ | ⟨c', d', e', f', t', rfl, rfl, p1, p2, p3, p4, p5, p6, p7, p8, p9, p10, rfl⟩ <;>
   simp only [List.drop_succ_cons, List.drop_zero] at ht ht2 ih
   ·by_cases e1 : r = s
    ·rw [cmpB_eq _ _ e1, lex_same e1]; exact ih ht2
    ·rw [cmpB_ne _ _ e1, difB_low (by omega) (by omega), lex_low (by omega) (by omega) _ _ (by omega)]
   ·rw [cmpB_ne _ _ (by omega), difB_low (by omega) (by omega), lex_low (by omega) (by omega) _ _ (by omega)]; exact if_congr_iff (by omega) _ _
   ·rw [cmpB_ne _ _ (by omega), difB_low (by omega) (by omega), lex_low (by omega) (by omega) _ _ (by omega)]; exact if_congr_iff (by omega) _ _
   ·rw [cmpB_ne _ _ (by omega), difB_lh (by omega) (by omega), lex_lh (by omega) (by omega) (by omega) (by omega)]; exact if_congr_iff (by omega) _ _
   ·rw [cmpB_ne _ _ (by omega), difB_low (by omega) (by omega), lex_low (by omega) (by omega) _ _ (by omega)]; exact if_congr_iff (by omega) _ _
   ·by_cases e1 : c = c'
    ·rw [cmpB_eq _ _ e1]
     by_cases e2 : d = d'
     ·rw [cmpB_eq _ _ e2, lex_same (by omega)]; exact ih ht2
     ·rw [cmpB_ne _ _ e2, difB_low (by omega) (by omega), lex_low (by omega) (by omega) _ _ (by omega)]; exact if_congr_iff (by omega) _ _
    ·rw [cmpB_ne _ _ e1, difB_low (by omega) (by omega), lex_low (by omega) (by omega) _ _ (by omega)]; exact if_congr_iff (by omega) _ _
   ·rw [cmpB_ne _ _ (by omega), difB_low (by omega) (by omega), lex_low (by omega) (by omega) _ _ (by omega)]; exact if_congr_iff (by omega) _ _
   ·rw [cmpB_ne _ _ (by omega), difB_lh (by omega) (by omega), lex_lh (by omega) (by omega) (by omega) (by omega)]; exact if_congr_iff (by omega) _ _
   ·rw [cmpB_ne _ _ (by omega), difB_low (by omega) (by omega), lex_low (by omega) (by omega) _ _ (by omega)]; exact if_congr_iff (by omega) _ _
   ·rw [cmpB_ne _ _ (by omega), difB_low (by omega) (by omega), lex_low (by omega) (by omega) _ _ (by omega)]; exact if_congr_iff (by omega) _ _
   ·by_cases e1 : c = c'
    ·rw [cmpB_eq _ _ e1]
     by_cases e2 : d = d'
     ·rw [cmpB_eq _ _ e2]
      by_cases e3 : e = e'
      ·rw [cmpB_eq _ _ e3, lex_same (by omega)]; exact ih ht2
      ·rw [cmpB_ne _ _ e3, difB_low (by omega) (by omega), lex_low (by omega) (by omega) _ _ (by omega)]; exact if_congr_iff (by omega) _ _
     ·rw [cmpB_ne _ _ e2, difB_low (by omega) (by omega), lex_low (by omega) (by omega) _ _ (by omega)]; exact if_congr_iff (by omega) _ _
    ·rw [cmpB_ne _ _ e1, difB_low (by omega) (by omega), lex_low (by omega) (by omega) _ _ (by omega)]; exact if_congr_iff (by omega) _ _
   ·rw [cmpB_ne _ _ (by omega), difB_lh (by omega) (by omega), lex_lh (by omega) (by omega) (by omega) (by omega)]; exact if_congr_iff (by omega) _ _
   ·rw [cmpB_ne _ _ (by omega), difB_hl (by omega) (by omega), lex_hl (by omega) (by omega) (by omega) (by omega)]; exact if_congr_iff (by omega) _ _
   ·rw [cmpB_ne _ _ (by omega), difB_hl (by omega) (by omega), lex_hl (by omega) (by omega) (by omega) (by omega)]; exact if_congr_iff (by omega) _ _
   ·rw [cmpB_ne _ _ (by omega), difB_hl (by omega) (by omega), lex_hl (by omega) (by omega) (by omega) (by omega)]; exact if_congr_iff (by omega) _ _
   ·by_cases e1 : c = c'
    ·rw [cmpB_eq _ _ e1]
     by_cases e2 : d = d'
     ·rw [cmpB_eq _ _ e2]
      by_cases e3 : e = e'
      ·rw [cmpB_eq _ _ e3]
       by_cases e4 : f = f'
       ·rw [cmpB_eq _ _ e4, lex_same (by omega)]; exact ih ht2
       ·rw [cmpB_ne _ _ e4, difB_low (by omega) (by omega), lex_high (by omega) (by omega) _ _ (by omega)]; exact if_congr_iff (by omega) _ _
      ·rw [cmpB_ne _ _ e3, difB_low (by omega) (by omega), lex_high (by omega) (by omega) _ _ (by omega)]; exact if_congr_iff (by omega) _ _
     ·rw [cmpB_ne _ _ e2, difB_low (by omega) (by omega), lex_high (by omega) (by omega) _ _ (by omega)]; exact if_congr_iff (by omega) _ _
    ·rw [cmpB_ne _ _ e1, difB_high (by omega) (by omega), lex_high (by omega) (by omega) _ _ (by omega)]; exact if_congr_iff (by omega) _ _
theorem cmp_eq {a b : List Int} (ha : rightR a = true) (hb : rightR b = true) : cmpB a b = lexR (unitsR a) (unitsR b) := cmp_right (right_units ha) (right_units hb)
theorem lex_self : ∀ a : List Int, lexR a a = 0
 | [] => rfl
 | x :: a => by rw [lex_eq _ _ rfl]; exact lex_self a
theorem lex_range : ∀ a b : List Int, lexR a b = -1 ∨ lexR a b = 0 ∨ lexR a b = 1
 | [], [] => .inr (.inl rfl)
 | [], _ :: _ => .inl rfl
 | _ :: _, [] => .inr (.inr rfl)
 | x :: a, y :: b => by
  by_cases h1 : x < y
  ·rw [lex_lt _ _ h1]; exact .inl rfl
  ·by_cases h2 : y < x
   ·rw [lex_gt _ _ h2]; exact .inr (.inr rfl)
   ·rw [lex_eq _ _ (by omega)]; exact lex_range a b
theorem lex_swap : ∀ a b : List Int, lexR b a = - lexR a b
 | [], [] => rfl
 | [], _ :: _ => rfl
 | _ :: _, [] => rfl
 | x :: a, y :: b => by
  by_cases h1 : x < y
  ·rw [lex_lt _ _ h1, lex_gt _ _ h1]; rfl
  ·by_cases h2 : y < x
   ·rw [lex_gt _ _ h2, lex_lt _ _ h2]
   ·rw [lex_eq _ _ (by omega), lex_eq _ _ (by omega)]; exact lex_swap a b
theorem lex_trans : ∀ {a b c : List Int}, lexR a b < 0 → lexR b c < 0 → lexR a c < 0
 | [], [], _, h, _ => by cases h
 | _ :: _, [], _, h, _ => by cases h
 | _, _ :: _, [], _, h => by cases h
 | [], _ :: _, _ :: _, _, _ => by show (-1 : Int) < 0; decide
 | x :: a, y :: b, z :: c, h, h2 => by
  by_cases h3 : y < x
  ·rw [lex_gt _ _ h3] at h; exact absurd h (by decide)
  by_cases h4 : z < y
  ·rw [lex_gt _ _ h4] at h2; exact absurd h2 (by decide)
  by_cases h5 : x < z
  ·rw [lex_lt _ _ h5]; decide
  have e1 : x = y := by omega
  have e2 : y = z := by omega
  rw [lex_eq _ _ e1] at h
  rw [lex_eq _ _ e2] at h2
  rw [lex_eq _ _ (e1.trans e2)]
  exact lex_trans h h2
theorem difB_nz (x y : Int) : difB x y ≠ 0 := by
 unfold difB
 repeat' split
 all_goals decide
theorem cmpB_zero : ∀ {a b : List Int}, cmpB a b = 0 → a = b
 | [], [], _ => rfl
 | [], _ :: _, h => by cases h
 | _ :: _, [], h => by cases h
 | x :: a, y :: b, h => by
  by_cases h1 : x = y
  ·rw [cmpB_eq _ _ h1] at h
   rw [h1, cmpB_zero h]
  ·rw [cmpB_ne _ _ h1] at h
   exact absurd h (difB_nz x y)
def ltU (a b : List Int) : Prop := lexR (unitsR a) (unitsR b) < 0
theorem ltU_irrefl (a : List Int) : ¬ ltU a a := by
 unfold ltU
 rw [lex_self]
 decide
theorem ltU_trans {a b c : List Int} (h : ltU a b) (h2 : ltU b c) : ltU a c := lex_trans h h2
theorem ltU_tri {a b : List Int} (ha : rightR a = true) (hb : rightR b = true) : ltU a b ∨ a = b ∨ ltU b a := by
 unfold ltU
 rcases lex_range (unitsR a) (unitsR b) with h | h | h
 ·exact .inl (by omega)
 ·rw [← cmp_eq ha hb] at h
  exact .inr (.inl (cmpB_zero h))
 ·rw [lex_swap (unitsR a) (unitsR b)]
  exact .inr (.inr (by omega))
theorem rising_unique {α : Type} (lt : α → α → Prop) (irr : ∀ x, ¬ lt x x) (tr : ∀ x y z, lt x y → lt y z → lt x z) :
  ∀ (l m : List α), l.Pairwise lt → m.Pairwise lt → (∀ x, x ∈ l ↔ x ∈ m) → l = m
 | [], [], _, _, _ => rfl
 | [], y :: m, _, _, h => by simpa using (h y).2 (by simp)
 | x :: l, [], _, _, h => by simpa using (h x).1 (by simp)
 | x :: l, y :: m, hl, hm, h => by
  have hl' := List.pairwise_cons.1 hl
  have hm' := List.pairwise_cons.1 hm
  have hxy : x = y := by
   rcases List.mem_cons.1 ((h x).1 (by simp)) with e | e
   ·exact e
   ·rcases List.mem_cons.1 ((h y).2 (by simp)) with e2 | e2
    ·exact e2.symm
    ·exact absurd (tr _ _ _ (hl'.1 y e2) (hm'.1 x e)) (irr x)
  subst hxy
  refine congrArg (x :: ·) (rising_unique lt irr tr l m hl'.2 hm'.2 fun z => ⟨fun hz => ?_, fun hz => ?_⟩)
  ·rcases List.mem_cons.1 ((h z).1 (by simp [hz])) with e | e
   ·subst e
    exact absurd (hl'.1 z hz) (irr z)
   ·exact e
  ·rcases List.mem_cons.1 ((h z).2 (by simp [hz])) with e | e
   ·subst e
    exact absurd (hm'.1 z hz) (irr z)
   ·exact e
end Go.Utf
namespace Go.Json
open Go.Utf
inductive JV where
 | null
 | flag (b : Bool)
 | num (b : Nat)
 | text (s : ByteArray)
 | list (l : List JV)
 | obj (ks : List ByteArray) (l : List JV)
def sb (s : ByteArray) : List Int := s.data.toList.map fun b => (b.toNat : Int)
theorem sb_len (s : ByteArray) : (sb s).length = s.size := by unfold sb; rw [List.length_map, Array.length_toList]; rfl
theorem sb_inj {s t : ByteArray} (h : sb s = sb t) : s = t := by
 have hi : ∀ a b : UInt8, ((a.toNat : Int)) = b.toNat → a = b := fun a b h => UInt8.toNat_inj.1 (by omega)
 have h2 : ∀ l m : List UInt8, (l.map fun b => (b.toNat : Int)) = (m.map fun b => (b.toNat : Int)) → l = m := by
  intro l
  induction l with
  | nil => intro m h; cases m with | nil => rfl | cons _ _ => cases h
  | cons a l ih => intro m h; cases m with
   | nil => cases h
   | cons b m =>
    simp only [List.map_cons, List.cons.injEq] at h
    rw [hi a b h.1, ih m h.2]
 have h3 := h2 _ _ h
 cases s; cases t
 congr
 exact Array.toList_inj.1 h3
theorem JV.size_list {l : List JV} {x : JV} (h : x ∈ l) : SizeOf.sizeOf x < SizeOf.sizeOf (JV.list l) := by
 have := List.sizeOf_lt_of_mem h
 simp
 omega
theorem JV.size_obj {ks : List ByteArray} {l : List JV} {x : JV} (h : x ∈ l) : SizeOf.sizeOf x < SizeOf.sizeOf (JV.obj ks l) := by
 have := List.sizeOf_lt_of_mem h
 simp
 omega
theorem JV.ind {P : JV → Prop} (h0 : P .null) (h1 : ∀ b, P (.flag b)) (h2 : ∀ b, P (.num b)) (h3 : ∀ s, P (.text s)) (h4 : ∀ l, (∀ x, x ∈ l → P x) → P (.list l)) (h5 : ∀ ks l, (∀ x, x ∈ l → P x) → P (.obj ks l)) : ∀ t, P t
 | .null => h0
 | .flag b => h1 b
 | .num b => h2 b
 | .text s => h3 s
 | .list l => h4 l fun x _ => JV.ind h0 h1 h2 h3 h4 h5 x
 | .obj ks l => h5 ks l fun x _ => JV.ind h0 h1 h2 h3 h4 h5 x
termination_by t => SizeOf.sizeOf t
decreasing_by
 ·exact JV.size_list (by assumption)
 ·exact JV.size_obj (by assumption)
def sumN : List Nat → Nat
 | [] => 0
 | x :: l => x + sumN l
def maxN : List Nat → Nat
 | [] => 0
 | x :: l => max x (maxN l)
def JV.nodes : JV → Nat
 | .list l => 1 + sumN (l.map fun x => x.nodes)
 | .obj _ l => 1 + sumN (l.map fun x => x.nodes)
 | _ => 1
def JV.bytes : JV → Nat
 | .text s => s.size
 | .list l => sumN (l.map fun x => x.bytes)
 | .obj ks l => sumN (ks.map fun k => k.size) + sumN (l.map fun x => x.bytes)
 | _ => 0
def JV.deep : JV → Nat
 | .list l => maxN (l.map fun x => x.deep) + 1
 | .obj _ l => maxN (l.map fun x => x.deep) + 1
 | _ => 1
def JV.sort : JV → Int
 | .null => 1
 | .flag _ => 2
 | .num _ => 3
 | .text _ => 4
 | .list _ => 5
 | .obj _ _ => 6
def JV.within (v : JV) : Prop := v.nodes ≤ 65536 ∧ v.bytes ≤ 2097152 ∧ v.deep ≤ 512
instance (v : JV) : Decidable v.within := inferInstanceAs (Decidable (_ ∧ _ ∧ _))
def JV.items : JV → List JV
 | .list l => l
 | .obj _ l => l
 | _ => []
def JV.keys : JV → List ByteArray
 | .obj ks _ => ks
 | _ => []
structure StepV where
 sort : Int
 flag : Bool
 bits : Nat
 text : ByteArray
 count : Int
 keys : List ByteArray
def step0 (sort : Int) : StepV := ⟨sort, false, 0, .empty, 0, []⟩
def JV.last : JV → StepV
 | .null => step0 1
 | .flag b => { step0 2 with flag := b }
 | .num b => { step0 3 with bits := b }
 | .text s => { step0 4 with text := s }
 | .list l => { step0 5 with count := l.length }
 | .obj ks _ => { step0 6 with keys := ks }
theorem JV.nodes_eq (v : JV) : v.nodes = 1 + sumN (v.items.map fun x => x.nodes) := by
 cases v <;> simp [JV.nodes, JV.items, sumN]
theorem JV.deep_eq (v : JV) : v.deep = maxN (v.items.map fun x => x.deep) + 1 := by
 cases v <;> simp [JV.deep, JV.items, maxN]
def JV.own : JV → Nat
 | .text s => s.size
 | .obj ks _ => sumN (ks.map fun k => k.size)
 | _ => 0
theorem JV.bytes_eq (v : JV) : v.bytes = v.own + sumN (v.items.map fun x => x.bytes) := by
 cases v <;> simp [JV.bytes, JV.items, sumN, JV.own]
def usedF (s : StepV) : Bool :=
 decide (1 ≤ s.sort) && decide (s.sort ≤ 6) && decide (0 ≤ s.count) && (!s.flag || decide (s.sort = 2)) && (decide (s.bits = 0) || decide (s.sort = 3)) && (decide (s.text.size = 0) || decide (s.sort = 4)) &&
  (decide (s.count = 0) || decide (s.sort = 5)) && (decide (s.keys.length = 0) || decide (s.sort = 6))
def finiteF (b : Nat) : Bool := !decide (b / 4503599627370496 % 2048 = 2047)
def rightS (s : ByteArray) : Bool := rightR (sb s)
def ltS (a b : ByteArray) : Prop := ltU (sb a) (sb b)
instance (a b : ByteArray) : Decidable (ltS a b) := inferInstanceAs (Decidable (lexR _ _ < 0))
def insM (p : ByteArray × JV) : List (ByteArray × JV) → List (ByteArray × JV)
 | [] => [p]
 | q :: l => if ltS p.1 q.1 then p :: q :: l else q :: insM p l
def sortM (l : List (ByteArray × JV)) : List (ByteArray × JV) := l.foldr insM []
def mkObj (ks : List ByteArray) (l : List JV) : JV := .obj ((sortM (ks.zip l)).map (·.1)) ((sortM (ks.zip l)).map (·.2))
def mkV (s : StepV) (l : List JV) : JV :=
 if s.sort = 1 then .null
 else if s.sort = 2 then .flag s.flag
 else if s.sort = 3 then .num (if s.bits = 9223372036854775808 then 0 else s.bits)
 else if s.sort = 4 then .text s.text
 else if s.sort = 5 then .list l
 else mkObj s.keys l
def doF (P : List JV) (s : StepV) : Int ⊕ List JV :=
 if usedF s = false then .inl 2
 else if s.sort = 3 ∧ finiteF s.bits = false then .inl 104
 else if rightS s.text = false ∨ s.keys.all rightS = false then .inl 100
 else if ¬ s.keys.Nodup then .inl 101
 else if P.length < s.count.toNat + s.keys.length then .inl 102
 else if ¬ (mkV s (P.drop (P.length - (s.count.toNat + s.keys.length)))).within then .inl 3
 else .inr (P.take (P.length - (s.count.toNat + s.keys.length)) ++ [mkV s (P.drop (P.length - (s.count.toNat + s.keys.length)))])
def rowF : Nat → List JV → List StepV → (Int × Nat) ⊕ List JV
 | _, P, [] => .inr P
 | i, P, s :: l => match doF P s with
  | .inl e => .inl (e, i)
  | .inr P' => rowF (i + 1) P' l
def buildF (l : List StepV) : (Int × Option Nat) ⊕ JV :=
 if 65536 < l.length then .inl (3, none)
 else match rowF 0 [] l with
 | .inl (e, i) => .inl (e, some i)
 | .inr P => match P with
  | [v] => .inr v
  | _ => .inl (103, some l.length)
theorem ltS_irrefl (a : ByteArray) : ¬ ltS a a := ltU_irrefl _
theorem ltS_trans {a b c : ByteArray} (h : ltS a b) (h2 : ltS b c) : ltS a c := ltU_trans h h2
theorem ltS_tri {a b : ByteArray} (ha : rightS a = true) (hb : rightS b = true) : ltS a b ∨ a = b ∨ ltS b a := by
 rcases ltU_tri ha hb with h | h | h
 ·exact .inl h
 ·exact .inr (.inl (sb_inj h))
 ·exact .inr (.inr h)
def Rising (l : List (ByteArray × JV)) : Prop := l.Pairwise fun p q => ltS p.1 q.1
theorem insM_perm (p : ByteArray × JV) : ∀ l, (insM p l).Perm (p :: l)
 | [] => .refl _
 | q :: l => by
  unfold insM
  split
  ·exact .refl _
  ·exact ((insM_perm p l).cons q).trans (.swap p q l)
theorem sortM_perm : ∀ l, (sortM l).Perm l
 | [] => .refl _
 | p :: l => (insM_perm p (sortM l)).trans ((sortM_perm l).cons p)
theorem insM_rising (p : ByteArray × JV) : ∀ (l : List (ByteArray × JV)), Rising l → (∀ q ∈ l, ltS p.1 q.1 ∨ ltS q.1 p.1) → Rising (insM p l)
 | [], _, _ => List.pairwise_singleton _ _
 | q :: l, h, hd => by
  have h' := List.pairwise_cons.1 h
  unfold insM
  split
  ·rename_i hlt
   refine List.pairwise_cons.2 ⟨fun r hr => ?_, h⟩
   rcases List.mem_cons.1 hr with rfl | hr
   ·exact hlt
   ·exact ltS_trans hlt (h'.1 r hr)
  ·rename_i hlt
   refine List.pairwise_cons.2 ⟨fun r hr => ?_, insM_rising p l h'.2 fun r hr => hd r (List.mem_cons_of_mem _ hr)⟩
   rcases List.mem_cons.1 ((insM_perm p l).mem_iff.1 hr) with rfl | hr
   ·exact (hd q List.mem_cons_self).resolve_left hlt
   ·exact h'.1 r hr
theorem sortM_rising : ∀ (l : List (ByteArray × JV)), (l.map (·.1)).Nodup → (∀ p ∈ l, rightS p.1 = true) → Rising (sortM l)
 | [], _, _ => .nil
 | p :: l, hn, hr => by
  rw [List.map_cons, List.nodup_cons] at hn
  refine insM_rising p (sortM l) (sortM_rising l hn.2 fun q hq => hr q (List.mem_cons_of_mem _ hq)) fun q hq => ?_
  have hq := (sortM_perm l).mem_iff.1 hq
  rcases ltS_tri (hr p List.mem_cons_self) (hr q (List.mem_cons_of_mem _ hq)) with h | h | h
  ·exact .inl h
  ·exact absurd (h ▸ List.mem_map.2 ⟨q, hq, rfl⟩) hn.1
  ·exact .inr h
theorem rising_one {α : Type} (lt : α → α → Prop) (h1 : ∀ x, ¬ lt x x) (h2 : ∀ x y z, lt x y → lt y z → lt x z) {l m : List α} (hl : l.Pairwise lt) (hm : m.Pairwise lt) (h : ∀ x, x ∈ l ↔ x ∈ m) : l = m :=
 rising_unique lt h1 h2 l m hl hm h
theorem ltS_irr (a : ByteArray) : ¬ ltS a a := ltS_irrefl a
theorem ltS_tr (a b c : ByteArray) (h : ltS a b) (h2 : ltS b c) : ltS a c := ltS_trans h h2
theorem rising_keys {l m : List ByteArray} (hl : l.Pairwise ltS) (hm : m.Pairwise ltS) (h : ∀ x, x ∈ l ↔ x ∈ m) : l = m :=
 rising_one ltS ltS_irr ltS_tr hl hm h
end Go.Json
