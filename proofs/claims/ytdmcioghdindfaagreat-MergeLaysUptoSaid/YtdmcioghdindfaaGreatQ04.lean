/-
  Texts put together: BoxK; Box2K; UtfP.
-/
import Derived.Test.YtdmcioghdindfaaGreatQ03
import Derived.Great.BuildSlice
set_option linter.unusedSimpArgs false
namespace Go.Aff
open Go Go.RowKit
theorem fold_zipB (vs : List Value) : ∀ (k : Nat) (cs : Array Value), k + vs.length ≤ cs.size → List.foldl (fun (cs : Array Value) (x : Value × Nat) => cs.setIfInBounds x.snd x.fst) cs (vs.zipIdx k) = (cs.toList.take k ++ vs ++ cs.toList.drop (k + vs.length)).toArray := by
 induction vs with
 | nil => intro k cs h; simp
 | cons v vs ih =>
  intro k cs h
  simp only [List.length_cons] at h
  rw [List.zipIdx_cons, List.foldl_cons, ih (k + 1) _ (by simp; omega)]
  have hk : k < cs.toList.length := by simp; omega
  simp only [Array.toList_setIfInBounds]
  congr 1
  have e1 : (cs.toList.set k v).take (k + 1) = cs.toList.take k ++ [v] := by
   rw [List.take_add_one, List.getElem?_set_self hk, List.take_set_of_le (Nat.le_refl k)]
   rfl
  have e2 : (cs.toList.set k v).drop (k + 1 + vs.length) = cs.toList.drop (k + (vs.length + 1)) := by
   rw [List.drop_set_of_lt (by omega)]
   congr 1
   omega
  rw [e1, e2]
  simp
theorem fold_zipB0 (vs : List Value) (cs : Array Value) (h : cs.size = vs.length) : List.foldl (fun (cs : Array Value) (x : Value × Nat) => cs.setIfInBounds x.snd x.fst) cs vs.zipIdx = vs.toArray := by
 have := fold_zipB vs 0 cs (by omega)
 rw [this, List.drop_eq_nil_of_le (by simp; omega)]
 simp
section
variable {P : Program}
theorem run_box (w : World) (t e : TypeId) (z : Value) (sz : Nat) (ht : P.underlying t = some (.slice e)) (hinfo : (P.info? e).map (fun i => (i.zero, i.size)) = some (some z, sz)) (hpos : 0 < sz) (hsm : sz ≤ 16777216) (SX : List Value) (hl : SX.length = sz) :
  (Instr.buildSlice t 1 #[(0, .agg SX.toArray)]).run P w = .ok (.slice (some ⟨w.heap.size, 0, none⟩) 1 1) (w.alloc (.cells SX.toArray e)) := by
 obtain ⟨i, hi, hzi⟩ := Option.map_eq_some_iff.1 hinfo
 simp only [Prod.mk.injEq] at hzi
 refine run_buildSlice w t e 1 _ SX.toArray i z ht hi hzi.1 (by rw [hzi.2]; simp; omega) (by rw [hzi.2]; omega) ?_
 rw [hzi.2]
 simp only [Instr.fill, Value.cells, Nat.zero_mul, Nat.zero_add, Nat.one_mul, List.size_toArray, Array.size_map, Array.size_range, ← Array.foldl_toList, Array.toList_zipIdx]
 rw [if_neg (by simp [hl]), fold_zipB0 _ _ (by simp [hl])]
theorem wpList_box_S (w : World) {ops : Array Oper} {rest : List Oper} {o : Oper} {a : Act} {Q : Exit → Act → World → Prop} (hgd : o.guard = none) (t e : TypeId) (x : Operand) (ho : o.op = .buildSlice t 1 #[(0, x)])
  (z : Value) (sz : Nat) (ht : P.underlying t = some (.slice e)) (hinfo : (P.info? e).map (fun i => (i.zero, i.size)) = some (some z, sz)) (hpos : 0 < sz) (hsm : sz ≤ 16777216) (SX : List Value) (hl : SX.length = sz) (hx : a.eval x = .agg SX.toArray)
  (h : wpList P ops Q rest (a.put o.dst (.slice (some ⟨w.heap.size, 0, none⟩) 1 1)) (w.alloc (.cells SX.toArray e))) : wpList P ops Q (o :: rest) a w :=
 wpList_plain hgd fun K hK => by
  have hr := run_box (P := P) w t e z sz ht hinfo hpos hsm SX hl
  unfold Oper.wp execOp
  simp only [ho, Sem.run_bind, List.map_toArray, List.map_cons, List.map_nil, hx, hr, Result.andThen_ok]
  exact hK _ _ h
theorem step_box_S {Q : Exit → Act → World → Prop} {K : Act → World → Prop} {ops : Array Oper} {a : Act} {w : World} {o : Oper} (hgd : o.guard = none) (t e : TypeId) (x : Operand) (ho : o.op = .buildSlice t 1 #[(0, x)])
  (z : Value) (sz : Nat) (ht : P.underlying t = some (.slice e)) (hinfo : (P.info? e).map (fun i => (i.zero, i.size)) = some (some z, sz)) (hpos : 0 < sz) (hsm : sz ≤ 16777216) (SX : List Value) (hl : SX.length = sz) (hx : a.eval x = .agg SX.toArray)
  (h : K (a.put o.dst (.slice (some ⟨w.heap.size, 0, none⟩) 1 1)) (w.alloc (.cells SX.toArray e))) :
  if Region.wanted o (yielded ops a.tmps) = true then Oper.wp P o a w K Q else K (a.put o.dst undef) w := by
 have hw : Region.wanted o (yielded ops a.tmps) = true := by simp [Region.wanted, hgd]
 rw [if_pos hw]
 have hr := run_box (P := P) w t e z sz ht hinfo hpos hsm SX hl
 unfold Oper.wp execOp
 simp only [ho, Sem.run_bind, List.map_toArray, List.map_cons, List.map_nil, hx, hr, Result.andThen_ok]
 exact h
end
end Go.Aff

set_option linter.unusedSimpArgs false
namespace Go.Aff
open Go Go.RowKit
structure BoxTwo (w wr : World) (b : Nat) (T : TypeId) (cs : List Value) (e : TypeId) (s : Nat) (A : Option Addr) (n c : Nat) (xs : List Value) (f : TypeId) (t : Nat) (B : Option Addr) (m d : Nat) (ys : List Value) : Prop where
 two : Two w wr e s A n c xs f t B m d ys
 blk : Blk wr b T cs
 lo : w.heap.size ≤ b
 na : (Value.slice A n c).ownBlock ≠ some b
 nb : (Value.slice B m d).ownBlock ≠ some b
section
variable {w wr w' : World} {b : Nat} {T e f : TypeId} {cs : List Value} {s t : Nat} {A B : Option Addr} {n c m d : Nat} {xs ys : List Value}
theorem BoxTwo.swap (h : BoxTwo w wr b T cs e s A n c xs f t B m d ys) : BoxTwo w wr b T cs f t B m d ys e s A n c xs := ⟨h.two.swap, h.blk, h.lo, h.nb, h.na⟩
theorem BoxTwo.keep (h : BoxTwo w wr b T cs e s A n c xs f t B m d ys) (hk : Keeps (fun _ => False) wr w') : BoxTwo w w' b T cs e s A n c xs f t B m d ys := ⟨h.two.keep hk, hk.blk h.blk (fun h => h), h.lo, h.na, h.nb⟩
theorem BoxTwo.app {A' : Option Addr} {k c' : Nat} {zs : List Value} (h : BoxTwo w wr b T cs e s A n c xs f t B m d ys) (ho : w'.ownsRow 0 e s (.slice A' k c') k zs) (hg : wr.grownBy w' (Value.slice A n c).ownBlock)
  (hb : (Value.slice A' k c').ownBlock = (Value.slice A n c).ownBlock ∨ (Value.slice A' k c').ownBlock = some wr.heap.size) : BoxTwo w w' b T cs e s A' k c' zs f t B m d ys := by
 refine ⟨h.two.grown ho hg hb, (Keeps.of_grown hg).blk h.blk h.na, h.lo, ?_, h.nb⟩
 have hlt := h.blk.lt
 rcases hb with h1 | h1
 ·rw [h1]; exact h.na
 ·rw [h1]; intro h2; injection h2 with h2; omega
theorem BoxTwo.set (h : BoxTwo w wr b T cs e s A n c xs f t B m d ys) (i : Nat) (v : Value) : BoxTwo w (wr.setCell ⟨b, i, none⟩ v) b T (cs.set i v) e s A n c xs f t B m d ys := by
 have hk : Keeps (fun j => j = b) wr (wr.setCell ⟨b, i, none⟩ v) := (Keeps.refl (fun j => j = b) wr).setCell (p := ⟨b, i, none⟩) (.inl rfl) v
 have hw : Keeps (fun _ => False) w (wr.setCell ⟨b, i, none⟩ v) := h.two.a.2.1.setCell (p := ⟨b, i, none⟩) (.inr h.lo) v
 exact ⟨⟨⟨hk.own h.two.a.1 (fun g hg e => h.na (by rw [hg, e])), hw, h.two.a.2.2⟩, ⟨hk.own h.two.b.1 (fun g hg e => h.nb (by rw [hg, e])), hw, h.two.b.2.2⟩, h.two.ap⟩, h.blk.set_ i v, h.lo, h.na, h.nb⟩
theorem BoxTwo.start (w : World) (T e f : TypeId) (s t : Nat) {w1 : World} (hk : Keeps (fun _ => False) w w1) (cs : List Value) : BoxTwo w (w1.alloc (.cells cs.toArray T)) w1.heap.size T cs e s none 0 0 [] f t none 0 0 [] :=
 ⟨⟨(MineS.nil s w e).keep (hk.alloc _), (MineS.nil t w f).keep (hk.alloc _), fun g h => by simp [Value.ownBlock] at h⟩, Blk.new w1 T cs, hk.size, by simp [Value.ownBlock], by simp [Value.ownBlock]⟩
theorem BoxTwo.hold (h : BoxTwo w wr b T cs e s A n c xs f t B m d ys) : Keeps (fun _ => False) w wr := h.two.a.2.1
end
end Go.Aff

set_option linter.unusedSimpArgs false
namespace Go.Utf
def formF (c : Int) : Int × Int × Int :=
 if c < 128 then (1, 0, 0) else if c < 194 then (0, 0, 0) else if c < 224 then (2, 128, 191) else if c = 224 then (3, 160, 191) else if c = 237 then (3, 128, 159)
 else if c < 240 then (3, 128, 191) else if c = 240 then (4, 144, 191) else if c < 244 then (4, 128, 191) else if c = 244 then (4, 128, 143) else (0, 0, 0)
def mayF (f : Int × Int × Int) (i : Int) (c : Int) : Bool := if i = 1 then decide (c ≥ f.2.1) && decide (c ≤ f.2.2) else decide (c ≥ 128) && decide (c ≤ 191)
def takeF (h : List Int) (c : Int) : Option (List Int) :=
 match h with
 | [] => if (formF c).1 = 0 then none else if (formF c).1 > 1 then some [c] else some []
 | x :: r => if mayF (formF x) (r.length + 1) c then (if ((r.length : Int) + 1) + 1 = (formF x).1 then some [] else some (x :: r ++ [c])) else none
def feedF : List Int → List Int → Option (List Int)
 | h, [] => some h
 | h, c :: cs => match takeF h c with
  | none => none
  | some h' => feedF h' cs
def rightF (bs : List Int) : Bool := feedF [] bs == some []
def wideR (c : Int) : Int := if c < 128 then 1 else if c ≥ 194 ∧ c ≤ 223 then 2 else if c ≥ 224 ∧ c ≤ 239 then 3 else if c ≥ 240 ∧ c ≤ 244 then 4 else 0
def secondR (c d : Int) : Bool := if d < 128 ∨ d > 191 then false else if c = 224 then decide (d ≥ 160) else if c = 237 then decide (d ≤ 159) else if c = 240 then decide (d ≥ 144) else if c = 244 then decide (d ≤ 143) else true
def contR (d : Int) : Bool := !(decide (d < 128) || decide (d > 191))
def atR : List Int → Option (Int × Nat)
 | [] => none
 | c :: l =>
  if wideR c = 1 then some (c, 1)
  else if wideR c = 2 then (match l with
   | d :: _ => if secondR c d && contR d then some (64 * (c - 192) + d - 128, 2) else none
   | _ => none)
  else if wideR c = 3 then (match l with
   | d :: e :: _ => if secondR c d && contR d && contR e then some (64 * (64 * (c - 224) + d - 128) + e - 128, 3) else none
   | _ => none)
  else if wideR c = 4 then (match l with
   | d :: e :: f :: _ => if secondR c d && contR d && contR e && contR f then some (64 * (64 * (64 * (c - 240) + d - 128) + e - 128) + f - 128, 4) else none
   | _ => none)
  else none
theorem atR_len {l : List Int} {r : Int} {n : Nat} (h : atR l = some (r, n)) : 1 ≤ n ∧ n ≤ 4 ∧ n ≤ l.length := by
 unfold atR at h
 repeat' split at h
 all_goals first | (cases h; done) | (simp at h; simp; omega)
def runesR : Nat → List Int → List Int × Bool
 | 0, l => ([], l.isEmpty)
 | k + 1, l => match l with
  | [] => ([], true)
  | c :: r => match atR (c :: r) with
   | none => ([], false)
   | some (x, n) => ((x :: (runesR k ((c :: r).drop n)).1), (runesR k ((c :: r).drop n)).2)
def rightR (l : List Int) : Bool := (runesR l.length l).2
def IsB (l : List Int) : Prop := ∀ x ∈ l, 0 ≤ x ∧ x < 256
theorem form_wide (c : Int) : (formF c).1 = wideR c := by
 unfold formF wideR
 repeat' split
 all_goals first | rfl | omega
theorem may_second (c d : Int) (h : 2 ≤ wideR c) : mayF (formF c) 1 d = (secondR c d && contR d) := by
 unfold formF mayF secondR contR
 unfold wideR at h
 rw [if_pos rfl]
 have hx : ∀ (p q : Bool), (p = true ↔ q = true) → p = q := by decide
 apply hx
 repeat' split at h
 all_goals first | (exfalso; omega) | skip
 all_goals (repeat' split) <;> (simp; try omega)
theorem may_cont (f : Int × Int × Int) (i d : Int) (h : i ≠ 1) : mayF f i d = contR d := by
 unfold mayF contR
 rw [if_neg h]
 cases h1 : decide (d < 128) <;> cases h2 : decide (d > 191) <;> simp at h1 h2 <;> simp <;> omega
theorem feed_cons (h : List Int) (c : Int) (cs : List Int) : feedF h (c :: cs) = match takeF h c with
  | none => none
  | some h' => feedF h' cs := rfl
theorem take_nil (c : Int) : takeF [] c = if wideR c = 0 then none else if wideR c > 1 then some [c] else some [] := by
 unfold takeF
 rw [form_wide]
theorem take_cons (x : Int) (r : List Int) (c : Int) : takeF (x :: r) c = if mayF (formF x) (r.length + 1) c then (if ((r.length : Int) + 1) + 1 = (formF x).1 then some [] else some (x :: r ++ [c])) else none := rfl
theorem take_one (c d : Int) (h : 2 ≤ wideR c) : takeF [c] d = if secondR c d && contR d then (if wideR c = 2 then some [] else some [c, d]) else none := by
 rw [take_cons, show ((([] : List Int).length : Int) + 1) = 1 from rfl, may_second c d h, form_wide]
 have : ((1 : Int) + 1 = wideR c) ↔ (wideR c = 2) := by omega
 simp only [this, List.cons_append, List.nil_append]
theorem take_two (c d e : Int) : takeF [c, d] e = if contR e then (if wideR c = 3 then some [] else some [c, d, e]) else none := by
 rw [take_cons, show ((([d] : List Int).length : Int) + 1) = 2 from rfl, may_cont _ _ _ (by decide), form_wide]
 have : ((2 : Int) + 1 = wideR c) ↔ (wideR c = 3) := by omega
 simp only [this, List.cons_append, List.nil_append]
theorem take_three (c d e f : Int) : takeF [c, d, e] f = if contR f then (if wideR c = 4 then some [] else some [c, d, e, f]) else none := by
 rw [take_cons, show ((([d, e] : List Int).length : Int) + 1) = 3 from rfl, may_cont _ _ _ (by decide), form_wide]
 have : ((3 : Int) + 1 = wideR c) ↔ (wideR c = 4) := by omega
 simp only [this, List.cons_append, List.nil_append]
theorem wide_cases (c : Int) : wideR c = 0 ∨ wideR c = 1 ∨ wideR c = 2 ∨ wideR c = 3 ∨ wideR c = 4 := by
 unfold wideR
 repeat' split
 all_goals simp
theorem feed_at (c : Int) (l : List Int) : (feedF [] (c :: l) == some []) = match atR (c :: l) with
  | none => false
  | some (_, n) => feedF [] ((c :: l).drop n) == some [] := by
 rcases wide_cases c with h | h | h | h | h
 ·simp [feed_cons, take_nil, atR, h]
 ·simp [feed_cons, take_nil, atR, h]
 ·match l with
  | [] => simp [feed_cons, take_nil, atR, h, feedF]
  | d :: l =>
   rw [feed_cons, take_nil]
   simp only [h]
   simp only [show ¬ ((2 : Int) = 0) by decide, show (2 : Int) > 1 by decide, if_true, if_false]
   rw [feed_cons, take_one c d (by omega)]
   simp only [atR, h]
   by_cases hs : (secondR c d && contR d) = true
   ·simp [hs]
   ·simp [hs]
 ·match l with
  | [] => simp [feed_cons, take_nil, atR, h, feedF]
  | [d] =>
   rw [feed_cons, take_nil]
   simp only [h]
   simp only [show ¬ ((3 : Int) = 0) by decide, show (3 : Int) > 1 by decide, if_true, if_false]
   rw [feed_cons, take_one c d (by omega)]
   simp only [atR, h]
   by_cases hs : (secondR c d && contR d) = true
   ·simp [hs, feedF]
   ·simp [hs]
  | d :: e :: l =>
   rw [feed_cons, take_nil]
   simp only [h]
   simp only [show ¬ ((3 : Int) = 0) by decide, show (3 : Int) > 1 by decide, if_true, if_false]
   rw [feed_cons, take_one c d (by omega)]
   simp only [atR, h]
   by_cases hs : (secondR c d && contR d) = true
   ·simp only [hs, if_true, show ¬ ((3 : Int) = 2) by decide, if_false, show ¬ ((3 : Int) = 1) by decide, Bool.true_and]
    rw [feed_cons, take_two]
    by_cases he : contR e = true
    ·simp [he, h]
    ·simp [he]
   ·simp [hs]
 ·match l with
  | [] => simp [feed_cons, take_nil, atR, h, feedF]
  | [d] =>
   rw [feed_cons, take_nil]
   simp only [h]
   simp only [show ¬ ((4 : Int) = 0) by decide, show (4 : Int) > 1 by decide, if_true, if_false]
   rw [feed_cons, take_one c d (by omega)]
   simp only [atR, h]
   by_cases hs : (secondR c d && contR d) = true
   ·simp [hs, feedF]
   ·simp [hs]
  | [d, e] =>
   rw [feed_cons, take_nil]
   simp only [h]
   simp only [show ¬ ((4 : Int) = 0) by decide, show (4 : Int) > 1 by decide, if_true, if_false]
   rw [feed_cons, take_one c d (by omega)]
   simp only [atR, h]
   by_cases hs : (secondR c d && contR d) = true
   ·simp only [hs, if_true, show ¬ ((4 : Int) = 2) by decide, if_false, show ¬ ((4 : Int) = 1) by decide, show ¬ ((4 : Int) = 3) by decide]
    rw [feed_cons, take_two]
    by_cases he : contR e = true
    ·simp [he, h, feedF]
    ·simp [he]
   ·simp [hs]
  | d :: e :: f :: l =>
   rw [feed_cons, take_nil]
   simp only [h]
   simp only [show ¬ ((4 : Int) = 0) by decide, show (4 : Int) > 1 by decide, if_true, if_false]
   rw [feed_cons, take_one c d (by omega)]
   simp only [atR, h]
   by_cases hs : (secondR c d && contR d) = true
   ·simp only [hs, if_true, show ¬ ((4 : Int) = 2) by decide, if_false, show ¬ ((4 : Int) = 1) by decide, show ¬ ((4 : Int) = 3) by decide, Bool.true_and]
    rw [feed_cons, take_two]
    by_cases he : contR e = true
    ·simp only [he, h, if_true, show ¬ ((4 : Int) = 3) by decide, if_false, Bool.true_and]
     rw [feed_cons, take_three]
     by_cases hf : contR f = true
     ·simp [hf, h]
     ·simp [hf]
    ·simp [he]
   ·simp [hs]
theorem right_runes : ∀ (k : Nat) (l : List Int), l.length ≤ k → (runesR k l).2 = (feedF [] l == some [])
 | 0, l, h => by
  have : l = [] := List.length_eq_zero_iff.1 (by omega)
  subst this
  rfl
 | k + 1, [], _ => rfl
 | k + 1, c :: l, h => by
  rw [feed_at c l]
  unfold runesR
  cases ha : atR (c :: l) with
  | none => simp only [ha]
  | some p =>
   obtain ⟨x, n⟩ := p
   have hn := atR_len ha
   simp only [ha]
   exact right_runes k ((c :: l).drop n) (by simp at h ⊢; omega)
theorem right_eq (l : List Int) : rightF l = rightR l := (right_runes l.length l (Nat.le_refl _)).symm
def highF (c : Int) : Bool := decide (c ≥ 240)
def cmpB : List Int → List Int → Int
 | [], [] => 0
 | [], _ :: _ => -1
 | _ :: _, [] => 1
 | x :: a, y :: b => if x = y then cmpB a b else if highF x && !highF y && decide (y ≥ 238) then -1 else if highF y && !highF x && decide (x ≥ 238) then 1 else if x < y then -1 else 1
def unitsOf (r : Int) : List Int := if r < 65536 then [r] else [55296 + (r - 65536) / 1024, 56320 + (r - 65536) % 1024]
def unitsR (l : List Int) : List Int := ((runesR l.length l).1.map unitsOf).flatten
def lexR : List Int → List Int → Int
 | [], [] => 0
 | [], _ :: _ => -1
 | _ :: _, [] => 1
 | x :: a, y :: b => if x < y then -1 else if x > y then 1 else lexR a b
theorem lex_self_append : ∀ (p a b : List Int), lexR (p ++ a) (p ++ b) = lexR a b
 | [], _, _ => rfl
 | x :: p, a, b => by
  show (if x < x then -1 else if x > x then 1 else lexR (p ++ a) (p ++ b)) = _
  rw [if_neg (by omega), if_neg (by omega)]
  exact lex_self_append p a b
theorem cmpB_self_append : ∀ (p a b : List Int), cmpB (p ++ a) (p ++ b) = cmpB a b
 | [], _, _ => rfl
 | x :: p, a, b => by
  show (if x = x then cmpB (p ++ a) (p ++ b) else _) = _
  rw [if_pos rfl]
  exact cmpB_self_append p a b
inductive RightL : List Int → List Int → Prop
 | nil : RightL [] []
 | cons {l : List Int} {r : Int} {n : Nat} {us : List Int} (h : atR l = some (r, n)) (ht : RightL (l.drop n) us) : RightL l (unitsOf r ++ us)
theorem right_l : ∀ (k : Nat) (l : List Int), l.length ≤ k → (runesR k l).2 = true → RightL l (((runesR k l).1.map unitsOf).flatten)
 | 0, l, h, _ => by
  have : l = [] := List.length_eq_zero_iff.1 (by omega)
  subst this
  exact .nil
 | k + 1, [], _, _ => .nil
 | k + 1, c :: l, h, ht => by
  cases ha : atR (c :: l) with
  | none => simp [runesR, ha] at ht
  | some p =>
   obtain ⟨x, n⟩ := p
   have hn := atR_len ha
   simp only [runesR, ha] at ht ⊢
   simp only [List.map_cons, List.flatten_cons]
   exact .cons ha (right_l k _ (by simp at h ⊢; omega) ht)
theorem right_units {l : List Int} (h : rightR l = true) : RightL l (unitsR l) := right_l l.length l (Nat.le_refl _) h
theorem at_forms {l : List Int} {r : Int} {n : Nat} (h : atR l = some (r, n)) :
  (∃ c t, l = c :: t ∧ n = 1 ∧ c < 128 ∧ r = c) ∨
  (∃ c d t, l = c :: d :: t ∧ n = 2 ∧ 194 ≤ c ∧ c ≤ 223 ∧ 128 ≤ d ∧ d ≤ 191 ∧ r = 64 * (c - 192) + d - 128) ∨
  (∃ c d e t, l = c :: d :: e :: t ∧ n = 3 ∧ 224 ≤ c ∧ c ≤ 239 ∧ 128 ≤ d ∧ d ≤ 191 ∧ 128 ≤ e ∧ e ≤ 191 ∧ (c = 224 → 160 ≤ d) ∧ (c = 237 → d ≤ 159) ∧ r = 64 * (64 * (c - 224) + d - 128) + e - 128) ∨
  (∃ c d e f t, l = c :: d :: e :: f :: t ∧ n = 4 ∧ 240 ≤ c ∧ c ≤ 244 ∧ 128 ≤ d ∧ d ≤ 191 ∧ 128 ≤ e ∧ e ≤ 191 ∧ 128 ≤ f ∧ f ≤ 191 ∧ (c = 240 → 144 ≤ d) ∧ (c = 244 → d ≤ 143) ∧ r = 64 * (64 * (64 * (c - 240) + d - 128) + e - 128) + f - 128) := by
 have hw : ∀ c : Int, (wideR c = 1 → c < 128) ∧ (wideR c = 2 → 194 ≤ c ∧ c ≤ 223) ∧ (wideR c = 3 → 224 ≤ c ∧ c ≤ 239) ∧ (wideR c = 4 → 240 ≤ c ∧ c ≤ 244) := by
  intro c
  unfold wideR
  repeat' split
  all_goals (simp; try omega)
 have hs : ∀ c d : Int, secondR c d = true → 128 ≤ d ∧ d ≤ 191 ∧ (c = 224 → 160 ≤ d) ∧ (c = 237 → d ≤ 159) ∧ (c = 240 → 144 ≤ d) ∧ (c = 244 → d ≤ 143) := by
  intro c d
  unfold secondR
  repeat' split
  all_goals (simp; try omega)
 have hc : ∀ d : Int, contR d = true → 128 ≤ d ∧ d ≤ 191 := by
  intro d
  unfold contR
  simp
 match l with
 | [] => cases h
 | c :: t =>
  rcases wide_cases c with h1 | h1 | h1 | h1 | h1
  ·simp [atR, h1] at h
  ·simp [atR, h1] at h
   have := (hw c).1 h1
   exact .inl ⟨c, t, rfl, h.2.symm, this, h.1.symm⟩
  ·match t with
   | [] => simp [atR, h1] at h
   | d :: t =>
    by_cases h2 : (secondR c d && contR d) = true
    ·simp [atR, h1, h2] at h
     have := (hw c).2.1 h1
     simp at h2
     have h3 := hs c d h2.1
     exact .inr (.inl ⟨c, d, t, rfl, h.2.symm, this.1, this.2, h3.1, h3.2.1, h.1.symm⟩)
    ·simp [atR, h1, h2] at h
  ·match t with
   | [] => simp [atR, h1] at h
   | [_] => simp [atR, h1] at h
   | d :: e :: t =>
    by_cases h2 : (secondR c d && contR d && contR e) = true
    ·simp [atR, h1, h2] at h
     have := (hw c).2.2.1 h1
     simp at h2
     have h3 := hs c d h2.1.1
     have h4 := hc e h2.2
     exact .inr (.inr (.inl ⟨c, d, e, t, rfl, h.2.symm, this.1, this.2, h3.1, h3.2.1, h4.1, h4.2, h3.2.2.1, h3.2.2.2.1, h.1.symm⟩))
    ·simp [atR, h1, h2] at h
  ·match t with
   | [] => simp [atR, h1] at h
   | [_] => simp [atR, h1] at h
   | [_, _] => simp [atR, h1] at h
   | d :: e :: f :: t =>
    by_cases h2 : (secondR c d && contR d && contR e && contR f) = true
    ·simp [atR, h1, h2] at h
     have := (hw c).2.2.2 h1
     simp at h2
     have h3 := hs c d h2.1.1.1
     have h4 := hc e h2.1.2
     have h5 := hc f h2.2
     exact .inr (.inr (.inr ⟨c, d, e, f, t, rfl, h.2.symm, this.1, this.2, h3.1, h3.2.1, h4.1, h4.2, h5.1, h5.2, h3.2.2.2.2.1, h3.2.2.2.2.2, h.1.symm⟩))
    ·simp [atR, h1, h2] at h
def difB (x y : Int) : Int := if highF x && !highF y && decide (y ≥ 238) then -1 else if highF y && !highF x && decide (x ≥ 238) then 1 else if x < y then -1 else 1
theorem cmpB_eq {x y : Int} (a b : List Int) (h : x = y) : cmpB (x :: a) (y :: b) = cmpB a b := by
 show (if x = y then _ else _) = _
 rw [if_pos h]
theorem cmpB_ne {x y : Int} (a b : List Int) (h : x ≠ y) : cmpB (x :: a) (y :: b) = difB x y := by
 show (if x = y then _ else _) = _
 rw [if_neg h]
 rfl
theorem difB_low {x y : Int} (hx : x < 240) (hy : y < 240) : difB x y = if x < y then -1 else 1 := by
 simp [difB, highF, show ¬ (240 ≤ x) by omega, show ¬ (240 ≤ y) by omega]
theorem difB_high {x y : Int} (hx : 240 ≤ x) (hy : 240 ≤ y) : difB x y = if x < y then -1 else 1 := by
 simp [difB, highF, hx, hy]
theorem difB_lh {x y : Int} (hx : x < 240) (hy : 240 ≤ y) : difB x y = if x < 238 then -1 else 1 := by
 by_cases h : x < 238
 ·simp [difB, highF, show ¬ (240 ≤ x) by omega, hy, show ¬ (238 ≤ x) by omega, h]
  omega
 ·simp [difB, highF, show ¬ (240 ≤ x) by omega, hy, show (238 ≤ x) by omega, h]
theorem difB_hl {x y : Int} (hx : 240 ≤ x) (hy : y < 240) : difB x y = if y < 238 then 1 else -1 := by
 by_cases h : y < 238
 ·simp [difB, highF, show ¬ (240 ≤ y) by omega, hx, show ¬ (238 ≤ y) by omega, h]
  omega
 ·simp [difB, highF, show ¬ (240 ≤ y) by omega, hx, show (238 ≤ y) by omega, h]
theorem units_low {r : Int} (h : r < 65536) (us : List Int) : unitsOf r ++ us = r :: us := by simp [unitsOf, h]
theorem units_high {r : Int} (h : 65536 ≤ r) (us : List Int) : unitsOf r ++ us = (55296 + (r - 65536) / 1024) :: (56320 + (r - 65536) % 1024) :: us := by simp [unitsOf, show ¬ r < 65536 by omega]
theorem lex_eq {x y : Int} (a b : List Int) (h : x = y) : lexR (x :: a) (y :: b) = lexR a b := by
 show (if x < y then _ else if x > y then _ else _) = _
 rw [if_neg (by omega), if_neg (by omega)]
theorem lex_lt {x y : Int} (a b : List Int) (h : x < y) : lexR (x :: a) (y :: b) = -1 := by
 show (if x < y then _ else if x > y then _ else _) = _
 rw [if_pos h]
theorem lex_gt {x y : Int} (a b : List Int) (h : y < x) : lexR (x :: a) (y :: b) = 1 := by
 show (if x < y then _ else if x > y then _ else _) = _
 rw [if_neg (by omega), if_pos h]
theorem lex_low {r s : Int} (h : r < 65536) (h2 : s < 65536) (us vs : List Int) (hne : r ≠ s) : lexR (unitsOf r ++ us) (unitsOf s ++ vs) = if r < s then -1 else 1 := by
 rw [units_low h, units_low h2]
 by_cases hl : r < s
 ·rw [lex_lt _ _ hl, if_pos hl]
 ·rw [lex_gt _ _ (by omega), if_neg hl]
theorem lex_high {r s : Int} (h : 65536 ≤ r) (h2 : 65536 ≤ s) (us vs : List Int) (hne : r ≠ s) : lexR (unitsOf r ++ us) (unitsOf s ++ vs) = if r < s then -1 else 1 := by
 rw [units_high h, units_high h2]
 by_cases hq : (r - 65536) / 1024 = (s - 65536) / 1024
 ·rw [lex_eq _ _ (by omega)]
  by_cases hl : r < s
  ·rw [lex_lt _ _ (by omega), if_pos hl]
  ·rw [lex_gt _ _ (by omega), if_neg hl]
 ·by_cases hl : r < s
  ·rw [lex_lt _ _ (by omega), if_pos hl]
  ·rw [lex_gt _ _ (by omega), if_neg hl]
theorem lex_lh {r s : Int} (h : r < 65536) (h2 : 65536 ≤ s) (h3 : s ≤ 1114111) (hr : r < 55296 ∨ 57344 ≤ r) (us vs : List Int) : lexR (unitsOf r ++ us) (unitsOf s ++ vs) = if r < 55296 then -1 else 1 := by
 rw [units_low h, units_high h2]
 by_cases hl : r < 55296
 ·rw [lex_lt _ _ (by omega), if_pos hl]
 ·rw [lex_gt _ _ (by omega), if_neg hl]
theorem lex_hl {r s : Int} (h : s < 65536) (h2 : 65536 ≤ r) (h3 : r ≤ 1114111) (hr : s < 55296 ∨ 57344 ≤ s) (us vs : List Int) : lexR (unitsOf r ++ us) (unitsOf s ++ vs) = if s < 55296 then 1 else -1 := by
 rw [units_low h, units_high h2]
 by_cases hl : s < 55296
 ·rw [lex_gt _ _ (by omega), if_pos hl]
 ·rw [lex_lt _ _ (by omega), if_neg hl]
theorem lex_same {r s : Int} (h : r = s) (us vs : List Int) : lexR (unitsOf r ++ us) (unitsOf s ++ vs) = lexR us vs := by
 subst h
 exact lex_self_append _ _ _
theorem if_congr_iff {p q : Prop} [Decidable p] [Decidable q] (h : p ↔ q) (x y : Int) : (if p then x else y) = if q then x else y := by
 by_cases hp : p
 ·rw [if_pos hp, if_pos (h.1 hp)]
 ·rw [if_neg hp, if_neg (fun hq => hp (h.2 hq))]
theorem units_ne (r : Int) (us : List Int) : ∃ x t, unitsOf r ++ us = x :: t := by
 by_cases h : r < 65536
 ·exact ⟨_, _, units_low h us⟩
 ·exact ⟨_, _, units_high (by omega) us⟩
theorem cmp_right {a ua : List Int} (ha : RightL a ua) : ∀ {b ub : List Int}, RightL b ub → cmpB a b = lexR ua ub := by
 induction ha with
 | nil =>
  intro b ub hb
  cases hb with
  | nil => rfl
  | cons h ht =>
   rename_i r n us
   obtain ⟨x, t, hx⟩ := units_ne r us
   rw [hx]
   have := atR_len h
   match b with
   | [] => simp at this; omega
   | _ :: _ => rfl
 | cons h ht ih =>
  rename_i a r n us
  intro b ub hb
  cases hb with
  | nil =>
   obtain ⟨x, t, hx⟩ := units_ne r us
   rw [hx]
   have := atR_len h
   match a with
   | [] => simp at this; omega
   | _ :: _ => rfl
  | cons h2 ht2 =>
   rename_i s m vs
   rcases at_forms h with ⟨c, t, rfl, rfl, q1, rfl⟩ | ⟨c, d, t, rfl, rfl, q1, q2, q3, q4, rfl⟩ | ⟨c, d, e, t, rfl, rfl, q1, q2, q3, q4, q5, q6, q7, q8, rfl⟩ | ⟨c, d, e, f, t, rfl, rfl, q1, q2, q3, q4, q5, q6, q7, q8, q9, q10, rfl⟩ <;>
   rcases at_forms h2 with ⟨c', t', rfl, rfl, p1, rfl⟩ | ⟨c', d', t', rfl, rfl, p1, p2, p3, p4, rfl⟩ | ⟨c', d', e', t', rfl, rfl, p1, p2, p3, p4, p5, p6, p7, p8, rfl⟩ | ⟨c', d', e', f', t', rfl, rfl, p1, p2, p3, p4, p5, p6, p7, p8, p9, p10, rfl⟩ <;>
   simp only [List.drop_succ_cons, List.drop_zero] at ht ht2 ih
   ·by_cases e1 : r = s
    ·rw [cmpB_eq _ _ e1, lex_same e1]; exact ih ht2
    ·rw [cmpB_ne _ _ e1, difB_low (by omega) (by omega), lex_low (by omega) (by omega) _ _ (by omega)]
   ·rw [cmpB_ne _ _ (by omega), difB_low (by omega) (by omega), lex_low (by omega) (by omega) _ _ (by omega)]; exact if_congr_iff (by omega) _ _
   ·rw [cmpB_ne _ _ (by omega), difB_low (by omega) (by omega), lex_low (by omega) (by omega) _ _ (by omega)]; exact if_congr_iff (by omega) _ _
   ·rw [cmpB_ne _ _ (by omega), difB_lh (by omega) (by omega), lex_lh (by omega) (by omega) (by omega) (by omega)]; exact if_congr_iff (by omega) _ _
   ·rw [cmpB_ne _ _ (by omega), difB_low (by omega) (by omega), lex_low (by omega) (by omega) _ _ (by omega)]; exact if_congr_iff (by omega) _ _
   ·by_cases e1 : c = c'
    ·rw [cmpB_eq _ _ e1]
     by_cases e2 : d = d'
     ·rw [cmpB_eq _ _ e2, lex_same (by omega)]; exact ih ht2
     ·rw [cmpB_ne _ _ e2, difB_low (by omega) (by omega), lex_low (by omega) (by omega) _ _ (by omega)]; exact if_congr_iff (by omega) _ _
    ·rw [cmpB_ne _ _ e1, difB_low (by omega) (by omega), lex_low (by omega) (by omega) _ _ (by omega)]; exact if_congr_iff (by omega) _ _
   ·rw [cmpB_ne _ _ (by omega), difB_low (by omega) (by omega), lex_low (by omega) (by omega) _ _ (by omega)]; exact if_congr_iff (by omega) _ _
   ·rw [cmpB_ne _ _ (by omega), difB_lh (by omega) (by omega), lex_lh (by omega) (by omega) (by omega) (by omega)]; exact if_congr_iff (by omega) _ _
   ·rw [cmpB_ne _ _ (by omega), difB_low (by omega) (by omega), lex_low (by omega) (by omega) _ _ (by omega)]; exact if_congr_iff (by omega) _ _
   ·rw [cmpB_ne _ _ (by omega), difB_low (by omega) (by omega), lex_low (by omega) (by omega) _ _ (by omega)]; exact if_congr_iff (by omega) _ _
   ·by_cases e1 : c = c'
    ·rw [cmpB_eq _ _ e1]
     by_cases e2 : d = d'
     ·rw [cmpB_eq _ _ e2]
      by_cases e3 : e = e'
      ·rw [cmpB_eq _ _ e3, lex_same (by omega)]; exact ih ht2
      ·rw [cmpB_ne _ _ e3, difB_low (by omega) (by omega), lex_low (by omega) (by omega) _ _ (by omega)]; exact if_congr_iff (by omega) _ _
     ·rw [cmpB_ne _ _ e2, difB_low (by omega) (by omega), lex_low (by omega) (by omega) _ _ (by omega)]; exact if_congr_iff (by omega) _ _
    ·rw [cmpB_ne _ _ e1, difB_low (by omega) (by omega), lex_low (by omega) (by omega) _ _ (by omega)]; exact if_congr_iff (by omega) _ _
   ·rw [cmpB_ne _ _ (by omega), difB_lh (by omega) (by omega), lex_lh (by omega) (by omega) (by omega) (by omega)]; exact if_congr_iff (by omega) _ _
   ·rw [cmpB_ne _ _ (by omega), difB_hl (by omega) (by omega), lex_hl (by omega) (by omega) (by omega) (by omega)]; exact if_congr_iff (by omega) _ _
   ·rw [cmpB_ne _ _ (by omega), difB_hl (by omega) (by omega), lex_hl (by omega) (by omega) (by omega) (by omega)]; exact if_congr_iff (by omega) _ _
   ·rw [cmpB_ne _ _ (by omega), difB_hl (by omega) (by omega), lex_hl (by omega) (by omega) (by omega) (by omega)]; exact if_congr_iff (by omega) _ _
   ·by_cases e1 : c = c'
    ·rw [cmpB_eq _ _ e1]
     by_cases e2 : d = d'
     ·rw [cmpB_eq _ _ e2]
      by_cases e3 : e = e'
      ·rw [cmpB_eq _ _ e3]
       by_cases e4 : f = f'
       ·rw [cmpB_eq _ _ e4, lex_same (by omega)]; exact ih ht2
       ·rw [cmpB_ne _ _ e4, difB_low (by omega) (by omega), lex_high (by omega) (by omega) _ _ (by omega)]; exact if_congr_iff (by omega) _ _
      ·rw [cmpB_ne _ _ e3, difB_low (by omega) (by omega), lex_high (by omega) (by omega) _ _ (by omega)]; exact if_congr_iff (by omega) _ _
     ·rw [cmpB_ne _ _ e2, difB_low (by omega) (by omega), lex_high (by omega) (by omega) _ _ (by omega)]; exact if_congr_iff (by omega) _ _
    ·rw [cmpB_ne _ _ e1, difB_high (by omega) (by omega), lex_high (by omega) (by omega) _ _ (by omega)]; exact if_congr_iff (by omega) _ _
theorem cmp_eq {a b : List Int} (ha : rightR a = true) (hb : rightR b = true) : cmpB a b = lexR (unitsR a) (unitsR b) := cmp_right (right_units ha) (right_units hb)
theorem lex_self : ∀ a : List Int, lexR a a = 0
 | [] => rfl
 | x :: a => by rw [lex_eq _ _ rfl]; exact lex_self a
theorem lex_zero : ∀ {a b : List Int}, lexR a b = 0 → a = b
 | [], [], _ => rfl
 | [], _ :: _, h => by cases h
 | _ :: _, [], h => by cases h
 | x :: a, y :: b, h => by
  by_cases h1 : x < y
  ·rw [lex_lt _ _ h1] at h; cases h
  ·by_cases h2 : y < x
   ·rw [lex_gt _ _ h2] at h; cases h
   ·have h3 : x = y := by omega
    rw [lex_eq _ _ h3] at h
    rw [h3, lex_zero h]
theorem lex_range : ∀ a b : List Int, lexR a b = -1 ∨ lexR a b = 0 ∨ lexR a b = 1
 | [], [] => .inr (.inl rfl)
 | [], _ :: _ => .inl rfl
 | _ :: _, [] => .inr (.inr rfl)
 | x :: a, y :: b => by
  by_cases h1 : x < y
  ·rw [lex_lt _ _ h1]; exact .inl rfl
  ·by_cases h2 : y < x
   ·rw [lex_gt _ _ h2]; exact .inr (.inr rfl)
   ·rw [lex_eq _ _ (by omega)]; exact lex_range a b
theorem lex_swap : ∀ a b : List Int, lexR b a = - lexR a b
 | [], [] => rfl
 | [], _ :: _ => rfl
 | _ :: _, [] => rfl
 | x :: a, y :: b => by
  by_cases h1 : x < y
  ·rw [lex_lt _ _ h1, lex_gt _ _ h1]; rfl
  ·by_cases h2 : y < x
   ·rw [lex_gt _ _ h2, lex_lt _ _ h2]
   ·rw [lex_eq _ _ (by omega), lex_eq _ _ (by omega)]; exact lex_swap a b
theorem lex_trans : ∀ {a b c : List Int}, lexR a b < 0 → lexR b c < 0 → lexR a c < 0
 | [], [], _, h, _ => by cases h
 | _ :: _, [], _, h, _ => by cases h
 | _, _ :: _, [], _, h => by cases h
 | [], _ :: _, _ :: _, _, _ => by show (-1 : Int) < 0; decide
 | x :: a, y :: b, z :: c, h, h2 => by
  by_cases h3 : y < x
  ·rw [lex_gt _ _ h3] at h; exact absurd h (by decide)
  by_cases h4 : z < y
  ·rw [lex_gt _ _ h4] at h2; exact absurd h2 (by decide)
  by_cases h5 : x < z
  ·rw [lex_lt _ _ h5]; decide
  have e1 : x = y := by omega
  have e2 : y = z := by omega
  rw [lex_eq _ _ e1] at h
  rw [lex_eq _ _ e2] at h2
  rw [lex_eq _ _ (e1.trans e2)]
  exact lex_trans h h2
theorem difB_nz (x y : Int) : difB x y ≠ 0 := by
 unfold difB
 repeat' split
 all_goals decide
theorem cmpB_zero : ∀ {a b : List Int}, cmpB a b = 0 → a = b
 | [], [], _ => rfl
 | [], _ :: _, h => by cases h
 | _ :: _, [], h => by cases h
 | x :: a, y :: b, h => by
  by_cases h1 : x = y
  ·rw [cmpB_eq _ _ h1] at h
   rw [h1, cmpB_zero h]
  ·rw [cmpB_ne _ _ h1] at h
   exact absurd h (difB_nz x y)
def ltU (a b : List Int) : Prop := lexR (unitsR a) (unitsR b) < 0
theorem ltU_irrefl (a : List Int) : ¬ ltU a a := by
 unfold ltU
 rw [lex_self]
 decide
theorem ltU_trans {a b c : List Int} (h : ltU a b) (h2 : ltU b c) : ltU a c := lex_trans h h2
theorem ltU_tri {a b : List Int} (ha : rightR a = true) (hb : rightR b = true) : ltU a b ∨ a = b ∨ ltU b a := by
 unfold ltU
 rcases lex_range (unitsR a) (unitsR b) with h | h | h
 ·exact .inl (by omega)
 ·rw [← cmp_eq ha hb] at h
  exact .inr (.inl (cmpB_zero h))
 ·rw [lex_swap (unitsR a) (unitsR b)]
  exact .inr (.inr (by omega))
theorem rising_unique {α : Type} (lt : α → α → Prop) (irr : ∀ x, ¬ lt x x) (tr : ∀ x y z, lt x y → lt y z → lt x z) :
  ∀ (l m : List α), l.Pairwise lt → m.Pairwise lt → (∀ x, x ∈ l ↔ x ∈ m) → l = m
 | [], [], _, _, _ => rfl
 | [], y :: m, _, _, h => by simpa using (h y).2 (by simp)
 | x :: l, [], _, _, h => by simpa using (h x).1 (by simp)
 | x :: l, y :: m, hl, hm, h => by
  have hl' := List.pairwise_cons.1 hl
  have hm' := List.pairwise_cons.1 hm
  have hxy : x = y := by
   rcases List.mem_cons.1 ((h x).1 (by simp)) with e | e
   ·exact e
   ·rcases List.mem_cons.1 ((h y).2 (by simp)) with e2 | e2
    ·exact e2.symm
    ·exact absurd (tr _ _ _ (hl'.1 y e2) (hm'.1 x e)) (irr x)
  subst hxy
  refine congrArg (x :: ·) (rising_unique lt irr tr l m hl'.2 hm'.2 fun z => ⟨fun hz => ?_, fun hz => ?_⟩)
  ·rcases List.mem_cons.1 ((h z).1 (by simp [hz])) with e | e
   ·subst e
    exact absurd (hl'.1 z hz) (irr z)
   ·exact e
  ·rcases List.mem_cons.1 ((h z).2 (by simp [hz])) with e | e
   ·subst e
    exact absurd (hm'.1 z hz) (irr z)
   ·exact e
end Go.Utf
