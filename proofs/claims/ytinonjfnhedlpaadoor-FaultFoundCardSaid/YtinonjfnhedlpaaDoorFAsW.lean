/-
  WALKS: errors.as, at the five targets of errors.As.
-/
import Derived.Test.YtinonjfnhedlpaaDoorFAsK
import Derived.Test.YtinonjfnhedlpaaDoorFFirstW
set_option linter.unusedSimpArgs false
namespace Go.Fault
open Go Go.RowKit Go.Aff
theorem VT.items_snd (t : VT) : ∀ d, (t.items d).map (·.2) = (t.items 1).map (·.2) := by
  induction t using VT.ind with
  | h5 b wd e ih =>
    intro d
    simp only [VT.items, List.map_cons]
    congr 1
    cases e.isNil
    · simp only [Bool.false_eq_true, if_false]
      rw [ih (d + 1), ih (1 + 1)]
    · rfl
  | h6 A c l ih =>
    intro d
    simp only [VT.items, List.map_cons, List.map_flatten, List.map_map]
    congr 2
    exact List.map_congr_left fun x hx => (ih x hx (d + 1)).trans (ih x hx (1 + 1)).symm
  | _ => intro d; simp [VT.items]
theorem firstT_eq (P : VT → Bool) (t : VT) (d : Nat) : firstT P t = ((t.items d).map (·.2)).find? P := by
  rw [VT.items_snd, List.find?_map]
  rfl
theorem firstT_spot (P : VT → Bool) (n a : Int) : firstT P (.spot n a) = if P (.spot n a) then some (.spot n a) else firstT P (.num n) := by
  rw [firstT_eq P (.spot n a) 1, firstT_eq P (.num n) 1]
  simp only [VT.items, List.map_cons, List.map_nil, List.find?_cons]
  cases P (.spot n a) <;> rfl
theorem firstT_trail (P : VT → Bool) (n : Int) (s : ByteArray) : firstT P (.trail n s) = if P (.trail n s) then some (.trail n s) else firstT P (.num n) := by
  rw [firstT_eq P (.trail n s) 1, firstT_eq P (.num n) 1]
  simp only [VT.items, List.map_cons, List.map_nil, List.find?_cons]
  cases P (.trail n s) <;> rfl
theorem firstT_num (P : VT → Bool) (n : Int) : firstT P (.num n) = if P (.num n) then some (.num n) else none := by
  rw [firstT_eq P (.num n) 1]
  simp only [VT.items, List.map_cons, List.map_nil, List.find?_cons, List.find?_nil]
  cases P (.num n) <;> rfl
theorem firstT_gone (P : VT → Bool) : firstT P .gone = if P .gone then some .gone else none := by
  rw [firstT_eq P .gone 1]
  simp only [VT.items, List.map_cons, List.map_nil, List.find?_cons, List.find?_nil]
  cases P .gone <;> rfl
theorem firstT_nil (P : VT → Bool) (h : P .nil = false) : firstT P .nil = none := by
  rw [firstT_eq P .nil 1]
  simp [VT.items, h]
theorem firstT_note (P : VT → Bool) (hn : P .nil = false) (b : Nat) (wd : ByteArray) (e : VT) : firstT P (.note b wd e) = if P (.note b wd e) then some (.note b wd e) else firstT P e := by
  rw [firstT_eq P (.note b wd e) 1]
  simp only [VT.items, List.map_cons, List.find?_cons]
  cases P (.note b wd e)
  · cases h : e.isNil
    · rw [firstT_eq P e 2]
      simp
    · obtain rfl : e = .nil := by cases e <;> simp [VT.isNil] at h ⊢
      rw [firstT_nil P hn]
      simp
  · rfl
theorem firstT_all (P : VT → Bool) (A : Option Addr) (c : Nat) (l : List VT) : firstT P (.all A c l) = if P (.all A c l) then some (.all A c l) else l.findSome? (firstT P) := by
  rw [firstT_eq P (.all A c l) 1]
  simp only [VT.items, List.map_cons, List.find?_cons]
  cases P (.all A c l)
  · simp only [Bool.false_eq_true, if_false]
    induction l with
    | nil => rfl
    | cons x l ih =>
      rw [List.map_cons, List.flatten_cons, List.map_append, List.find?_append, List.findSome?_cons, ih, ← firstT_eq P x]
      cases firstT P x <;> rfl
  · rfl
end Go.Fault
namespace Go.Proofs.YtinonjfnhedlpaaDoor
open Go Go.RowKit Go.Extern.Stop Go.Stop Go.Extern Go.Aff Go.Fault
/-- A value's cells. -/
def cellsV : VT → List Value
  | .nil => []
  | .num n => [.int .i64 n]
  | .spot n a => [.int .i64 n, .int .i64 a]
  | .trail n s => [.int .i64 n, .string s]
  | .gone => [.pointer none]
  | .note b _ _ => [.pointer (some ⟨b, 0, none⟩)]
  | .all A c l => [.slice A l.length c]
/-- What errors.as, errors.As hand back. -/
def AsPost (w : World) (tgt : Nat) (T : TypeId) (o : Option VT) (e : Ending) (w' : World) : Prop :=
  match o with
  | none => e = .returned (.bool false) ∧ Keeps (fun _ => False) w w'
  | some x => e = .returned (.bool true) ∧ Keeps (fun i => i = tgt) w w' ∧ Blk w' tgt T (cellsV x)
theorem AsPost.from {w w1 w2 : World} {tgt : Nat} {T : TypeId} {o : Option VT} {e : Ending} (k : Keeps (fun _ => False) w w1) (h : AsPost w1 tgt T o e w2) : AsPost w tgt T o e w2 := by
  cases o with
  | none => exact ⟨h.1, k.trans h.2 (fun _ _ h => h)⟩
  | some x => exact ⟨h.1, (k.mono (fun _ _ h => h.elim)).trans h.2.1 (fun _ _ h => h), h.2.2⟩
/-- While an error is unwrapped. -/
structure AsInv (w wr : World) (P : VT → Bool) (t t' : VT) (k : Nat) (D : Nat → Prop) (vv0 : List Value) : Prop where
  le : SizeOf.sizeOf t' ≤ k + 1
  same : firstT P t' = firstT P t
  some_ : t'.isNil = false
  at_ : At D wr t'
  keep : Keeps (fun _ => False) w wr
  box : Blk wr w.heap.size 85 vv0
/-- While a list's errors are asked. -/
structure AsLi (wr w2 : World) (P : VT → Bool) (l : List VT) (A : Option Addr) (m j : Nat) : Prop where
  keep : Keeps (fun _ => False) wr w2
  row : Rd w2 A m (l.map vv)
  none_ : ∀ q x, q < j → l[q]? = some x → firstT P x = none
theorem findSome_at {P : VT → Bool} {l : List VT} {j : Nat} {x : VT} {o : Option VT} (h : ∀ q y, q < j → l[q]? = some y → firstT P y = none) (hx : l[j]? = some x) (ho : firstT P x = o) (hs : o.isSome = true) : l.findSome? (firstT P) = o := by
  induction l generalizing j with
  | nil => cases hx
  | cons y l ih =>
    cases j with
    | zero =>
      simp only [List.getElem?_cons_zero, Option.some.injEq] at hx
      subst hx
      rw [List.findSome?_cons, ho]
      cases o with
      | none => cases hs
      | some z => rfl
    | succ j =>
      rw [List.findSome?_cons, h 0 y (by omega) rfl]
      exact ih (fun q z hq hz => h (q + 1) z (by omega) hz) hx
theorem findSome_none {P : VT → Bool} {l : List VT} (h : ∀ q y, q < l.length → l[q]? = some y → firstT P y = none) : l.findSome? (firstT P) = none := by
  rw [List.findSome?_eq_none_iff]
  intro x hx
  obtain ⟨q, hq⟩ := List.getElem?_of_mem hx
  exact h q x (List.getElem?_eq_some_iff.1 hq).1 hq
end Go.Proofs.YtinonjfnhedlpaaDoor
