/-
  Errors as trees: what is in one, how deep, as assertions tell it; the steps that make them. Plain, but for the values' types.
-/
import Derived.Test.YtinonjfnhedlpaaDoorMemK
set_option linter.unusedSimpArgs false
namespace Go.Fault
open Go Go.RowKit Go.Aff
/-- An error, and where it lies (a note's block; a list's slice). -/
inductive VT where
  | nil
  | num (n : Int)
  | spot (n at_ : Int)
  | trail (n : Int) (txt : ByteArray)
  | gone
  | note (b : Nat) (word : ByteArray) (e : VT)
  | all (A : Option Addr) (c : Nat) (l : List VT)
theorem VT.size_note (b : Nat) (w : ByteArray) (e : VT) : SizeOf.sizeOf e < SizeOf.sizeOf (VT.note b w e) := by simp; omega
theorem VT.size_all {A : Option Addr} {c : Nat} {l : List VT} {x : VT} (h : x ∈ l) : SizeOf.sizeOf x < SizeOf.sizeOf (VT.all A c l) := by
  have := List.sizeOf_lt_of_mem h
  simp
  omega
theorem VT.ind {P : VT → Prop} (h0 : P .nil) (h1 : ∀ n, P (.num n)) (h2 : ∀ n a, P (.spot n a)) (h3 : ∀ n s, P (.trail n s)) (h4 : P .gone) (h5 : ∀ b w e, P e → P (.note b w e)) (h6 : ∀ A c l, (∀ x, x ∈ l → P x) → P (.all A c l)) : ∀ t, P t
  | .nil => h0
  | .num n => h1 n
  | .spot n a => h2 n a
  | .trail n s => h3 n s
  | .gone => h4
  | .note b w e => h5 b w e (VT.ind h0 h1 h2 h3 h4 h5 h6 e)
  | .all A c l => h6 A c l fun x _ => VT.ind h0 h1 h2 h3 h4 h5 h6 x
termination_by t => SizeOf.sizeOf t
decreasing_by
  · exact VT.size_note _ _ _
  · exact VT.size_all (by assumption)
/-- Wherever it lies. -/
def VT.erase : VT → VT
  | .note _ w e => .note 0 w e.erase
  | .all _ _ l => .all none 0 (l.map fun x => x.erase)
  | t => t
def VT.isNil : VT → Bool
  | .nil => true
  | _ => false
/-- How deep it is, as the program counts. -/
def maxL : List Nat → Nat
  | [] => 0
  | x :: l => max x (maxL l)
def VT.deep : VT → Nat
  | .spot _ _ => 2
  | .trail _ _ => 2
  | .note _ _ e => (if e.isNil then 0 else e.deep) + 1
  | .all _ _ l => maxL (l.map fun x => x.deep) + 1
  | _ => 1
/-- All that is in it, in order, each with its depth. -/
def VT.items (d : Nat) : VT → List (Nat × VT)
  | .spot n a => [(d, .spot n a), (d + 1, .num n)]
  | .trail n s => [(d, .trail n s), (d + 1, .num n)]
  | .note b w e => (d, .note b w e) :: (if e.isNil then [] else e.items (d + 1))
  | .all A c l => (d, .all A c l) :: (l.map fun x => x.items (d + 1)).flatten
  | t => [(d, t)]
/-- Its blocks. -/
def VT.blocks : VT → List Nat
  | .note b _ e => b :: e.blocks
  | .all A _ l => (match A with | some a => [a.block] | none => []) ++ (l.map fun x => x.blocks).flatten
  | _ => []
theorem VT.isNil_erase (t : VT) : t.erase.isNil = t.isNil := by cases t <;> simp [VT.erase, VT.isNil]
theorem VT.deep_erase (t : VT) : t.erase.deep = t.deep := by
  induction t using VT.ind with
  | h5 b w e ih => simp only [VT.erase, VT.deep, VT.isNil_erase, ih]
  | h6 A c l ih =>
    simp only [VT.erase, VT.deep, List.map_map]
    congr 2
    exact List.map_congr_left fun x hx => ih x hx
  | _ => simp [VT.erase]
/-- An item, wherever it lies. -/
def plainI (p : Nat × VT) : Nat × VT := (p.1, p.2.erase)
theorem VT.items_erase (t : VT) : ∀ d, t.erase.items d = (t.items d).map plainI := by
  induction t using VT.ind with
  | h5 b w e ih =>
    intro d
    simp only [VT.erase, VT.items, VT.isNil_erase, List.map_cons, plainI]
    cases he : e.isNil
    · simp only [ih (d + 1)]
      rfl
    · simp
  | h6 A c l ih =>
    intro d
    simp only [VT.erase, VT.items, List.map_cons, List.map_map, List.map_flatten, plainI]
    congr 2
    exact List.map_congr_left fun x hx => ih x hx (d + 1)
  | _ => intro d; simp [VT.erase, VT.items, plainI]
theorem VT.items_head (t : VT) (d : Nat) : ∃ l, t.items d = (d, t) :: l := by
  cases t <;> simp [VT.items]
theorem mem_maxL {l : List Nat} {x : Nat} (h : x ∈ l) : x ≤ maxL l := by
  induction l with
  | nil => cases h
  | cons y l ih =>
    unfold maxL
    rcases List.mem_cons.1 h with rfl | h
    · omega
    · have := ih h; omega
theorem VT.deep_pos (t : VT) : 1 ≤ t.deep := by cases t <;> simp [VT.deep]
/-- No item is deeper than it is. -/
theorem VT.items_deep (t : VT) : ∀ d p, p ∈ t.items d → d ≤ p.1 ∧ p.1 < d + t.deep := by
  induction t using VT.ind with
  | h5 b w e ih =>
    intro d p hp
    simp only [VT.items, List.mem_cons] at hp
    rcases hp with rfl | hp
    · simp [VT.deep]
    · cases he : e.isNil
      · rw [he] at hp
        have := ih (d + 1) p (by simpa using hp)
        simp only [VT.deep, he]
        simp
        omega
      · rw [he] at hp; simp at hp
  | h6 A c l ih =>
    intro d p hp
    simp only [VT.items, List.mem_cons, List.mem_flatten, List.mem_map] at hp
    rcases hp with rfl | ⟨q, ⟨x, hx, rfl⟩, hp⟩
    · simp [VT.deep]
    · have h1 := ih x hx (d + 1) p hp
      have h2 : x.deep ≤ maxL (l.map fun x => x.deep) := mem_maxL (List.mem_map.2 ⟨x, hx, rfl⟩)
      simp only [VT.deep]
      omega
  | h2 n a => intro d p hp; simp [VT.items] at hp; rcases hp with rfl | rfl <;> simp [VT.deep]
  | h3 n s => intro d p hp; simp [VT.items] at hp; rcases hp with rfl | rfl <;> simp [VT.deep]
  | _ => intro d p hp; simp [VT.items] at hp; subst hp; simp [VT.deep]

/-- A step. -/
structure CauseV where
  kind : Int
  no : Int
  at_ : Int
  text : ByteArray
  count : Int
/-- A step on a pile, the last one at the end: the number of what is wrong, or 0; the new pile. -/
def stepF (P : List VT) (c : CauseV) : Int × List VT :=
  if c.kind = 1 then (0, P ++ [.nil])
  else if c.kind = 2 then (0, P ++ [.num c.no])
  else if c.kind = 3 then (0, P ++ [.spot c.no c.at_])
  else if c.kind = 4 then (0, P ++ [.trail c.no c.text])
  else if c.kind = 6 then (0, P ++ [.gone])
  else if c.kind = 5 then
    match P.getLast? with
    | none => (80, P)
    | some e => if (VT.note 0 c.text e).deep ≤ 512 then (0, P.dropLast ++ [.note 0 c.text e]) else (3, P)
  else if c.kind = 7 then
    if c.count < 0 ∨ (P.length : Int) < c.count then (80, P)
    else if (VT.all none 0 (P.drop (P.length - c.count.toNat))).deep ≤ 512 then (0, P.take (P.length - c.count.toNat) ++ [.all none 0 (P.drop (P.length - c.count.toNat))]) else (3, P)
  else (80, P)
/-- The steps, from a place on. -/
def runF (P : List VT) (i : Nat) : List CauseV → (Int × Nat) ⊕ List VT
  | [] => .inr P
  | c :: cs => if (stepF P c).1 = 0 then runF (stepF P c).2 (i + 1) cs else .inl ((stepF P c).1, i)
/-- What is made, or what is wrong and where. -/
def buildF (cs : List CauseV) : (Int × Nat) ⊕ VT :=
  if 65536 < cs.length then .inl (3, 65536)
  else match runF [] 0 cs with
    | .inl e => .inl e
    | .inr [t] => .inr t
    | .inr _ => .inl (81, cs.length)
theorem stepF_err (P : List VT) (c : CauseV) : (stepF P c).1 = 0 ∨ (stepF P c).1 = 80 ∨ (stepF P c).1 = 3 := by
  unfold stepF
  repeat' split
  all_goals simp
theorem runF_err (cs : List CauseV) : ∀ (P : List VT) (i : Nat) (e : Int × Nat), runF P i cs = .inl e → e.1 ≠ 0 := by
  induction cs with
  | nil => intro P i e h; cases h
  | cons c cs ih =>
    intro P i e h
    unfold runF at h
    split at h
    · exact ih _ _ _ h
    · injection h with h
      subst h
      assumption
theorem buildF_err {cs : List CauseV} {e : Int × Nat} (h : buildF cs = .inl e) : e.1 ≠ 0 := by
  unfold buildF at h
  split at h
  · injection h with h; subst h; decide
  · split at h
    · injection h with h; subst h
      exact runF_err _ _ _ _ (by assumption)
    · cases h
    · injection h with h; subst h; simp
end Go.Fault
namespace Go.Proofs.YtinonjfnhedlpaaDoor
open Go Go.RowKit Go.Aff Go.Fault
/-- The error's value. -/
def vv : VT → Value
  | .nil => .nilIface
  | .num n => .iface 33 (.int .i64 n)
  | .spot n a => .iface 40 (.agg #[.int .i64 n, .int .i64 a])
  | .trail n s => .iface 42 (.agg #[.int .i64 n, .string s])
  | .gone => .iface 43 (.pointer none)
  | .note b _ _ => .iface 43 (.pointer (some ⟨b, 0, none⟩))
  | .all A c l => .iface 45 (.slice A l.length c)
/-- It lies in memory, in blocks of B. -/
def At (B : Nat → Prop) (w : World) : VT → Prop
  | .note b wd e => B b ∧ Blk w b 59 [.string wd, vv e] ∧ At B w e
  | .all A c l => l.length ≤ 1048576 ∧ w.ownsRow 0 24 1 (.slice A l.length c) l.length (l.map vv) ∧ (∀ g, (Value.slice A l.length c).ownBlock = some g → B g) ∧ ∀ x, x ∈ l → At B w x
  | _ => True
theorem At.keep {B F : Nat → Prop} {w w' : World} {t : VT} (h : At B w t) (hk : Keeps F w w') (hF : ∀ i, B i → ¬ F i) : At B w' t := by
  induction t using VT.ind with
  | h5 b wd e ih =>
    simp only [At] at h ⊢
    exact ⟨h.1, hk.blk h.2.1 (hF b h.1), ih h.2.2⟩
  | h6 A c l ih =>
    simp only [At] at h ⊢
    exact ⟨h.1, hk.own h.2.1 (fun g hg => hF g (h.2.2.1 g hg)), h.2.2.1, fun x hx => ih x hx (h.2.2.2 x hx)⟩
  | _ => simp [At]
theorem At.mono {B C : Nat → Prop} {w : World} {t : VT} (h : At B w t) (hC : ∀ i, B i → i < w.heap.size → C i) : At C w t := by
  induction t using VT.ind with
  | h5 b wd e ih =>
    simp only [At] at h ⊢
    exact ⟨hC b h.1 h.2.1.lt, h.2.1, ih h.2.2⟩
  | h6 A c l ih =>
    simp only [At] at h ⊢
    exact ⟨h.1, h.2.1, fun g hg => hC g (h.2.2.1 g hg) (h.2.1.lt g hg).2, fun x hx => ih x hx (h.2.2.2 x hx)⟩
  | _ => simp [At]
/-- What assertions tell of it. -/
def seenV (d : Nat) : VT → List Value
  | .nil => [.int .i64 1, .int .i64 d, .int .i64 0, .int .i64 0, .string ⟨#[]⟩, .int .i64 0]
  | .num n => [.int .i64 2, .int .i64 d, .int .i64 n, .int .i64 0, .string ⟨#[]⟩, .int .i64 0]
  | .spot n a => [.int .i64 3, .int .i64 d, .int .i64 n, .int .i64 a, .string ⟨#[]⟩, .int .i64 0]
  | .trail n s => [.int .i64 4, .int .i64 d, .int .i64 n, .int .i64 0, .string s, .int .i64 0]
  | .gone => [.int .i64 6, .int .i64 d, .int .i64 0, .int .i64 0, .string ⟨#[]⟩, .int .i64 0]
  | .note _ wd _ => [.int .i64 5, .int .i64 d, .int .i64 0, .int .i64 0, .string wd, .int .i64 0]
  | .all _ _ l => [.int .i64 7, .int .i64 d, .int .i64 0, .int .i64 0, .string ⟨#[]⟩, .int .i64 l.length]
theorem seenV_erase (d : Nat) (t : VT) : seenV d t.erase = seenV d t := by cases t <;> simp [VT.erase, seenV]
theorem seenV_length (d : Nat) (t : VT) : (seenV d t).length = 6 := by cases t <;> rfl
theorem seenV_one (d : Nat) (t : VT) : ∀ u ∈ seenV d t, u.oneCell' = true := by
  cases t <;> intro u hu <;> simp [seenV] at hu <;> rcases hu with rfl | rfl | rfl | rfl | rfl | rfl <;> rfl
end Go.Proofs.YtinonjfnhedlpaaDoor
