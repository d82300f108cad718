/-
  Four hashes in turns, held against the reference's: what lies in memory, and what the calls do to it.
-/
import Derived.Test.YtgblndddcbfdiaaDoorOkBW
import Derived.Test.YtgblndddcbfdiaaDoorResumeNW
import Derived.Test.YtgblndddcbfdiaaDoorResumeLW
set_option linter.unusedSimpArgs false
namespace Go.Proofs.YtgblndddcbfdiaaDoor
open Go Go.RowKit Go.Sha Go.Aff

/-- A function with another value at one place. -/
def up {α : Type} (f : Nat → α) (i : Nat) (x : α) : Nat → α := fun j => if j = i then x else f j
theorem up_at {α : Type} (f : Nat → α) (i : Nat) (x : α) : up f i x i = x := by simp [up]
theorem up_ne {α : Type} (f : Nat → α) {i j : Nat} (x : α) (h : j ≠ i) : up f i x j = f j := by simp [up, h]
def four (f : Nat → Value) : List Value := [f 0, f 1, f 2, f 3]
theorem four_at (f : Nat → Value) {i : Nat} (hi : i < 4) : (four f)[i]? = some (f i) := by
  rcases (show i = 0 ∨ i = 1 ∨ i = 2 ∨ i = 3 by omega) with rfl | rfl | rfl | rfl <;> rfl
theorem four_length (f : Nat → Value) : (four f).length = 4 := rfl

/-- A place: the hash that is there or none; the reference's, of S, nb blocks behind it, X written; its rest in A. -/
structure Slot where
  q : Option Nat
  v : Value
  S : Nat → Int
  nb : Nat
  X : List Int
  A : Option Addr
  c : Nat
def Slot.ptr (s : Slot) : Value := .pointer (s.q.map fun p => ⟨p, 0, none⟩)
def Slot.there (s : Slot) : Value := .bool s.q.isSome
def Slot.row (s : Slot) : List Value := hcells (stN s.S s.X (s.X.length / 64)) ((s.nb + s.X.length / 64 : Nat) : Int) (.slice s.A (s.X.length % 64) s.c)
def Slot.foot (s : Slot) (x : Nat) : Prop := ∃ p, s.q = some p ∧ Foot p s.v x
structure Slot.OK (w : World) (s : Slot) : Prop where
  at_ : ∀ p, s.q = some p → HashAt w p s.v s.S s.nb s.X
  rd : Rd w s.A (s.X.length % 64) (vb (s.X.drop (64 * (s.X.length / 64))))
  by_ : IsBytes s.X
  le : 64 * s.nb + s.X.length < 2305843009213693952
theorem Slot.row_length (s : Slot) : s.row.length = 10 := hcells_length _ _ _
theorem Slot.row_one (s : Slot) : ∀ u ∈ s.row, u.oneCell' = true := hcells_one _ _ _ _ _
theorem Slot.OK.keep {F : Nat → Prop} {w w' : World} {s : Slot} (h : s.OK w) (hk : Keeps F w w') (hF : ∀ x, s.foot x → ¬ F x) (hA : Out F s.A (s.X.length % 64)) : s.OK w' :=
  ⟨fun p hp => (h.at_ p hp).keep hk (fun x hx => hF x ⟨p, hp, hx⟩), h.rd.keep hk hA, h.by_, h.le⟩
theorem Slot.OK.lt {w : World} {s : Slot} (h : s.OK w) : ∀ x, s.foot x → x < w.heap.size := fun x ⟨p, hp, hx⟩ => (h.at_ p hp).lt x hx
theorem Slot.OK.off {w : World} {s : Slot} (h : s.OK w) {t : TypeId} {g : Nat} {cs : List Value} (hb : Blk w g t cs) (h2 : 88 ≠ t) (h3 : 5 ≠ t) : ¬ s.foot g := by
  rintro ⟨p, hp, e | e⟩
  · exact (h.at_ p hp).1.ne_ hb h2 e.symm
  · exact own_blk (h.at_ p hp).2.1 hb h3 e

def rows (s : Nat → Slot) : List Value := (s 0).row ++ ((s 1).row ++ ((s 2).row ++ (s 3).row))
theorem rows_length (s : Nat → Slot) : (rows s).length = 40 := by simp [rows, Slot.row_length]
theorem rows_take (s : Nat → Slot) {i : Nat} (hi : i < 4) : ((rows s).drop (i * 10)).take 10 = (s i).row := by
  have h0 := (s 0).row_length
  have h1 := (s 1).row_length
  have h2 := (s 2).row_length
  have h3 := (s 3).row_length
  unfold rows
  rcases (show i = 0 ∨ i = 1 ∨ i = 2 ∨ i = 3 by omega) with rfl | rfl | rfl | rfl
  · rw [Nat.zero_mul, List.drop_zero, List.take_left' h0]
  · rw [List.drop_left' (by omega), List.take_left' h1]
  · rw [show 2 * 10 = 10 + 10 by rfl, ← List.drop_drop, List.drop_left' h0, List.drop_left' h1, List.take_left' h2]
  · rw [show 3 * 10 = 10 + (10 + 10) by rfl, ← List.drop_drop, List.drop_left' h0, ← List.drop_drop, List.drop_left' h1, List.drop_left' h2, List.take_of_length_le (by omega)]
theorem splice_mid (a b c x : List Value) (h : b.length = x.length) : Go.Aff.splice (a ++ (b ++ c)) a.length x = a ++ (x ++ c) := by
  unfold Go.Aff.splice
  rw [List.take_left' rfl, ← List.drop_drop, List.drop_left' rfl, ← h, List.drop_left' rfl, List.append_assoc]
theorem rows_splice (s : Nat → Slot) {k : Nat} (hk : k < 4) (sl : Slot) : Go.Aff.splice (rows s) (k * 10) sl.row = rows (up s k sl) := by
  have h0 := (s 0).row_length
  have h1 := (s 1).row_length
  have h2 := (s 2).row_length
  have h3 := (s 3).row_length
  have hs := sl.row_length
  unfold rows
  rcases (show k = 0 ∨ k = 1 ∨ k = 2 ∨ k = 3 by omega) with rfl | rfl | rfl | rfl
  · have := splice_mid [] (s 0).row ((s 1).row ++ ((s 2).row ++ (s 3).row)) sl.row (by omega)
    simpa [up] using this
  · have := splice_mid (s 0).row (s 1).row ((s 2).row ++ (s 3).row) sl.row (by omega)
    rw [h0] at this
    simpa [up] using this
  · have := splice_mid ((s 0).row ++ (s 1).row) (s 2).row (s 3).row sl.row (by omega)
    rw [List.length_append, h0, h1] at this
    simpa [up, List.append_assoc] using this
  · have := splice_mid ((s 0).row ++ ((s 1).row ++ (s 2).row)) (s 3).row [] sl.row (by omega)
    rw [List.length_append, List.length_append, h0, h1, h2] at this
    simpa [up, List.append_assoc] using this
theorem four_set (s : Nat → Slot) (F : Slot → Value) {k : Nat} (hk : k < 4) (sl : Slot) : (four fun i => F (s i)).set k (F sl) = four fun i => F (up s k sl i) := by
  rcases (show k = 0 ∨ k = 1 ∨ k = 2 ∨ k = 3 by omega) with rfl | rfl | rfl | rfl <;> simp [four, up]
theorem four_same (s : Nat → Slot) (F : Slot → Value) {k : Nat} (hk : k < 4) {x : Value} (hx : x = F (s k)) : (four fun i => F (s i)).set k x = four fun i => F (s i) := by
  subst hx
  rcases (show k = 0 ∨ k = 1 ∨ k = 2 ∨ k = 3 by omega) with rfl | rfl | rfl | rfl <;> simp [four]

/-- What none of the rests may lie in. -/
def Tk (gl gw gt : Nat) (s : Nat → Slot) (x : Nat) : Prop := x = gl ∨ x = gw ∨ x = gt ∨ ∃ j, j < 4 ∧ (s j).foot x
structure Plays (w wr : World) (gl gw gt : Nat) (s : Nat → Slot) : Prop where
  ok : ∀ i, i < 4 → (s i).OK wr
  bl : Blk wr gl 66 (four fun i => (s i).ptr)
  bw : Blk wr gw 68 (rows s)
  bt : Blk wr gt 69 (four fun i => (s i).there)
  low : ∀ x, Tk gl gw gt s x → w.heap.size ≤ x
  apart : ∀ i j, i < 4 → j < 4 → i ≠ j → ∀ x, (s i).foot x → ¬ (s j).foot x
  out : ∀ i, i < 4 → Out (Tk gl gw gt s) (s i).A ((s i).X.length % 64)
  keep : Keeps (fun _ => False) w wr
section
variable {w wr w' : World} {gl gw gt : Nat} {s : Nat → Slot}
theorem Plays.read (h : Plays w wr gl gw gt s) (hk : Keeps (fun _ => False) wr w') : Plays w w' gl gw gt s :=
  ⟨fun i hi => (h.ok i hi).keep hk (fun _ _ h => h) (no_out _ _), hk.blk h.bl (fun h => h), hk.blk h.bw (fun h => h), hk.blk h.bt (fun h => h), h.low, h.apart, h.out, h.keep.trans hk (fun _ _ h => h)⟩
theorem Plays.lt (h : Plays w wr gl gw gt s) : ∀ x, Tk gl gw gt s x → x < wr.heap.size := by
  rintro x (rfl | rfl | rfl | ⟨j, hj, hf⟩)
  · exact h.bl.lt
  · exact h.bw.lt
  · exact h.bt.lt
  · exact (h.ok j hj).lt x hf
theorem Plays.n1 (h : Plays w wr gl gw gt s) : gl ≠ gw := fun e => h.bl.ne_ h.bw (by decide) e
theorem Plays.n2 (h : Plays w wr gl gw gt s) : gl ≠ gt := fun e => h.bl.ne_ h.bt (by decide) e
theorem Plays.n3 (h : Plays w wr gl gw gt s) : gw ≠ gt := fun e => h.bw.ne_ h.bt (by decide) e
theorem Plays.offs (h : Plays w wr gl gw gt s) {i : Nat} (hi : i < 4) : ¬ (s i).foot gl ∧ ¬ (s i).foot gw ∧ ¬ (s i).foot gt :=
  ⟨(h.ok i hi).off h.bl (by decide) (by decide), (h.ok i hi).off h.bw (by decide) (by decide), (h.ok i hi).off h.bt (by decide) (by decide)⟩
/-- A place is laid anew. -/
theorem Plays.put (h : Plays w wr gl gw gt s) {k : Nat} (hk : k < 4) {sl : Slot} (hK : Keeps (fun x => x = gl ∨ x = gw ∨ x = gt ∨ (s k).foot x) wr w')
    (b1 : Blk w' gl 66 ((four fun i => (s i).ptr).set k sl.ptr)) (b2 : Blk w' gw 68 (Go.Aff.splice (rows s) (k * 10) sl.row)) (b3 : Blk w' gt 69 ((four fun i => (s i).there).set k sl.there))
    (hok : sl.OK w') (hnew : ∀ x, sl.foot x → (s k).foot x ∨ wr.heap.size ≤ x) (hA : ∀ ad, 0 < sl.X.length % 64 → sl.A = some ad → ¬ (ad.block = gl ∨ ad.block = gw ∨ ad.block = gt ∨ sl.foot ad.block ∨ ∃ j, j < 4 ∧ j ≠ k ∧ (s j).foot ad.block)) : Plays w w' gl gw gt (up s k sl) := by
  rw [four_set s Slot.ptr hk] at b1
  rw [four_set s Slot.there hk] at b3
  rw [rows_splice s hk] at b2
  have hFT : ∀ x, (x = gl ∨ x = gw ∨ x = gt ∨ (s k).foot x) → Tk gl gw gt s x := fun x hx => by
    rcases hx with e | e | e | e
    · exact .inl e
    · exact .inr (.inl e)
    · exact .inr (.inr (.inl e))
    · exact .inr (.inr (.inr ⟨k, hk, e⟩))
  have hTN : ∀ x, Tk gl gw gt (up s k sl) x → Tk gl gw gt s x ∨ wr.heap.size ≤ x := fun x hx => by
    rcases hx with e | e | e | ⟨j, hj, e⟩
    · exact .inl (.inl e)
    · exact .inl (.inr (.inl e))
    · exact .inl (.inr (.inr (.inl e)))
    · by_cases hjk : j = k
      · subst hjk
        rw [up_at] at e
        rcases hnew x e with e | e
        · exact .inl (.inr (.inr (.inr ⟨j, hj, e⟩)))
        · exact .inr e
      · rw [up_ne _ _ hjk] at e
        exact .inl (.inr (.inr (.inr ⟨j, hj, e⟩)))
  have hsz := h.keep.size
  refine ⟨fun i hi => ?_, b1, b2, b3, fun x hx => ?_, fun i j hi hj hij x hx hy => ?_, fun i hi hn ad ea hx => ?_, h.keep.trans hK (fun x hx e => ?_)⟩
  · by_cases hik : i = k
    · subst hik
      rw [up_at]; exact hok
    · rw [up_ne _ _ hik]
      obtain ⟨o1, o2, o3⟩ := h.offs hi
      refine (h.ok i hi).keep hK (fun x hx e => ?_) ((h.out i hi).mono hFT)
      rcases e with e | e | e | e
      · exact o1 (e ▸ hx)
      · exact o2 (e ▸ hx)
      · exact o3 (e ▸ hx)
      · exact h.apart i k hi hk hik x hx e
  · rcases hTN x hx with e | e
    · exact h.low x e
    · omega
  · by_cases hik : i = k
    · subst hik
      rw [up_at] at hx
      rw [up_ne _ _ (Ne.symm hij)] at hy
      rcases hnew x hx with e | e
      · exact h.apart i j hi hj hij x e hy
      · have := (h.ok j hj).lt x hy; omega
    · rw [up_ne _ _ hik] at hx
      by_cases hjk : j = k
      · subst hjk
        rw [up_at] at hy
        rcases hnew x hy with e | e
        · exact h.apart i j hi hj hij x hx e
        · have := (h.ok i hi).lt x hx; omega
      · rw [up_ne _ _ hjk] at hy
        exact h.apart i j hi hj hij x hx hy
  · by_cases hik : i = k
    · subst hik
      rw [up_at] at hn ea
      refine hA ad hn ea ?_
      rcases hx with e | e | e | ⟨j, hj, e⟩
      · exact .inl e
      · exact .inr (.inl e)
      · exact .inr (.inr (.inl e))
      · by_cases hji : j = i
        · subst hji
          rw [up_at] at e
          exact .inr (.inr (.inr (.inl e)))
        · rw [up_ne _ _ hji] at e
          exact .inr (.inr (.inr (.inr ⟨j, hj, hji, e⟩)))
    · rw [up_ne _ _ hik] at hn ea
      rcases hTN _ hx with e | e
      · exact h.out i hi hn ad ea e
      · obtain ⟨g, o, e1, hlt⟩ := (h.ok i hi).rd.lt hn
        rw [e1] at ea
        injection ea with ea
        subst ea
        have : wr.heap.size ≤ g := e
        omega
  · have := h.low x (hFT x e)
    omega
theorem set_blk {w w' : World} {g : Nat} {t : TypeId} {cs ds : List Value} (h : Blk w g t cs) (hk : Keeps (fun _ => False) w w') (e : cs = ds) : Blk w' g t ds := by
  subst e
  exact hk.blk h (fun h => h)
/-- All three are stored. -/
theorem Plays.put3 (h : Plays w wr gl gw gt s) {k : Nat} (hk : k < 4) {sl : Slot} (hok : sl.OK wr) (hnew : ∀ x, sl.foot x → w'.heap.size ≤ x) (hw : Keeps (fun _ => False) w' wr) (hP : Plays w w' gl gw gt s)
    (hA : ∀ ad, 0 < sl.X.length % 64 → sl.A = some ad → w'.heap.size ≤ ad.block ∧ ¬ sl.foot ad.block) :
    Plays w (((wr.setCell ⟨gl, k, none⟩ sl.ptr).setRow gw (Go.Aff.splice (rows s) (k * 10) sl.row).toArray).setCell ⟨gt, k, none⟩ sl.there) gl gw gt (up s k sl) := by
  have hF : Keeps (fun x => x = gl ∨ x = gw ∨ x = gt) wr (((wr.setCell ⟨gl, k, none⟩ sl.ptr).setRow gw (Go.Aff.splice (rows s) (k * 10) sl.row).toArray).setCell ⟨gt, k, none⟩ sl.there) :=
    (((Keeps.refl _ wr).setCell (p := ⟨gl, k, none⟩) (.inl (.inl rfl)) _).setRow (.inl (.inr (.inl rfl))) _).setCell (p := ⟨gt, k, none⟩) (.inl (.inr (.inr rfl))) _
  have hlo : ∀ x, Tk gl gw gt s x → x < w'.heap.size := hP.lt
  have hoff : ∀ x, w'.heap.size ≤ x → ¬ (x = gl ∨ x = gw ∨ x = gt) := fun x hx e => by
    have : x < w'.heap.size := by
      rcases e with e | e | e
      · exact hlo x (.inl e)
      · exact hlo x (.inr (.inl e))
      · exact hlo x (.inr (.inr (.inl e)))
    omega
  refine hP.put hk ((hw.mono (G := fun x => x = gl ∨ x = gw ∨ x = gt ∨ (s k).foot x) (fun _ _ h => h.elim)).trans hF (fun x _ e => ?_)) ?_ ?_ ?_ (hok.keep hF (fun x hx => hoff x (hnew x hx)) (fun h0 ad ea => hoff _ (hA ad h0 ea).1)) (fun x hx => .inr (hnew x hx)) (fun ad h0 ea e => ?_)
  · rcases e with e | e | e
    · exact .inl e
    · exact .inr (.inl e)
    · exact .inr (.inr (.inl e))
  · exact (((h.bl.set_ k sl.ptr)).setRow_far h.n1 _).far (p := ⟨gt, k, none⟩) h.n2 _
  · exact ((h.bw.far (p := ⟨gl, k, none⟩) h.n1.symm sl.ptr).setRow _).far (p := ⟨gt, k, none⟩) h.n3 _
  · exact ((h.bt.far (p := ⟨gl, k, none⟩) h.n2.symm sl.ptr).setRow_far h.n3.symm _).set_ k sl.there
  · have h1 := (hA ad h0 ea).1
    rcases e with e | e | e | e | ⟨j, hj, _, e⟩
    · exact hoff _ h1 (.inl e)
    · exact hoff _ h1 (.inr (.inl e))
    · exact hoff _ h1 (.inr (.inr e))
    · exact (hA ad h0 ea).2 e
    · have := hlo _ (.inr (.inr (.inr ⟨j, hj, e⟩)))
      omega
/-- The reference's alone is stored. -/
theorem Plays.putw (h : Plays w wr gl gw gt s) {k : Nat} (hk : k < 4) {sl : Slot} (hok : sl.OK wr) (hq : sl.q = (s k).q) (hv : sl.v = (s k).v) (hA : sl.X.length % 64 = 0) :
    Plays w (wr.setRow gw (Go.Aff.splice (rows s) (k * 10) sl.row).toArray) gl gw gt (up s k sl) := by
  have hF : Keeps (fun x => x = gw) wr (wr.setRow gw (Go.Aff.splice (rows s) (k * 10) sl.row).toArray) := (Keeps.refl (fun x => x = gw) wr).setRow (.inl rfl) _
  have hft : ∀ x, sl.foot x → (s k).foot x := fun x ⟨p, hp, hx⟩ => ⟨p, by rw [← hq]; exact hp, by rw [← hv]; exact hx⟩
  refine h.put hk (hF.mono (fun _ _ e => .inr (.inl e))) ?_ (h.bw.setRow _) ?_ (hok.keep hF (fun x hx e => ?_) (fun h0 => by omega)) (fun x hx => .inl (hft x hx)) (fun ad h0 => by omega)
  · have := h.bl.setRow_far h.n1 (Go.Aff.splice (rows s) (k * 10) sl.row).toArray
    rwa [← four_same s Slot.ptr hk (x := sl.ptr) (by unfold Slot.ptr; rw [hq])] at this
  · have := h.bt.setRow_far h.n3.symm (Go.Aff.splice (rows s) (k * 10) sl.row).toArray
    rwa [← four_same s Slot.there hk (x := sl.there) (by unfold Slot.there; rw [hq])] at this
  · have e' : x = gw := e
    subst e'
    exact (h.offs hk).2.1 (hft _ hx)
/-- The hash is let go. -/
theorem Plays.putn (h : Plays w wr gl gw gt s) {k : Nat} (hk : k < 4) : Plays w ((wr.setCell ⟨gl, k, none⟩ (.pointer none)).setCell ⟨gt, k, none⟩ (.bool false)) gl gw gt (up s k { s k with q := none }) := by
  have hF : Keeps (fun x => x = gl ∨ x = gt) wr ((wr.setCell ⟨gl, k, none⟩ (.pointer none)).setCell ⟨gt, k, none⟩ (.bool false)) :=
    ((Keeps.refl _ wr).setCell (p := ⟨gl, k, none⟩) (.inl (.inl rfl)) _).setCell (p := ⟨gt, k, none⟩) (.inl (.inr rfl)) _
  have hsub : ∀ x, (x = gl ∨ x = gt) → Tk gl gw gt s x := fun x e => e.elim .inl (fun e => .inr (.inr (.inl e)))
  refine h.put hk (hF.mono (fun x _ e => ?_)) ((h.bl.set_ k _).far (p := ⟨gt, k, none⟩) h.n2 _) ?_ ((h.bt.far (p := ⟨gl, k, none⟩) h.n2.symm _).set_ k _) ⟨fun p hp => (by cases hp), (h.ok k hk).rd.keep hF ((h.out k hk).mono hsub), (h.ok k hk).by_, (h.ok k hk).le⟩ (fun x ⟨p, hp, _⟩ => by cases hp) (fun ad h0 ea e => ?_)
  · rcases e with e | e
    · exact .inl e
    · exact .inr (.inr (.inl e))
  · have hb := (h.bw.far (p := ⟨gl, k, none⟩) h.n1.symm (.pointer none)).far (p := ⟨gt, k, none⟩) h.n3 (.bool false)
    have e : Go.Aff.splice (rows s) (k * 10) (s k).row = rows s := by
      rw [rows_splice s hk]
      have : up s k (s k) = s := by
        funext j
        by_cases hj : j = k
        · subst hj; rw [up_at]
        · rw [up_ne _ _ hj]
      rw [this]
    rw [show (Slot.row { s k with q := none }) = (s k).row from rfl, e]
    exact hb
  · refine h.out k hk h0 ad ea ?_
    rcases e with e | e | e | ⟨p, hp, _⟩ | ⟨j, hj, _, e⟩
    · exact .inl e
    · exact .inr (.inl e)
    · exact .inr (.inr (.inl e))
    · cases hp
    · exact .inr (.inr (.inr ⟨j, hj, e⟩))
/-- One of them is written. -/
theorem Plays.wrote (h : Plays w wr gl gw gt s) {k : Nat} (hk : k < 4) {p : Nat} (hp : (s k).q = some p) {v' : Value} {Y : List Int} {A' : Option Addr} {c' r' : Nat} (hr : r' = Y.length % 64) (hh : HashAt w' p v' (s k).S (s k).nb Y)
    (hg : ∀ g, v'.ownBlock = some g → (s k).v.ownBlock = some g ∨ wr.heap.size ≤ g) (hrd : Rd w' A' r' (vb (Y.drop (64 * (Y.length / 64))))) (hA : ∀ ad, 0 < r' → A' = some ad → wr.heap.size ≤ ad.block ∧ ¬ Foot p v' ad.block)
    (hb : Blk w' gw 68 (Go.Aff.splice (rows s) (k * 10) (hcells (stN (s k).S Y (Y.length / 64)) (((s k).nb + Y.length / 64 : Nat) : Int) (.slice A' r' c')))) (hK : Keeps (fun i => i = gw ∨ Foot p (s k).v i) wr w') (hle : 64 * (s k).nb + Y.length < 2305843009213693952) :
    Plays w w' gl gw gt (up s k ⟨some p, v', (s k).S, (s k).nb, Y, A', c'⟩) := by
  subst hr
  obtain ⟨o1, o2, o3⟩ := h.offs hk
  have hft : ∀ x, Foot p (s k).v x → (s k).foot x := fun x hx => ⟨p, hp, hx⟩
  refine h.put hk (hK.mono (fun x _ e => ?_)) ?_ hb ?_ ⟨fun p' hp' => ?_, hrd, hh.2.2, hle⟩ (fun x ⟨p', hp', hx⟩ => ?_) (fun ad h0 ea e => ?_)
  · rcases e with e | e
    · exact .inr (.inl e)
    · exact .inr (.inr (.inr (hft x e)))
  · rw [four_same s Slot.ptr hk (by unfold Slot.ptr; rw [hp])]
    exact hK.blk h.bl (fun e => e.elim h.n1 (fun e => o1 (hft _ e)))
  · rw [four_same s Slot.there hk (by unfold Slot.there; rw [hp])]
    exact hK.blk h.bt (fun e => e.elim (fun e => h.n3 e.symm) (fun e => o3 (hft _ e)))
  · injection hp' with hp'
    subst hp'
    exact hh
  · injection hp' with hp'
    subst hp'
    rcases hx with e | e
    · exact .inl (hft x (.inl e))
    · rcases hg x e with e | e
      · exact .inl (hft x (.inr e))
      · exact .inr e
  · obtain ⟨h1, h2⟩ := hA ad h0 ea
    rcases e with e | e | e | ⟨p', hp', e⟩ | ⟨j, hj, _, e⟩
    · have := h.bl.lt; omega
    · have := h.bw.lt; omega
    · have := h.bt.lt; omega
    · injection hp' with hp'
      subst hp'
      exact h2 e
    · have := (h.ok j hj).lt _ e; omega
end
end Go.Proofs.YtgblndddcbfdiaaDoor
