/-
  A hash of the call's own, in a law: what calls do to it.
-/
import Derived.Test.YtnlnbgjpbnjjfaaDoorWriteEW
import Derived.Test.YtnlnbgjpbnjjfaaDoorBaseW
namespace Go.Proofs.YtnlnbgjpbnjjfaaDoor
open Go Go.RowKit Go.Sha Go.Aff

/-- A hash in memory that is newer than world w; what was there in w stands. -/
def Own (w wr : World) (p : Nat) (v : Value) (S : Nat → Int) (nb : Nat) (X : List Int) : Prop := HashAt wr p v S nb X ∧ Keeps (fun _ => False) w wr ∧ (∀ i, Foot p v i → w.heap.size ≤ i)

theorem Own.keep {w wr w' : World} {p : Nat} {v : Value} {S : Nat → Int} {nb : Nat} {X : List Int} (h : Own w wr p v S nb X) (hk : Keeps (fun _ => False) wr w') : Own w w' p v S nb X :=
  ⟨h.1.keep hk (fun _ _ h => h), h.2.1.trans hk (fun _ _ h => h), h.2.2⟩
theorem own_new (w : World) : Own w (w.alloc (.cells (hcells first 0 (.slice none 0 0)).toArray 99)) w.heap.size (.slice none 0 0) first 0 [] := by
  refine ⟨hash_new w, (Keeps.refl _ w).alloc _, fun i hi => ?_⟩
  rcases hi with rfl | hi
  · exact Nat.le_refl _
  · cases hi
theorem Own.copied {w wr : World} {S : Nat → Int} {nb : Nat} {X : List Int} {e : Ending} {w' : World} (hk : Keeps (fun _ => False) w wr) (h : Copied wr S nb X e w') : ∃ q u, e = .returned (.pointer (some ⟨q, 0, none⟩)) ∧ Own w w' q u S nb X ∧ Keeps (fun _ => False) wr w' ∧ ∀ i, Foot q u i → wr.heap.size ≤ i := by
  obtain ⟨q, u, he, hh, hk2, hf⟩ := h
  exact ⟨q, u, he, ⟨hh, hk.trans hk2 (fun _ _ h => h), fun i hi => Nat.le_trans hk.size (hf i hi)⟩, hk2, hf⟩
/-- Old memory lies outside a hash of the call's own. -/
theorem Own.out {w wr : World} {p : Nat} {v : Value} {S : Nat → Int} {nb : Nat} {X : List Int} (h : Own w wr p v S nb X) {A : Option Addr} {n : Nat} {xs : List Value} (hr : Rd w A n xs) : Out (Foot p v) A n := by
  intro h0 ad e hf
  obtain ⟨g1, o1, e1, hg1⟩ := hr.lt h0
  rw [e] at e1
  injection e1 with e1
  subst e1
  have h1 := h.2.2 _ hf
  exact absurd hg1 (by show ¬ g1 < w.heap.size; have h3 : w.heap.size ≤ g1 := h1; omega)
theorem Own.foot2 {w wr : World} {p : Nat} {v : Value} {S : Nat → Int} {nb : Nat} {X : List Int} (h : Own w wr p v S nb X) (hG : Glob w) : ∀ i, Foot p v i → 2 ≤ i := fun i hi => by
  have := h.2.2 i hi
  have := hG.lt
  omega

/-- Write into a hash of the call's own. -/
theorem own_write (w : World) (hG : Glob w) (wr : World) (p : Nat) (v : Value) (S : Nat → Int) (nb : Nat) (X : List Int) (h : Own w wr p v S nb X) (W : World) (hk : Keeps (fun _ => False) wr W) (A : Option Addr) (n c : Nat) (pss : List (List Int)) (hn : pss.length = n)
    (hr : RdPartsO (Foot p v) W A pss) (hl : n ≤ 140737488355328) (hfit : 64 * nb + X.length + pss.flatten.length < 2305843009213693952) :
    Calls Tryd.prog 53 #[.pointer (some ⟨p, 0, none⟩), .slice A n c] W fun e w' => e = .returned .nilIface ∧ ∃ v', Own w w' p v' S nb (X ++ pss.flatten) ∧ Keeps (Foot p v) W w' ∧ (∀ g, v'.ownBlock = some g → v.ownBlock = some g ∨ W.heap.size ≤ g) := by
  subst hn
  have h1 := h.keep hk
  refine (Write_ok W (hG.keep h1.2.1 (fun _ h => h.elim)) p v S nb X h1.1 (h1.foot2 hG) A c pss hr hl hfit).mono fun e w' ⟨he, v', a, b, c⟩ => ⟨he, v', ⟨a, ?_, ?_⟩, b, c⟩
  · exact h1.2.1.trans b (fun i hi hf => by have := h1.2.2 i hf; omega)
  · intro i hi
    rcases foot_later c hi with h | h
    · exact h1.2.2 i h
    · exact Nat.le_trans h1.2.1.size h

/-- .. of one part that was there before. -/
theorem own_write1 (w : World) (hG : Glob w) (wr : World) (p : Nat) (v : Value) (S : Nat → Int) (nb : Nat) (X : List Int) (h : Own w wr p v S nb X) (A : Option Addr) (n c : Nat) (bs : List Int) (hn : bs.length = n)
    (hr : Rd wr A n (vb bs)) (ho : Out (Foot p v) A n) (hb : IsBytes bs) (hc : n ≤ c) (hm : n ≤ 140737488351232) (hfit : 64 * nb + X.length + n < 2305843009213693952) :
    Calls Tryd.prog 53 #[.pointer (some ⟨p, 0, none⟩), .slice (some ⟨wr.heap.size, 0, none⟩) 1 1] (wr.alloc (.cells #[.slice A n c] 22)) fun e w' => e = .returned .nilIface ∧ ∃ v', Own w w' p v' S nb (X ++ bs) ∧ Keeps (Foot p v) wr w' ∧ (∀ g, v'.ownBlock = some g → v.ownBlock = some g ∨ wr.heap.size ≤ g) := by
  have hp := parts_one (Foot p v) wr 22 A n c bs (fun i hi => h.1.lt i hi) hn hr ho hb hc hm
  have := own_write w hG wr p v S nb X h _ ((Keeps.refl (fun _ => False) wr).alloc (.cells #[.slice A n c] 22)) _ 1 1 [bs] rfl hp (by omega) (by simp; omega)
  simp only [List.flatten_cons, List.flatten_nil, List.append_nil] at this
  refine this.mono fun e w' ⟨he, v', a, b, c⟩ => ⟨he, v', a, ((Keeps.refl _ wr).alloc _).trans b (fun _ _ h => h), fun g hg => ?_⟩
  rcases c g hg with h | h
  · exact .inl h
  · simp at h; exact .inr (by omega)
end Go.Proofs.YtnlnbgjpbnjjfaaDoor
