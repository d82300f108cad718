/-
  A hash of the call's own, in a law: what calls do to it.
-/
import Derived.Test.YtgblndddcbfdiaaDoorMidW
namespace Go.Proofs.YtgblndddcbfdiaaDoor
open Go Go.RowKit Go.Sha Go.Aff

/-- A hash in memory that is newer than world w; what was there in w stands. -/
def Own (w wr : World) (p : Nat) (v : Value) (S : Nat → Int) (nb : Nat) (X : List Int) : Prop := HashAt wr p v S nb X ∧ Keeps (fun _ => False) w wr ∧ (∀ i, Foot p v i → w.heap.size ≤ i)

theorem Own.keep {w wr w' : World} {p : Nat} {v : Value} {S : Nat → Int} {nb : Nat} {X : List Int} (h : Own w wr p v S nb X) (hk : Keeps (fun _ => False) wr w') : Own w w' p v S nb X :=
  ⟨h.1.keep hk (fun _ _ h => h), h.2.1.trans hk (fun _ _ h => h), h.2.2⟩
theorem own_new (w : World) : Own w (w.alloc (.cells (hcells first 0 (.slice none 0 0)).toArray 88)) w.heap.size (.slice none 0 0) first 0 [] := by
  refine ⟨hash_new w, (Keeps.refl _ w).alloc _, fun i hi => ?_⟩
  rcases hi with rfl | hi
  · exact Nat.le_refl _
  · cases hi
theorem Own.copied {w wr : World} {S : Nat → Int} {nb : Nat} {X : List Int} {e : Ending} {w' : World} (hk : Keeps (fun _ => False) w wr) (h : Copied wr S nb X e w') : ∃ q u, e = .returned (.pointer (some ⟨q, 0, none⟩)) ∧ Own w w' q u S nb X ∧ Keeps (fun _ => False) wr w' ∧ ∀ i, Foot q u i → wr.heap.size ≤ i := by
  obtain ⟨q, u, he, hh, hk2, hf⟩ := h
  exact ⟨q, u, he, ⟨hh, hk.trans hk2 (fun _ _ h => h), fun i hi => Nat.le_trans hk.size (hf i hi)⟩, hk2, hf⟩
/-- Old memory lies outside a hash of the call's own. -/
theorem Own.out {w wr : World} {p : Nat} {v : Value} {S : Nat → Int} {nb : Nat} {X : List Int} (h : Own w wr p v S nb X) {A : Option Addr} {n : Nat} {xs : List Value} (hr : Rd w A n xs) : Out (Foot p v) A n := by
  intro h0 ad e hf
  obtain ⟨g1, o1, e1, hg1⟩ := hr.lt h0
  rw [e] at e1
  injection e1 with e1
  subst e1
  have h1 := h.2.2 _ hf
  exact absurd hg1 (by show ¬ g1 < w.heap.size; have h3 : w.heap.size ≤ g1 := h1; omega)
theorem Own.foot2 {w wr : World} {p : Nat} {v : Value} {S : Nat → Int} {nb : Nat} {X : List Int} (h : Own w wr p v S nb X) (hG : Glob w) : ∀ i, Foot p v i → 2 ≤ i := fun i hi => by
  have := h.2.2 i hi
  have := hG.lt
  omega

/-- Parts that were laid in a row of the call's own. -/
theorem parts_of (F : Nat → Prop) (w : World) (T : TypeId) (vals : List Value) (pss : List (List Int)) (hF : ∀ i, F i → i < w.heap.size) (hl : vals.length = pss.length)
    (h : ∀ (i : Nat) (bs : List Int), pss[i]? = some bs → ∃ A c, vals[i]? = some (Value.slice A bs.length c) ∧ Rd w A bs.length (vb bs) ∧ Out F A bs.length ∧ IsBytes bs ∧ bs.length ≤ c ∧ bs.length ≤ 140737488351232) :
    RdPartsO F (w.alloc (.cells vals.toArray T)) (some ⟨w.heap.size, 0, none⟩) pss := by
  refine ⟨vals, Rd.of_blk (Blk.new w T vals) hl, ?_, fun i bs hi => ?_⟩
  · intro _ ad e hf
    injection e with e
    subst e
    exact Nat.lt_irrefl _ (hF _ hf)
  · obtain ⟨A, c, h1, h2, h3⟩ := h i bs hi
    exact ⟨A, c, h1, h2.alloc _, h3⟩
theorem parts_one (F : Nat → Prop) (w : World) (T : TypeId) (A : Option Addr) (n c : Nat) (bs : List Int) (hF : ∀ i, F i → i < w.heap.size) (hn : bs.length = n) (hr : Rd w A n (vb bs)) (ho : Out F A n) (hb : IsBytes bs) (hc : n ≤ c) (hm : n ≤ 140737488351232) :
    RdPartsO F (w.alloc (.cells #[.slice A n c] T)) (some ⟨w.heap.size, 0, none⟩) [bs] := by
  subst hn
  refine parts_of F w T [.slice A bs.length c] [bs] hF rfl (fun i b hi => ?_)
  cases i with
  | zero => simp at hi; subst hi; exact ⟨A, c, rfl, hr, ho, hb, hc, hm⟩
  | succ i => simp at hi
theorem parts_two (F : Nat → Prop) (w : World) (T : TypeId) (A A' : Option Addr) (n c n' c' : Nat) (bs bs' : List Int) (hF : ∀ i, F i → i < w.heap.size) (hn : bs.length = n) (hr : Rd w A n (vb bs)) (ho : Out F A n) (hb : IsBytes bs) (hc : n ≤ c) (hm : n ≤ 140737488351232)
    (hn' : bs'.length = n') (hr' : Rd w A' n' (vb bs')) (ho' : Out F A' n') (hb' : IsBytes bs') (hc' : n' ≤ c') (hm' : n' ≤ 140737488351232) :
    RdPartsO F (w.alloc (.cells #[.slice A n c, .slice A' n' c'] T)) (some ⟨w.heap.size, 0, none⟩) [bs, bs'] := by
  subst hn hn'
  refine parts_of F w T [.slice A bs.length c, .slice A' bs'.length c'] [bs, bs'] hF rfl (fun i b hi => ?_)
  match i, hi with
  | 0, hi => simp at hi; subst hi; exact ⟨A, c, rfl, hr, ho, hb, hc, hm⟩
  | 1, hi => simp at hi; subst hi; exact ⟨A', c', rfl, hr', ho', hb', hc', hm'⟩
  | i + 2, hi => simp at hi
theorem RdPartsO.plain {F : Nat → Prop} {w : World} {A : Option Addr} {pss : List (List Int)} (h : RdPartsO F w A pss) : RdParts w A pss := by
  obtain ⟨vals, h1, _, h3⟩ := h
  refine ⟨vals, h1, fun i bs hi => ?_⟩
  obtain ⟨A', c', a, b, _, d, e, _⟩ := h3 i bs hi
  exact ⟨A', c', a, b, d, e⟩
theorem no_out (A : Option Addr) (n : Nat) : Out (fun _ => False) A n := fun _ _ _ h => h

/-- Sum of parts that lie in a row of the call's own. -/
theorem sums_one (w : World) (hG : Glob w) (A : Option Addr) (n c : Nat) (bs : List Int) (hn : bs.length = n) (hr : Rd w A n (vb bs)) (hb : IsBytes bs) (hc : n ≤ c) (hm : n ≤ 140737488351232) :
    Calls Tryd.prog 20 #[.slice (some ⟨w.heap.size, 0, none⟩) 1 1] (w.alloc (.cells #[.slice A n c] 26)) fun e w' => e = .returned (.agg (vb (sumF first 0 bs)).toArray) ∧ Keeps (fun _ => False) w w' := by
  have hp := (parts_one (fun _ => False) w 26 A n c bs (fun _ h => h.elim) hn hr (no_out _ _) hb hc hm).plain
  have := sums_any _ (hG.keep ((Keeps.refl (fun _ => False) w).alloc (.cells #[.slice A n c] 26)) (fun _ h => h.elim)) _ 1 [bs] hp (by simp) (by simp; omega)
  simp only [List.length_cons, List.length_nil, List.flatten_cons, List.flatten_nil, List.append_nil] at this
  exact this.mono fun e w' ⟨he, hk⟩ => ⟨he, ((Keeps.refl _ w).alloc _).trans hk (fun _ _ h => h)⟩

/-- Write into a hash of the call's own. -/
theorem own_write (w : World) (hG : Glob w) (wr : World) (p : Nat) (v : Value) (S : Nat → Int) (nb : Nat) (X : List Int) (h : Own w wr p v S nb X) (W : World) (hk : Keeps (fun _ => False) wr W) (A : Option Addr) (n c : Nat) (pss : List (List Int)) (hn : pss.length = n)
    (hr : RdPartsO (Foot p v) W A pss) (hl : n ≤ 140737488355328) (hfit : 64 * nb + X.length + pss.flatten.length < 2305843009213693952) :
    Calls Tryd.prog 22 #[.pointer (some ⟨p, 0, none⟩), .slice A n c] W fun e w' => e = .returned .nilIface ∧ ∃ v', Own w w' p v' S nb (X ++ pss.flatten) ∧ Keeps (Foot p v) W w' ∧ (∀ g, v'.ownBlock = some g → v.ownBlock = some g ∨ W.heap.size ≤ g) := by
  subst hn
  have h1 := h.keep hk
  refine (Write_ok W (hG.keep h1.2.1 (fun _ h => h.elim)) p v S nb X h1.1 (h1.foot2 hG) A c pss hr hl hfit).mono fun e w' ⟨he, v', a, b, c⟩ => ⟨he, v', ⟨a, ?_, ?_⟩, b, c⟩
  · exact h1.2.1.trans b (fun i hi hf => by have := h1.2.2 i hf; omega)
  · intro i hi
    rcases foot_later c hi with h | h
    · exact h1.2.2 i h
    · exact Nat.le_trans h1.2.1.size h

/-- .. of one part that was there before. -/
theorem own_write1 (w : World) (hG : Glob w) (wr : World) (p : Nat) (v : Value) (S : Nat → Int) (nb : Nat) (X : List Int) (h : Own w wr p v S nb X) (A : Option Addr) (n c : Nat) (bs : List Int) (hn : bs.length = n)
    (hr : Rd wr A n (vb bs)) (ho : Out (Foot p v) A n) (hb : IsBytes bs) (hc : n ≤ c) (hm : n ≤ 140737488351232) (hfit : 64 * nb + X.length + n < 2305843009213693952) :
    Calls Tryd.prog 22 #[.pointer (some ⟨p, 0, none⟩), .slice (some ⟨wr.heap.size, 0, none⟩) 1 1] (wr.alloc (.cells #[.slice A n c] 26)) fun e w' => e = .returned .nilIface ∧ ∃ v', Own w w' p v' S nb (X ++ bs) ∧ Keeps (Foot p v) wr w' ∧ (∀ g, v'.ownBlock = some g → v.ownBlock = some g ∨ wr.heap.size ≤ g) := by
  have hp := parts_one (Foot p v) wr 26 A n c bs (fun i hi => h.1.lt i hi) hn hr ho hb hc hm
  have := own_write w hG wr p v S nb X h _ ((Keeps.refl (fun _ => False) wr).alloc (.cells #[.slice A n c] 26)) _ 1 1 [bs] rfl hp (by omega) (by simp; omega)
  simp only [List.flatten_cons, List.flatten_nil, List.append_nil] at this
  refine this.mono fun e w' ⟨he, v', a, b, c⟩ => ⟨he, v', a, ((Keeps.refl _ wr).alloc _).trans b (fun _ _ h => h), fun g hg => ?_⟩
  rcases c g hg with h | h
  · exact .inl h
  · simp at h; exact .inr (by omega)
end Go.Proofs.YtgblndddcbfdiaaDoor
