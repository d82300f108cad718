/-
  Two Macs of keys, in turns: what lies in memory, and what the calls do to it.
-/
import Derived.Test.YtnlnbgjpbnjjfaaDoorMacTW
import Derived.Test.YtnlnbgjpbnjjfaaDoorRMacW
set_option linter.unusedSimpArgs false
namespace Go.Proofs.YtnlnbgjpbnjjfaaDoor
open Go Go.RowKit Go.Sha Go.Aff Go.Mac

/-- A function with another value at one place. -/
def up {α : Type} (f : Nat → α) (i : Nat) (x : α) : Nat → α := fun j => if j = i then x else f j
theorem up_at {α : Type} (f : Nat → α) (i : Nat) (x : α) : up f i x i = x := by simp [up]
theorem up_ne {α : Type} (f : Nat → α) {i j : Nat} (x : α) (h : j ≠ i) : up f i x j = f j := by simp [up, h]
theorem up_set {α : Type} (f : Nat → α) (x : α) {j : Nat} (hj : j < 2) (F : α → Value) : [F (f 0), F (f 1)].set j (F x) = [F (up f j x 0), F (up f j x 1)] := by
  rcases (show j = 0 ∨ j = 1 by omega) with rfl | rfl <;> simp [up]
theorem up_set' (f : Nat → Value) (x : Value) {j : Nat} (hj : j < 2) : [f 0, f 1].set j x = [up f j x 0, up f j x 1] := by
  rcases (show j = 0 ∨ j = 1 by omega) with rfl | rfl <;> simp [up]
theorem two_at {α : Type} (F : α → Value) (f : Nat → α) {i : Nat} (hi : i < 2) : [F (f 0), F (f 1)][i]? = some (F (f i)) := by
  rcases (show i = 0 ∨ i = 1 by omega) with rfl | rfl <;> rfl
abbrev ptr (p : Nat) : Value := .pointer (some ⟨p, 0, none⟩)
/-- What none of the rows may lie in. -/
def Taken (X : Nat → Prop) (gm go gl : Nat) (p q : Nat → Nat) (v : Nat → Value) (x : Nat) : Prop := x = gm ∨ x = go ∨ x = gl ∨ (∃ j, j < 2 ∧ MFoot (p j) (q j) (v j) x) ∨ X x
/-- A slice that reads as bytes, outside of F. -/
def Reads (F : Nat → Prop) (wr : World) (x : Value) (bs : List Int) : Prop := ∃ A n c, x = .slice A n c ∧ bs.length = n ∧ Rd wr A n (vb bs) ∧ IsBytes bs ∧ n ≤ 140737488351232 ∧ Out F A n

/-- Two Macs in a block of pointers, two keys and two messages in blocks of slices. -/
structure Macs (X : Nat → Prop) (w wr : World) (gm go gl : Nat) (p q : Nat → Nat) (v : Nat → Value) (km mm ks ml : Nat → List Int) (sv lv : Nat → Value) : Prop where
  mac : ∀ i, i < 2 → OMac w wr (p i) (q i) (v i) (km i) (mm i)
  apart : ∀ i j, i < 2 → j < 2 → i ≠ j → ∀ x, MFoot (p i) (q i) (v i) x → ¬ MFoot (p j) (q j) (v j) x
  bm : Blk wr gm 72 [ptr (p 0), ptr (p 1)]
  bo : Blk wr go 71 [sv 0, sv 1]
  bl : Blk wr gl 71 [lv 0, lv 1]
  ne : go ≠ gl
  hi : w.heap.size ≤ gm ∧ w.heap.size ≤ go ∧ w.heap.size ≤ gl
  of : ∀ i, i < 2 → Reads (fun _ => False) w (sv i) (ks i)
  all : ∀ i, i < 2 → Reads (Taken X gm go gl p q v) wr (lv i) (ml i)
  keep : Keeps (fun _ => False) w wr
  xoff : ∀ x, X x → x ≠ gm ∧ x ≠ go ∧ x ≠ gl ∧ (∀ j, j < 2 → ¬ MFoot (p j) (q j) (v j) x) ∧ w.heap.size ≤ x ∧ x < wr.heap.size

theorem Reads.keep {F G : Nat → Prop} {wr w' : World} {x : Value} {bs : List Int} (h : Reads F wr x bs) (hk : Keeps G wr w') (hG : ∀ i, G i → F i) : Reads F w' x bs := by
  obtain ⟨A, n, c, e, h1, h2, h3, h4, h5⟩ := h
  exact ⟨A, n, c, e, h1, h2.keep hk (h5.mono hG), h3, h4, h5⟩
/-- .. outside of more, all of which is old or new. -/
theorem Reads.more {F G : Nat → Prop} {wr : World} {x : Value} {bs : List Int} (h : Reads F wr x bs) {lo : Nat} (hlo : wr.heap.size ≤ lo) (hG : ∀ i, G i → F i ∨ lo ≤ i) : Reads G wr x bs := by
  obtain ⟨A, n, c, e, h1, h2, h3, h4, h5⟩ := h
  refine ⟨A, n, c, e, h1, h2, h3, h4, fun hn ad ea hg => ?_⟩
  obtain ⟨g, o, e1, hlt⟩ := h2.lt hn
  rw [e1] at ea
  injection ea with ea
  subst ea
  rcases hG _ hg with hf | hf
  · exact h5 hn _ e1 hf
  · have : lo ≤ g := hf
    omega

section
variable {X : Nat → Prop} {w wr w' : World} {gm go gl : Nat} {p q : Nat → Nat} {v : Nat → Value} {km mm ks ml : Nat → List Int} {sv lv : Nat → Value}
theorem foot_off {t : TypeId} {g : Nat} {cs : List Value} {p q : Nat} {v : Value} {key msg : List Int} (h : OMac w wr p q v key msg) (hb : Blk wr g t cs) (h1 : 89 ≠ t) (h2 : 99 ≠ t) (h3 : 5 ≠ t) : ¬ MFoot p q v g := by
  rintro (e | e | e)
  · exact h.blk.ne_ hb h1 e.symm
  · exact h.own.1.1.ne_ hb h2 e.symm
  · exact own_blk h.own.1.2.1 hb h3 e
theorem Macs.read (h : Macs X w wr gm go gl p q v km mm ks ml sv lv) (hk : Keeps (fun _ => False) wr w') : Macs X w w' gm go gl p q v km mm ks ml sv lv :=
  ⟨fun i hi => (h.mac i hi).keep hk, h.apart, hk.blk h.bm (fun h => h), hk.blk h.bo (fun h => h), hk.blk h.bl (fun h => h), h.ne, h.hi, h.of, fun i hi => (h.all i hi).keep hk (fun _ h => h.elim), h.keep.trans hk (fun _ _ h => h), fun x hx => by obtain ⟨a, b, c, d, e, f⟩ := h.xoff x hx; exact ⟨a, b, c, d, e, Nat.lt_of_lt_of_le f hk.size⟩⟩
/-- One of the Macs is written. -/
theorem Macs.turn (h : Macs X w wr gm go gl p q v km mm ks ml sv lv) {i : Nat} (hi : i < 2) {q' : Nat} {v' : Value} {m' : List Int} (ho : OMac w w' (p i) q' v' (km i) m') (hk : Keeps (MFoot (p i) (q i) (v i)) wr w')
    (hnew : ∀ x, MFoot (p i) q' v' x → MFoot (p i) (q i) (v i) x ∨ wr.heap.size ≤ x) : Macs X w w' gm go gl p (up q i q') (up v i v') km (up mm i m') ks ml sv lv := by
  have hm := foot_off (h.mac i hi) h.bm (by decide) (by decide) (by decide)
  have ho' := foot_off (h.mac i hi) h.bo (by decide) (by decide) (by decide)
  have hl := foot_off (h.mac i hi) h.bl (by decide) (by decide) (by decide)
  have hlow : ∀ x, x < w.heap.size → ¬ MFoot (p i) (q i) (v i) x := fun x hx hf => by have := (h.mac i hi).foot_low x hf; omega
  refine ⟨fun j hj => ?_, fun j k hj hk' hjk x hx => ?_, hk.blk h.bm hm, hk.blk h.bo ho', hk.blk h.bl hl, h.ne, h.hi, h.of, fun j hj => ?_, h.keep.trans hk (fun x hx hf => (hlow x hx hf).elim), fun x hx => ?_⟩
  · by_cases hji : j = i
    · subst hji
      rw [up_at, up_at, up_at]; exact ho
    · rw [up_ne _ _ hji, up_ne _ _ hji, up_ne _ _ hji]
      exact (h.mac j hj).keepF hk (fun x hx => h.apart j i hj hi hji x hx) hlow
  · by_cases hji : j = i
    · subst hji
      rw [up_at, up_at] at hx
      rw [up_ne _ _ (Ne.symm hjk), up_ne _ _ (Ne.symm hjk)]
      rcases hnew x hx with h1 | h1
      · exact h.apart j k hj hk' hjk x h1
      · intro h2
        have := (h.mac k hk').foot_lt x h2
        omega
    · rw [up_ne _ _ hji, up_ne _ _ hji] at hx
      by_cases hki : k = i
      · subst hki
        rw [up_at, up_at]
        intro h2
        rcases hnew x h2 with h3 | h3
        · exact h.apart j k hj hk' hjk x hx h3
        · have := (h.mac j hj).foot_lt x hx
          omega
      · rw [up_ne _ _ hki, up_ne _ _ hki]
        exact h.apart j k hj hk' hjk x hx
  · have h0 : Reads (Taken X gm go gl p (up q i q') (up v i v')) wr (lv j) (ml j) := by
      refine (h.all j hj).more (Nat.le_refl _) (fun x hx => ?_)
      rcases hx with e | e | e | ⟨k, hk', hf⟩ | e
      · exact .inl (.inl e)
      · exact .inl (.inr (.inl e))
      · exact .inl (.inr (.inr (.inl e)))
      · by_cases hki : k = i
        · subst hki
          rw [up_at, up_at] at hf
          rcases hnew x hf with h1 | h1
          · exact .inl (.inr (.inr (.inr (.inl ⟨k, hk', h1⟩))))
          · exact .inr h1
        · rw [up_ne _ _ hki, up_ne _ _ hki] at hf
          exact .inl (.inr (.inr (.inr (.inl ⟨k, hk', hf⟩))))
      · exact .inl (.inr (.inr (.inr (.inr e))))
    obtain ⟨A, n, c, e, h1, _, h3, h4, h5⟩ := h0
    obtain ⟨A2, n2, c2, e2, _, r2, _, _, o2⟩ := h.all j hj
    rw [e] at e2
    injection e2 with e2a e2b e2c
    subst e2a e2b e2c
    exact ⟨A, n, c, e, h1, r2.keep hk (o2.mono (fun x hx => .inr (.inr (.inr (.inl ⟨i, hi, hx⟩))))), h3, h4, h5⟩
  · obtain ⟨a, b, c, d, e, f⟩ := h.xoff x hx
    refine ⟨a, b, c, fun j hj hf => ?_, e, Nat.lt_of_lt_of_le f hk.size⟩
    by_cases hji : j = i
    · subst hji
      rw [up_at, up_at] at hf
      rcases hnew x hf with h1 | h1
      · exact d j hj h1
      · omega
    · rw [up_ne _ _ hji, up_ne _ _ hji] at hf
      exact d j hj hf
/-- A cell of one of the three blocks is written: what stays. -/
theorem Macs.rest (h : Macs X w wr gm go gl p q v km mm ks ml sv lv) {g : Nat} (hg : g = gm ∨ g = go ∨ g = gl) (hk : Keeps (fun x => x = g) wr w') :
    (∀ i, i < 2 → OMac w w' (p i) (q i) (v i) (km i) (mm i)) ∧ (gm ≠ g → Blk w' gm 72 [ptr (p 0), ptr (p 1)]) ∧ (go ≠ g → Blk w' go 71 [sv 0, sv 1]) ∧ (gl ≠ g → Blk w' gl 71 [lv 0, lv 1]) ∧
      (∀ i, i < 2 → Reads (Taken X gm go gl p q v) w' (lv i) (ml i)) ∧ Keeps (fun _ => False) w w' ∧ (∀ x, X x → x ≠ gm ∧ x ≠ go ∧ x ≠ gl ∧ (∀ j, j < 2 → ¬ MFoot (p j) (q j) (v j) x) ∧ w.heap.size ≤ x ∧ x < w'.heap.size) := by
  have hlow : w.heap.size ≤ g := by
    obtain ⟨h1, h2, h3⟩ := h.hi
    rcases hg with rfl | rfl | rfl <;> assumption
  have hoff : ∀ i, i < 2 → ¬ MFoot (p i) (q i) (v i) g := fun i hi => by
    rcases hg with rfl | rfl | rfl
    · exact foot_off (h.mac i hi) h.bm (by decide) (by decide) (by decide)
    · exact foot_off (h.mac i hi) h.bo (by decide) (by decide) (by decide)
    · exact foot_off (h.mac i hi) h.bl (by decide) (by decide) (by decide)
  refine ⟨fun i hi => (h.mac i hi).keepF hk (fun x hx e => hoff i hi (by rw [← e]; exact hx)) (fun x hx e => by omega), fun hne => hk.blk h.bm hne, fun hne => hk.blk h.bo hne, fun hne => hk.blk h.bl hne, fun i hi => (h.all i hi).keep hk (fun x e => ?_), h.keep.trans hk (fun x hx e => by omega), fun x hx => by obtain ⟨a, b, c, d, e, f⟩ := h.xoff x hx; exact ⟨a, b, c, d, e, Nat.lt_of_lt_of_le f hk.size⟩⟩
  have e' : x = g := e
  subst e'
  rcases hg with e | e | e
  · exact .inl e
  · exact .inr (.inl e)
  · exact .inr (.inr (.inl e))
theorem Macs.gm_go (h : Macs X w wr gm go gl p q v km mm ks ml sv lv) : gm ≠ go := fun e => h.bm.ne_ h.bo (by decide) e
theorem Macs.gm_gl (h : Macs X w wr gm go gl p q v km mm ks ml sv lv) : gm ≠ gl := fun e => h.bm.ne_ h.bl (by decide) e
/-- A copy is put into the other's place. -/
theorem Macs.copied (h : Macs X w wr gm go gl p q v km mm ks ml sv lv) {i j : Nat} (hj : j < 2) {p2 q2 : Nat} {v2 : Value} (ho : OMac wr w' p2 q2 v2 (km i) (mm i)) :
    Macs X w (w'.setCell ⟨gm, j, none⟩ (ptr p2)) gm go gl (up p j p2) (up q j q2) (up v j v2) (up km j (km i)) (up mm j (mm i)) ks ml sv lv := by
  have h1 := h.read ho.own.2.1
  have hk : Keeps (fun x => x = gm) w' (w'.setCell ⟨gm, j, none⟩ (ptr p2)) := (Keeps.refl (fun x => x = gm) w').setCell (p := ⟨gm, j, none⟩) (.inl rfl) _
  obtain ⟨r1, _, r3, r4, r5, r6, r7⟩ := h1.rest (.inl rfl) hk
  have hnew : ∀ x, MFoot p2 q2 v2 x → wr.heap.size ≤ x := fun x hx => ho.foot_low x hx
  have ho2 : OMac w (w'.setCell ⟨gm, j, none⟩ (ptr p2)) p2 q2 v2 (km i) (mm i) := by
    refine (ho.older h.keep).keepF hk (fun x hx e => ?_) (fun x hx e => ?_)
    · have h3 := hnew x hx
      have h4 := h.bm.lt
      have e' : x = gm := e
      omega
    · have e' : x = gm := e
      have := h.hi.1
      omega
  refine ⟨fun k hk' => ?_, fun k l hk' hl hkl x hx => ?_, ?_, r3 h.gm_go.symm, r4 h.gm_gl.symm, h.ne, h.hi, h.of, fun k hk' => ?_, r6, fun x hx => ?_⟩
  · by_cases hkj : k = j
    · subst hkj
      rw [up_at, up_at, up_at, up_at, up_at]; exact ho2
    · rw [up_ne _ _ hkj, up_ne _ _ hkj, up_ne _ _ hkj, up_ne _ _ hkj, up_ne _ _ hkj]; exact r1 k hk'
  · by_cases hkj : k = j
    · subst hkj
      rw [up_at, up_at, up_at] at hx
      rw [up_ne _ _ (Ne.symm hkl), up_ne _ _ (Ne.symm hkl), up_ne _ _ (Ne.symm hkl)]
      intro h2
      have := hnew x hx
      have := (h.mac l hl).foot_lt x h2
      omega
    · rw [up_ne _ _ hkj, up_ne _ _ hkj, up_ne _ _ hkj] at hx
      by_cases hlj : l = j
      · subst hlj
        rw [up_at, up_at, up_at]
        intro h2
        have := hnew x h2
        have := (h.mac k hk').foot_lt x hx
        omega
      · rw [up_ne _ _ hlj, up_ne _ _ hlj, up_ne _ _ hlj]
        exact h.apart k l hk' hl hkl x hx
  · have hb := h1.bm.set_ j (ptr p2)
    rwa [up_set p p2 hj ptr] at hb
  · obtain ⟨A, n, c, e, a1, a2, a3, a4, a5⟩ := r5 k hk'
    refine ⟨A, n, c, e, a1, a2, a3, a4, fun hn ad ea hx => ?_⟩
    rcases hx with e1 | e1 | e1 | ⟨l, hl, hf⟩ | e1
    · exact a5 hn ad ea (.inl e1)
    · exact a5 hn ad ea (.inr (.inl e1))
    · exact a5 hn ad ea (.inr (.inr (.inl e1)))
    · by_cases hlj : l = j
      · subst hlj
        rw [up_at, up_at, up_at] at hf
        obtain ⟨A0, n0, c0, e0, _, b2, _, _, _⟩ := h.all k hk'
        rw [e] at e0
        injection e0 with e0a e0b e0c
        subst e0a e0b e0c
        obtain ⟨g, o, eg, hlt⟩ := b2.lt hn
        rw [eg] at ea
        injection ea with ea
        subst ea
        have : wr.heap.size ≤ g := hnew _ hf
        omega
      · rw [up_ne _ _ hlj, up_ne _ _ hlj, up_ne _ _ hlj] at hf
        exact a5 hn ad ea (.inr (.inr (.inr (.inl ⟨l, hl, hf⟩))))
    · exact a5 hn ad ea (.inr (.inr (.inr (.inr e1))))
  · obtain ⟨a, b, c, d, e, f⟩ := r7 x hx
    refine ⟨a, b, c, fun l hl hf => ?_, e, f⟩
    by_cases hlj : l = j
    · subst hlj
      rw [up_at, up_at, up_at] at hf
      have h3 := hnew x hf
      have h4 := (h.xoff x hx).2.2.2.2.2
      omega
    · rw [up_ne _ _ hlj, up_ne _ _ hlj, up_ne _ _ hlj] at hf
      exact d l hl hf
/-- A key's slice is put into a place. -/
theorem Macs.setOf (h : Macs X w wr gm go gl p q v km mm ks ml sv lv) {j : Nat} (hj : j < 2) {x : Value} {k : List Int} (hx : Reads (fun _ => False) w x k) :
    Macs X w (wr.setCell ⟨go, j, none⟩ x) gm go gl p q v km mm (up ks j k) ml (up sv j x) lv := by
  have hk : Keeps (fun i => i = go) wr (wr.setCell ⟨go, j, none⟩ x) := (Keeps.refl (fun i => i = go) wr).setCell (p := ⟨go, j, none⟩) (.inl rfl) _
  obtain ⟨r1, r2, _, r4, r5, r6, r7⟩ := h.rest (.inr (.inl rfl)) hk
  refine ⟨r1, h.apart, r2 h.gm_go, ?_, r4 h.ne.symm, h.ne, h.hi, fun i hi => ?_, r5, r6, r7⟩
  · have hb := h.bo.set_ j x
    rwa [up_set' sv x hj] at hb
  · by_cases hij : i = j
    · subst hij; rw [up_at, up_at]; exact hx
    · rw [up_ne _ _ hij, up_ne _ _ hij]; exact h.of i hi
/-- A message's slice is put into a place. -/
theorem Macs.setAll (h : Macs X w wr gm go gl p q v km mm ks ml sv lv) {j : Nat} (hj : j < 2) {x : Value} {k : List Int} (hx : Reads (Taken X gm go gl p q v) wr x k) :
    Macs X w (wr.setCell ⟨gl, j, none⟩ x) gm go gl p q v km mm ks (up ml j k) sv (up lv j x) := by
  have hk : Keeps (fun i => i = gl) wr (wr.setCell ⟨gl, j, none⟩ x) := (Keeps.refl (fun i => i = gl) wr).setCell (p := ⟨gl, j, none⟩) (.inl rfl) _
  obtain ⟨r1, r2, r3, _, r5, r6, r7⟩ := h.rest (.inr (.inr rfl)) hk
  refine ⟨r1, h.apart, r2 h.gm_gl, r3 h.ne, ?_, h.ne, h.hi, h.of, fun i hi => ?_, r6, r7⟩
  · have hb := h.bl.set_ j x
    rwa [up_set' lv x hj] at hb
  · by_cases hij : i = j
    · subst hij; rw [up_at, up_at]
      exact hx.keep hk (fun y e => by have e' : y = gl := e; exact .inr (.inr (.inl e')))
    · rw [up_ne _ _ hij, up_ne _ _ hij]; exact r5 i hi

/-- All that is taken lies in memory. -/
theorem Macs.taken_lt (h : Macs X w wr gm go gl p q v km mm ks ml sv lv) : ∀ x, Taken X gm go gl p q v x → x < wr.heap.size := by
  rintro x (rfl | rfl | rfl | ⟨j, hj, hf⟩ | hx)
  · exact h.bm.lt
  · exact h.bo.lt
  · exact h.bl.lt
  · exact (h.mac j hj).foot_lt x hf
  · exact (h.xoff x hx).2.2.2.2.2
/-- A new block is taken beside. -/
theorem Macs.widen (h : Macs (fun _ => False) w wr gm go gl p q v km mm ks ml sv lv) (hk : Keeps (fun _ => False) wr w') {g : Nat} (hg : wr.heap.size ≤ g ∧ g < w'.heap.size) : Macs (fun x => x = g) w w' gm go gl p q v km mm ks ml sv lv := by
  have h1 := h.read hk
  refine ⟨h1.mac, h1.apart, h1.bm, h1.bo, h1.bl, h1.ne, h1.hi, h1.of, fun i hi => ?_, h1.keep, fun x hx => ?_⟩
  · have h2 := (h.all i hi).more (G := Taken (fun x => x = g) gm go gl p q v) (Nat.le_refl _) (fun x hx => by
      rcases hx with e | e | e | e | e
      · exact .inl (.inl e)
      · exact .inl (.inr (.inl e))
      · exact .inl (.inr (.inr (.inl e)))
      · exact .inl (.inr (.inr (.inr (.inl e))))
      · exact .inr (by omega))
    exact h2.keep hk (fun _ h => h.elim)
  · have e : x = g := hx
    subst e
    have a := h.bm.lt
    have b := h.bo.lt
    have c := h.bl.lt
    have d := h.keep.size
    exact ⟨by omega, by omega, by omega, fun j hj hf => by have := (h.mac j hj).foot_lt x hf; omega, by omega, hg.2⟩
/-- .. and let go. -/
theorem Macs.drop (h : Macs X w wr gm go gl p q v km mm ks ml sv lv) : Macs (fun _ => False) w wr gm go gl p q v km mm ks ml sv lv := by
  refine ⟨h.mac, h.apart, h.bm, h.bo, h.bl, h.ne, h.hi, h.of, fun i hi => ?_, h.keep, fun x hx => hx.elim⟩
  obtain ⟨A, n, c, e, a1, a2, a3, a4, a5⟩ := h.all i hi
  refine ⟨A, n, c, e, a1, a2, a3, a4, a5.mono (fun x hx => ?_)⟩
  rcases hx with e | e | e | e | e
  · exact .inl e
  · exact .inr (.inl e)
  · exact .inr (.inr (.inl e))
  · exact .inr (.inr (.inr (.inl e)))
  · exact e.elim
/-- What is taken beside is written. -/
theorem Macs.away (h : Macs X w wr gm go gl p q v km mm ks ml sv lv) (hk : Keeps X wr w') : Macs X w w' gm go gl p q v km mm ks ml sv lv := by
  have hx := h.xoff
  refine ⟨fun i hi => (h.mac i hi).keepF hk (fun x hf e => (hx x e).2.2.2.1 i hi hf) (fun x hlt e => by have := (hx x e).2.2.2.2.1; omega), h.apart, hk.blk h.bm (fun e => (hx _ e).1 rfl), hk.blk h.bo (fun e => (hx _ e).2.1 rfl), hk.blk h.bl (fun e => (hx _ e).2.2.1 rfl), h.ne, h.hi, h.of,
    fun i hi => (h.all i hi).keep hk (fun x e => .inr (.inr (.inr (.inr e)))), h.keep.trans hk (fun x hlt e => by have := (hx x e).2.2.2.2.1; omega), fun x e => ?_⟩
  obtain ⟨a, b, c, d, e', f⟩ := hx x e
  exact ⟨a, b, c, d, e', Nat.lt_of_lt_of_le f hk.size⟩
end
/-- Two values. -/
def two {α : Type} (x y : α) : Nat → α := fun i => if i = 0 then x else y
/-- Two new Macs in a new block. -/
def NewTwo (w2 wx : World) (key0 key1 : List Int) (gm p0 q0 : Nat) (v0 : Value) (p1 q1 : Nat) (v1 : Value) : Prop :=
  OMac w2 wx p0 q0 v0 key0 [] ∧ OMac w2 wx p1 q1 v1 key1 [] ∧ (∀ x, MFoot p0 q0 v0 x → ¬ MFoot p1 q1 v1 x) ∧ Blk wx gm 72 [ptr p0, ptr p1] ∧ w2.heap.size ≤ gm ∧ Keeps (fun _ => False) w2 wx
theorem newTwo_mk {w2 wx : World} {key0 key1 : List Int} {gm p0 q0 : Nat} {v0 : Value} {p1 q1 : Nat} {v1 : Value} {cs : List Value} (h0 : OMac w2 wx p0 q0 v0 key0 []) (h1 : OMac w2 wx p1 q1 v1 key1 []) (hs : ∀ x, MFoot p0 q0 v0 x → ¬ MFoot p1 q1 v1 x)
    (hb : Blk wx gm 72 cs) (hg : w2.heap.size ≤ gm) (hk : Keeps (fun _ => False) w2 wx) : NewTwo w2 (wx.setRow gm [ptr p0, ptr p1].toArray) key0 key1 gm p0 q0 v0 p1 q1 v1 := by
  have hF : Keeps (fun i => i = gm) wx (wx.setRow gm [ptr p0, ptr p1].toArray) := (Keeps.refl (fun i => i = gm) wx).setRow (.inl rfl) _
  have f0 := foot_off h0 hb (by decide) (by decide) (by decide)
  have f1 := foot_off h1 hb (by decide) (by decide) (by decide)
  exact ⟨h0.keepF hF (fun i hi e => f0 (by rw [← (show i = gm from e)]; exact hi)) (fun i hi e => by have e' : i = gm := e; omega), h1.keepF hF (fun i hi e => f1 (by rw [← (show i = gm from e)]; exact hi)) (fun i hi e => by have e' : i = gm := e; omega), hs, hb.setRow _, hg, hk.setRow (.inr hg) _⟩
/-- Behind the keys' spoiling; the keys and no messages are laid. -/
theorem macs_start {w w2 wc w5 w6 : World} {g1 g2 gm p0 q0 : Nat} {v0 : Value} {p1 q1 : Nat} {v1 : Value} {a b : List Int} {sA sB : Value} (hw : Keeps (fun _ => False) w w2) (ht : NewTwo w2 wc a b gm p0 q0 v0 p1 q1 v1)
    (h1 : w.heap.size ≤ g1 ∧ g1 < w2.heap.size) (h2 : w.heap.size ≤ g2 ∧ g2 < w2.heap.size) (k5 : Keeps (fun x => x = g1) wc w5) (k6 : Keeps (fun x => x = g2) w5 w6) (ha : Reads (fun _ => False) w sA a) (hb : Reads (fun _ => False) w sB b) :
    Macs (fun _ => False) w ((w6.alloc (.cells #[sA, sB] 71)).alloc (.cells #[.slice none 0 0, .slice none 0 0] 71)) gm w6.heap.size (w6.heap.size + 1) (two p0 p1) (two q0 q1) (two v0 v1) (two a b) (two [] []) (two a b) (two [] []) (two sA sB) (two (.slice none 0 0) (.slice none 0 0)) := by
  obtain ⟨o0, o1, hs, hbm, hgm, hk⟩ := ht
  have hwc : Keeps (fun _ => False) w wc := hw.trans hk (fun _ _ h => h)
  have kk : Keeps (fun x => x = g1 ∨ x = g2) wc w6 := (k5.mono (fun _ _ h => Or.inl h)).trans k6 (fun _ _ h => Or.inr h)
  have step : ∀ {p q : Nat} {v : Value} {k : List Int}, OMac w2 wc p q v k [] → OMac w ((w6.alloc (.cells #[sA, sB] 71)).alloc (.cells #[.slice none 0 0, .slice none 0 0] 71)) p q v k [] := fun o =>
    (((o.older hw).keepF kk (fun i hi e => by have := o.foot_low i hi; rcases e with e | e <;> omega) (fun i hi e => by rcases e with e | e <;> omega)).keep ((Keeps.refl _ _).alloc _)).keep ((Keeps.refl _ _).alloc _)
  have hkE : Keeps (fun _ => False) w ((w6.alloc (.cells #[sA, sB] 71)).alloc (.cells #[.slice none 0 0, .slice none 0 0] 71)) := ((hwc.trans kk (fun i hi e => by rcases e with e | e <;> omega)).alloc _).alloc _
  have hsz : w2.heap.size ≤ w6.heap.size := Nat.le_trans hk.size kk.size
  refine ⟨fun i hi => ?_, fun i j hi hj hij x hx => ?_, ?_, ?_, ?_, by omega, ⟨by have := hw.size; omega, by have := hw.size; omega, by have := hw.size; omega⟩, fun i hi => ?_, fun i hi => ?_, hkE, fun x hx => hx.elim⟩
  · rcases (show i = 0 ∨ i = 1 by omega) with rfl | rfl
    · exact step o0
    · exact step o1
  · rcases (show (i = 0 ∧ j = 1) ∨ (i = 1 ∧ j = 0) by omega) with ⟨rfl, rfl⟩ | ⟨rfl, rfl⟩
    · exact hs x hx
    · exact fun h => hs x h hx
  · exact ((kk.blk hbm (fun e => by rcases e with e | e <;> omega)).alloc _).alloc _
  · exact (Blk.new w6 71 [sA, sB]).alloc _
  · have := Blk.new (w6.alloc (.cells #[sA, sB] 71)) 71 [.slice none 0 0, .slice none 0 0]
    rwa [World.size_alloc] at this
  · rcases (show i = 0 ∨ i = 1 by omega) with rfl | rfl
    · exact ha
    · exact hb
  · rcases (show i = 0 ∨ i = 1 by omega) with rfl | rfl
    · exact ⟨none, 0, 0, rfl, rfl, Rd.nil _ _, (fun x hx => by cases hx), by omega, (fun h => absurd h (by omega))⟩
    · exact ⟨none, 0, 0, rfl, rfl, Rd.nil _ _, (fun x hx => by cases hx), by omega, (fun h => absurd h (by omega))⟩
section
variable {X : Nat → Prop} {w wr w' : World} {gm go gl : Nat} {p q : Nat → Nat} {v : Nat → Value} {km mm ks ml : Nat → List Int} {sv lv : Nat → Value}
theorem Macs.cm (h : Macs X w wr gm go gl p q v km mm ks ml sv lv) {i : Nat} (hi : i < 2) : wr.cell? ⟨gm, i, none⟩ = some (ptr (p i)) ∧ wr.frozen? ⟨gm, i, none⟩ = false := by
  refine ⟨?_, h.bm.frozen i⟩
  rw [h.bm.cell]; exact two_at ptr p hi
theorem Macs.co (h : Macs X w wr gm go gl p q v km mm ks ml sv lv) {i : Nat} (hi : i < 2) : wr.cell? ⟨go, i, none⟩ = some (sv i) ∧ wr.frozen? ⟨go, i, none⟩ = false := by
  refine ⟨?_, h.bo.frozen i⟩
  rw [h.bo.cell]; exact two_at id sv hi
theorem Macs.cl (h : Macs X w wr gm go gl p q v km mm ks ml sv lv) {i : Nat} (hi : i < 2) : wr.cell? ⟨gl, i, none⟩ = some (lv i) ∧ wr.frozen? ⟨gl, i, none⟩ = false := by
  refine ⟨?_, h.bl.frozen i⟩
  rw [h.bl.cell]; exact two_at id lv hi
end
/-- What append does, from a slice that reads as a list (nil, empty or not). -/
theorem append_any_rd {P : Program} (w : World) (t ty e : TypeId) (i : TypeInfo) (z : Value) (bytes : Nat) (ht : P.underlying t = some (.slice e)) (hi : P.info? e = some i) (hz : i.zero = some z) (hsz : i.size = 1) (hby : i.bytes = bytes) (hzs : z.cells.size = 1)
    (B : Option Addr) (n d : Nat) (xs : List Value) (hown : w.ownsRow 0 e 1 (.slice B n d) n xs) (A : Option Addr) (m c : Nat) (news : List Value) (hr : Rd w A m news) (h1 : ∀ u ∈ news, u.oneCell' = true)
    (h63 : n + m ≤ maxLen) (hbytes : (n + m) * bytes ≤ 140737488355328) :
    ∃ A' c' w', (Builtin.append_ #[t, t] ty #[.slice B n d, .slice A m c]).run P w = .ok (.slice A' (n + m) c') w' ∧ w'.ownsRow 0 e 1 (.slice A' (n + m) c') (n + m) (xs ++ news) ∧ Split w w' B n d A' c' := by
  rcases A with _ | ad
  · have hm : m = 0 := by
      rcases Nat.eq_zero_or_pos m with h0 | h0
      · exact h0
      · obtain ⟨g, o, e1, _⟩ := hr.2 h0
        cases e1
    subst hm
    have hn : news = [] := List.eq_nil_of_length_eq_zero hr.1
    subst hn
    refine ⟨B, d, w, ?_, by simpa using hown, .inl ⟨rfl, rfl, World.grownBy.refl w _⟩⟩
    rcases hown.2 with ⟨hv, hn0⟩ | ⟨g, cap, cur, hv, _, _, hnc, _⟩
    · injection hv with e1 e2 e3
      subst e1 e2 e3
      simp [Builtin.append_, run_underlying ht, sizeOf, typeInfo, hi, Builtin.lenOf, Builtin.firstCells]
    · injection hv with e1 e2 e3
      subst e1 e3
      simp [Builtin.append_, run_underlying ht, sizeOf, typeInfo, hi, Builtin.lenOf, Builtin.firstCells, hnc, storeCells]
  · refine append_split w 0 t ty e i z bytes ht hi hz hsz hby hzs B n d xs hown ad m c news hr.1 ?_ h1 h63 hbytes (by omega)
    intro j u hu
    have hj : j < news.length := (List.getElem?_eq_some_iff.1 hu).1
    obtain ⟨g, o, e1, hc⟩ := hr.2 (by have := hr.1; omega)
    injection e1 with e1
    subst e1
    rw [add_at, hc j (by have := hr.1; omega), hu]
/-- append at a step of a region that draws. -/
theorem step_append_rd {P : Program} {Q : Exit → Act → World → Prop} {K : Act → World → Prop} {ops : Array Oper} {a : Act} {w : World} {o : Oper} (hgd : o.guard = none) (s x : Operand) (t : TypeId)
    (ho : o.op = .call { callee := .builtin .append, args := #[s, x], argTypes := #[t, t] })
    (e : TypeId) (z : Value) (bytes : Nat) (ht : P.underlying t = some (.slice e)) (hinfo : (P.info? e).map (fun i => (i.zero, i.size, i.bytes)) = some (some z, 1, bytes)) (hzs : z.cells.size = 1)
    (B : Option Addr) (n d : Nat) (xs : List Value) (hs : a.eval s = .slice B n d) (hown : w.ownsRow 0 e 1 (.slice B n d) n xs)
    (A : Option Addr) (m c : Nat) (news : List Value) (hx : a.eval x = .slice A m c) (hr : Rd w A m news) (h1 : ∀ u ∈ news, u.oneCell' = true)
    (h63 : n + m ≤ maxLen) (hbytes : (n + m) * bytes ≤ 140737488355328)
    (h : ∀ A' c' w', w'.ownsRow 0 e 1 (.slice A' (n + m) c') (n + m) (xs ++ news) → Split w w' B n d A' c' → K (a.put o.dst (.slice A' (n + m) c')) w') :
    if Region.wanted o (yielded ops a.tmps) = true then Oper.wp P o a w K Q else K (a.put o.dst undef) w := by
  have hw : Region.wanted o (yielded ops a.tmps) = true := by simp [Region.wanted, hgd]
  rw [if_pos hw]
  obtain ⟨i, hi, hzi⟩ := Option.map_eq_some_iff.1 hinfo
  simp only [Prod.mk.injEq] at hzi
  obtain ⟨hz, hsz, hby⟩ := hzi
  obtain ⟨A', c', w', hrun, hown', hsp⟩ := append_any_rd w t o.type e i z bytes ht hi hz hsz hby hzs B n d xs hown A m c news hr h1 h63 hbytes
  unfold Oper.wp execOp
  simp only [ho, resolve, invoke, builtin, Sem.run_bind, Sem.run_pure, Result.andThen_ok, List.map_toArray, List.map_cons, List.map_nil, hs, hx, hrun]
  exact h A' c' w' hown' hsp
/-- The first append onto a literal empty row, in a region that draws. -/
theorem mine_first {w w' : World} {e : TypeId} {A' : Option Addr} {n c' : Nat} {xs : List Value} {o : Obj} (hown : w'.ownsRow 0 e 1 (.slice A' n c') n xs) (hs : Split (w.alloc o).drew w' (some ⟨w.heap.size, 0, none⟩) 0 0 A' c') : Mine w w' e A' n c' xs := by
  refine ⟨hown, ((Keeps.refl (fun _ => False) w).alloc o).drew.grown hs.grown (fun g e => ?_), fun g hg => ?_⟩
  · have e1 : some w.heap.size = some g := e
    injection e1 with e1
    exact .inr (by omega)
  · rcases hs.block (m := n) with h | h
    · rw [h] at hg
      have e1 : some w.heap.size = some g := hg
      injection e1 with e1
      omega
    · rw [h] at hg
      injection hg with e1
      have e2 : (w.alloc o).heap.size = g := e1
      rw [World.size_alloc] at e2
      omega
theorem Reads.rd {F : Nat → Prop} {wr : World} {x : Value} {bs : List Int} (h : Reads F wr x bs) {A : Option Addr} {n c : Nat} (e : x = .slice A n c) : Rd wr A n (vb bs) ∧ bs.length = n := by
  obtain ⟨A1, n1, c1, e1, a1, a2, _⟩ := h
  rw [e1] at e
  injection e with e2 e3 e4
  subst e2 e3 e4
  exact ⟨a2, a1⟩
/-- A new row as a message. -/
theorem reads_new {X : Nat → Prop} {w wr w' : World} {gm go gl : Nat} {p q : Nat → Nat} {v : Nat → Value} {km mm ks ml : Nat → List Int} {sv lv : Nat → Value} (h : Macs X w wr gm go gl p q v km mm ks ml sv lv) {A : Option Addr} {n c : Nat} {bs : List Int} (hm : Mine wr w' 5 A n c (vb bs)) (hl : bs.length = n) (hb : IsBytes bs) (hn : n ≤ 140737488351232) :
    Reads (Taken X gm go gl p q v) w' (.slice A n c) bs :=
  ⟨A, n, c, rfl, hl, Rd.of_own hm.1, hb, hn, fun _ ad e hx => by
    have h1 := h.taken_lt _ hx
    have h2 := hm.2.2 ad.block (by rw [e]; rfl)
    omega⟩
theorem len_up {mm : Nat → List Int} {i : Nat} {x : List Int} {T T' : Nat} (h : ∀ i, i < 2 → (mm i).length ≤ T) (hT : T ≤ T') (hx : x.length ≤ T') : ∀ j, j < 2 → (up mm i x j).length ≤ T' := fun j hj => by
  by_cases hji : j = i
  · subst hji; rw [up_at]; exact hx
  · rw [up_ne _ _ hji]; exact Nat.le_trans (h j hj) hT
theorem Reads.at {F : Nat → Prop} {wr : World} {x y : Value} {bs : List Int} (h : Reads F wr x bs) (e : x = y) : Reads F wr y bs := by rw [← e]; exact h
theorem cell_set_ne (w : World) (g i j : Nat) (u : Value) (h : i ≠ j) : (w.setCell ⟨g, j, none⟩ u).cell? ⟨g, i, none⟩ = w.cell? ⟨g, i, none⟩ := by
  refine World.cell?_setCell_other w _ _ u ?_
  intro e
  injection e with _ e2 _
  exact h e2.symm
/-- A step of a script. -/
structure OpV where
  kind : Int
  who : Int
  A : Option Addr
  c : Nat
  bs : List Int
/-- A script that lies in a world. -/
def ScriptAt (w : World) (E : Option Addr) (ops : List OpV) : Prop := ∀ (k : Nat) (op : OpV), ops[k]? = some op → ∃ g o, E = some ⟨g, o, none⟩ ∧ w.cell? ⟨g, o + k * 3, none⟩ = some (.int .i64 op.kind) ∧ w.cell? ⟨g, o + k * 3 + 1, none⟩ = some (.int .i64 op.who) ∧ w.cell? ⟨g, o + k * 3 + 2, none⟩ = some (.slice op.A op.bs.length op.c) ∧
  Rd w op.A op.bs.length (vb op.bs) ∧ IsBytes op.bs ∧ op.bs.length ≤ op.c ∧ op.bs.length ≤ 140737488351232
def totF (ops : List OpV) (k : Nat) : Nat := ((ops.take k).map fun op => op.bs.length).sum
theorem totF_succ (ops : List OpV) (k : Nat) (op : OpV) (h : ops[k]? = some op) : totF ops (k + 1) = totF ops k + op.bs.length := by
  unfold totF
  rw [List.take_add_one, h]
  simp
theorem totF_le (ops : List OpV) (k : Nat) : totF ops k ≤ totF ops ops.length := by
  unfold totF
  rw [List.take_length]
  conv => rhs; rw [← List.take_append_drop k ops]
  rw [List.map_append, List.sum_append]
  omega
end Go.Proofs.YtnlnbgjpbnjjfaaDoor
