/-
  A BOOK in memory: its entries, its leaves.
-/
import Derived.Test.YtknecjjdegngfaaDoorTailK
import Derived.Test.YtknecjjdegngfaaDoorDigsK
import Derived.Test.YtknecjjdegngfaaDoorBookHashesW
set_option linter.unusedSimpArgs false
namespace Go.Aff
open Go Go.RowKit Go.Sha
theorem own_at {w : World} {e : TypeId} {s n : Nat} {v : Value} {xs : List Value} (h : w.ownsRow 0 e s v n xs) {g : Nat} (hg : v.ownBlock = some g) : ∃ cur, w.heap[g]? = some (.cells cur e (0, 0)) := by
  rcases h.2 with ⟨hv, _⟩ | ⟨g1, cap, cur, hv, _, hh, _⟩
  · rw [hv] at hg; cases hg
  · rw [hv] at hg
    have e1 : some g1 = some g := hg
    injection e1 with e1
    subst e1
    exact ⟨cur, hh⟩
theorem own_ne {w : World} {e e' : TypeId} {s s' n n' : Nat} {v v' : Value} {xs xs' : List Value} (h : w.ownsRow 0 e s v n xs) (h' : w.ownsRow 0 e' s' v' n' xs') (he : e ≠ e') {g : Nat} (hg : v.ownBlock = some g) : v'.ownBlock ≠ some g := by
  intro hg'
  obtain ⟨c1, h1⟩ := own_at h hg
  obtain ⟨c2, h2⟩ := own_at h' hg'
  rw [h1] at h2
  injection h2 with h2
  injection h2 with _ h3
  exact he h3
theorem own_blkT {w : World} {e t : TypeId} {s n p : Nat} {v : Value} {xs cs : List Value} (h : w.ownsRow 0 e s v n xs) (hb : Blk w p t cs) (he : e ≠ t) : v.ownBlock ≠ some p := by
  intro hg
  obtain ⟨c1, h1⟩ := own_at h hg
  rw [Blk] at hb
  rw [h1] at hb
  injection hb with h2
  injection h2 with _ h3
  exact he h3
theorem own_lt {w : World} {e : TypeId} {s n : Nat} {v : Value} {xs : List Value} (h : w.ownsRow 0 e s v n xs) {g : Nat} (hg : v.ownBlock = some g) : g < w.heap.size := by
  obtain ⟨c, h1⟩ := own_at h hg
  exact (Array.getElem?_eq_some_iff.1 h1).1
end Go.Aff
namespace Go.Proofs.YtknecjjdegngfaaDoor
open Go Go.RowKit Go.Sha Go.Aff Go.Book
def FootB (p : Nat) (u l : Value) (i : Nat) : Prop := i = p ∨ u.ownBlock = some i ∨ l.ownBlock = some i
/-- The entries as the book holds them. -/
def Holds (wr : World) (F : Nat → Prop) (es : List (List Int)) (vals : List Value) : Prop :=
  vals.length = es.length ∧ ∀ (i : Nat) (bs : List Int), es[i]? = some bs → ∃ A' c', vals[i]? = some (Value.slice A' bs.length c') ∧ Rd wr A' bs.length (vb bs) ∧ Out F A' bs.length ∧ IsBytes bs ∧ bs.length ≤ c' ∧ bs.length ≤ 1048576
def BookAt (wr : World) (p : Nat) (u l : Value) (es : List (List Int)) (y : Int) : Prop :=
  Blk wr p 104 [u, l, .int .i64 y] ∧ (∃ vals, wr.ownsRow 0 22 1 u es.length vals ∧ Holds wr (FootB p u l) es vals) ∧ wr.ownsRow 0 24 32 l es.length (dg (es.map leafF))
theorem BookAt.apart {wr : World} {p : Nat} {u l : Value} {es : List (List Int)} {y : Int} (h : BookAt wr p u l es y) : u.ownBlock ≠ some p ∧ l.ownBlock ≠ some p ∧ ∀ g, u.ownBlock = some g → l.ownBlock ≠ some g := by
  obtain ⟨hb, ⟨vals, hu, _⟩, hl⟩ := h
  exact ⟨own_blkT hu hb (by decide), own_blkT hl hb (by decide), fun g hg => own_ne hu hl (by decide) hg⟩
theorem BookAt.lt {wr : World} {p : Nat} {u l : Value} {es : List (List Int)} {y : Int} (h : BookAt wr p u l es y) : ∀ i, FootB p u l i → i < wr.heap.size := by
  obtain ⟨hb, ⟨vals, hu, _⟩, hl⟩ := h
  intro i hi
  rcases hi with rfl | hi | hi
  · exact hb.lt
  · exact own_lt hu hi
  · exact own_lt hl hi
theorem Holds.keep {wr w' : World} {F G : Nat → Prop} {es : List (List Int)} {vals : List Value} (h : Holds wr F es vals) (hk : Keeps G wr w') (hG : ∀ i, G i → F i) : Holds w' F es vals :=
  ⟨h.1, fun i bs hi => by
    obtain ⟨A', c', h1, h2, h3, h4, h5, h6⟩ := h.2 i bs hi
    exact ⟨A', c', h1, h2.keep hk (h3.mono hG), h3, h4, h5, h6⟩⟩
/-- What else is laid leaves the book as it is. -/
theorem BookAt.keep {wr w' : World} {p : Nat} {u l : Value} {es : List (List Int)} {y : Int} (h : BookAt wr p u l es y) (hk : Keeps (fun _ => False) wr w') : BookAt w' p u l es y := by
  obtain ⟨hb, ⟨vals, hu, hh⟩, hl⟩ := h
  exact ⟨hk.blk hb (fun h => h), ⟨vals, hk.own hu (fun _ _ h => h), hh.keep hk (fun _ h => h.elim)⟩, hk.own hl (fun _ _ h => h)⟩
theorem BookAt.form {wr : World} {p : Nat} {u l : Value} {es : List (List Int)} {y : Int} (h : BookAt wr p u l es y) : ∃ A c B d, u = .slice A es.length c ∧ l = .slice B es.length d := by
  obtain ⟨hb, ⟨vals, hu, hh⟩, hl⟩ := h
  obtain ⟨A, c, rfl⟩ := own_shape hu
  obtain ⟨B, d, rfl⟩ := own_shape hl
  exact ⟨A, c, B, d, rfl, rfl⟩
/-- One entry more. -/
theorem BookAt.step {wr v1 w4 : World} {p : Nat} {u l u' l' : Value} {es : List (List Int)} {y : Int} {vals : List Value} (h : BookAt wr p u l es y) (hh : Holds wr (FootB p u l) es vals) {bs : List Int} {Ac : Option Addr} {cc : Nat}
    (hbs : IsBytes bs) (hlen : bs.length ≤ 1048576) (hcc : bs.length ≤ cc) (hk1 : Keeps (fun _ => False) wr v1) (hc : Rd w4 Ac bs.length (vb bs)) (hcn : ∀ ad, Ac = some ad → wr.heap.size ≤ ad.block ∧ ad.block < v1.heap.size)
    (hU : w4.ownsRow 0 22 1 u' (es.length + 1) (vals ++ [Value.slice Ac bs.length cc])) (hL : w4.ownsRow 0 24 32 l' (es.length + 1) (dg (es.map leafF) ++ vb (leafF bs)))
    (hK : Keeps (fun i => u.ownBlock = some i ∨ l.ownBlock = some i) wr w4) (hun : ∀ g, u'.ownBlock = some g → u.ownBlock = some g ∨ v1.heap.size ≤ g) (hln : ∀ g, l'.ownBlock = some g → l.ownBlock = some g ∨ v1.heap.size ≤ g) :
    BookAt ((w4.setCell ⟨p, 0, none⟩ u').setCell ⟨p, 1, none⟩ l') p u' l' (es ++ [bs]) y := by
  have hap := h.apart
  have hlt := h.lt
  have hs1 := hk1.size
  obtain ⟨hb, _, hl⟩ := h
  have hb4 : Blk w4 p 104 [u, l, .int .i64 y] := hK.blk hb (fun hx => hx.elim hap.1 hap.2.1)
  have hpl : p < wr.heap.size := hb.lt
  have hup : u'.ownBlock ≠ some p := own_blkT hU hb4 (by decide)
  have hlp : l'.ownBlock ≠ some p := own_blkT hL hb4 (by decide)
  have hkp : Keeps (fun i => i = p) w4 ((w4.setCell ⟨p, 0, none⟩ u').setCell ⟨p, 1, none⟩ l') :=
    ((Keeps.refl (fun i => i = p) w4).setCell (p := ⟨p, 0, none⟩) (.inl rfl) _).setCell (p := ⟨p, 1, none⟩) (.inl rfl) _
  refine ⟨?_, ⟨vals ++ [Value.slice Ac bs.length cc], ?_, ?_, ?_⟩, ?_⟩
  · have := (hb4.set_ 0 u').set_ 1 l'
    simpa using this
  · rw [List.length_append]
    exact hkp.own hU (fun g hg e => hup (e ▸ hg))
  · simp [hh.1]
  · intro i b hi
    rcases Nat.lt_or_ge i es.length with hlti | hge
    · rw [List.getElem?_append_left hlti] at hi
      obtain ⟨A', c', h1, h2, h3, h4, h5, h6⟩ := hh.2 i b hi
      have hold : ∀ ad, 0 < b.length → A' = some ad → ad.block < wr.heap.size := fun ad hn he => by
        obtain ⟨g, o, e1, hcell⟩ := h2.2 hn
        rw [e1] at he
        injection he with he
        subst he
        have h0 := hcell 0 hn
        rw [List.getElem?_eq_getElem (by simp [vb]; omega)] at h0
        exact World.block_lt_of_cell? _ _ h0
      have ho : Out (FootB p u' l') A' b.length := fun hn ad he hf => by
        have hlo := hold ad hn he
        have hnf := h3 hn ad he
        rcases hf with hf | hf | hf
        · exact hnf (.inl hf)
        · rcases hun _ hf with h9 | h9
          · exact hnf (.inr (.inl h9))
          · omega
        · rcases hln _ hf with h9 | h9
          · exact hnf (.inr (.inr h9))
          · omega
      have h24 : Rd w4 A' b.length (vb b) := h2.keep hK (fun hn ad he hf => h3 hn ad he (hf.elim (fun x => .inr (.inl x)) (fun x => .inr (.inr x))))
      refine ⟨A', c', ?_, h24.keep hkp (fun hn ad he hf => h3 hn ad he (.inl hf)), ho, h4, h5, h6⟩
      rw [List.getElem?_append_left (by rw [hh.1]; exact hlti)]
      exact h1
    · have hie : i = es.length := by
        have := (List.getElem?_eq_some_iff.1 hi).1
        simp at this
        omega
      subst hie
      have hbe : b = bs := by simpa using hi.symm
      subst hbe
      refine ⟨Ac, cc, by rw [List.getElem?_append_right (by rw [hh.1]; exact Nat.le_refl _), hh.1]; simp, ?_, ?_, hbs, hcc, hlen⟩
      · exact hc.keep hkp (fun hn ad he hf => by have := hcn ad he; omega)
      · intro hn ad he hf
        have h9 := hcn ad he
        rcases hf with hf | hf | hf
        · omega
        · rcases hun _ hf with h8 | h8
          · have := hlt _ (.inr (.inl h8)); omega
          · omega
        · rcases hln _ hf with h8 | h8
          · have := hlt _ (.inr (.inr h8)); omega
          · omega
  · have e1 : dg ((es ++ [bs]).map leafF) = dg (es.map leafF) ++ vb (leafF bs) := by
      rw [List.map_append, dg_app]
      simp [dg_one]
    rw [e1, List.length_append]
    exact hkp.own hL (fun g hg e => hlp (e ▸ hg))
end Go.Proofs.YtknecjjdegngfaaDoor
