/- Texts. -/
import Derived.Test.YtdmcioghdindfaaGreatDoorT31
set_option linter.unusedSimpArgs false
set_option maxRecDepth 100000
set_option maxHeartbeats 4000000
namespace Go.Aff
open Go Go.RowKit
def backW (w : World) (m : Nat) : World := { w with heap := w.heap.extract 0 m }
theorem backW_size {w : World} {m : Nat} (h : m ≤ w.heap.size) : (backW w m).heap.size = m := by
 simp only [backW, Array.size_extract]; omega
theorem backW_keeps {w : World} {m : Nat} (h : m ≤ w.heap.size) : Keeps (fun _ => False) (backW w m) w :=
 ⟨rfl, rfl, rfl, by rw [backW_size h]; exact h, fun i hi _ => by
  rw [backW_size h] at hi
  simp only [backW, Array.getElem?_extract]
  rw [if_pos (by omega), Nat.zero_add]⟩
section
variable {F : Nat → Prop} {w wr w' : World} {e f : TypeId} {s t : Nat} {A B : Option Addr} {n c m d : Nat} {xs ys : List Value}
theorem MineS.rebase (h : MineS s w wr e A n c xs) (k : Keeps F wr w') (hF : ∀ g, (Value.slice A n c).ownBlock = some g → ¬ F g) : MineS s (backW w' w.heap.size) w' e A n c xs := by
 have hs : w.heap.size ≤ w'.heap.size := Nat.le_trans h.2.1.size k.size
 exact ⟨k.own h.1 hF, backW_keeps hs, fun g hg => by rw [backW_size hs]; exact h.2.2 g hg⟩
theorem BoxTwo.rebase {b : Nat} {T : TypeId} {cs : List Value} (h : BoxTwo w wr b T cs e s A n c xs f t B m d ys) (k : Keeps F wr w') (hb : ¬ F b) (hA : ∀ g, (Value.slice A n c).ownBlock = some g → ¬ F g) (hB : ∀ g, (Value.slice B m d).ownBlock = some g → ¬ F g) :
  BoxTwo (backW w' w.heap.size) w' b T cs e s A n c xs f t B m d ys := by
 have hs : w.heap.size ≤ w'.heap.size := Nat.le_trans h.hold.size k.size
 exact ⟨⟨h.two.a.rebase k hA, h.two.b.rebase k hB, h.two.ap⟩, k.blk h.blk hb, by rw [backW_size hs]; exact h.lo, h.na, h.nb⟩
end
end Go.Aff
namespace Go.Proofs.YtdmcioghdindfaaGreatDoor
open Go Go.RowKit Go.Aff Go.Json Go.Rng
theorem LaySt.rebase {E E' F : Nat → Prop} {w2 w4 wx w' : World} {p : Nat} {B : Option Addr} {d : Nat} {A : Option Addr} {c : Nat} {ms : List (ByteArray × JV)} {vals : List Value} (h : LaySt E w2 w4 wx p B d A c ms vals) (k : Keeps F wx w') (hp : ∀ g, (g = p ∨ (Value.slice B ms.length d).ownBlock = some g ∨ (Value.slice A ms.length c).ownBlock = some g) → ¬ F g) (hE : ∀ i, E i → ¬ F i) (hEE : ∀ i, E i → i < wx.heap.size → E' i) :
  LaySt E' (backW w' w2.heap.size) (backW w' w4.heap.size) w' p B d A c ms vals := by
 have hs4 : w4.heap.size ≤ w'.heap.size := Nat.le_trans h.2.2.2.size k.size
 have hml : (ms.map (·.1)).length = ms.length := List.length_map ..
 have hB : ∀ g, (Value.slice B (ms.map (·.1)).length d).ownBlock = some g → ¬ F g := fun g hg => hp g (.inr (.inl (by rw [← hml]; exact hg)))
 have hA : ∀ g, (Value.slice A (ms.map (·.1)).length c).ownBlock = some g → ¬ F g := fun g hg => hp g (.inr (.inr (by rw [← hml]; exact hg)))
 refine ⟨⟨h.1.two.rebase k (hp p (.inl rfl)) hB hA, fun q val x h1 h2 => ?_, h.1.len⟩, fun g hg => by rw [backW_size hs4]; exact h.2.1 g hg, fun g hg => by rw [backW_size hs4]; exact h.2.2.1 g hg, (backW_keeps hs4).mono fun _ _ h => h.elim⟩
 exact (((h.1.at_ q val x h1 h2).mono (C := fun i => Do_ E p (.slice B (ms.map (·.1)).length d) (.slice A (ms.map (·.1)).length c) i ∧ i < wx.heap.size) fun i h3 h4 => ⟨h3, h4⟩).keep k (fun i hi => hE i hi.1.1)).mono fun i hi _ => ⟨hEE i hi.1.1 hi.2, hi.1.2⟩
def CF (cc : Nat) (A : Option Addr) (n c : Nat) (i : Nat) : Prop := i = cc ∨ (Value.slice A n c).ownBlock = some i
structure CSt (m0 : Nat) (w : World) (cc ct : Nat) (A : Option Addr) (n c : Nat) (xs : List ByteArray) : Prop where
 blk : Blk w cc 29 [.slice A n c]
 fn : Blk w ct 69 [.func (.func 28) #[] #[.pointer (some ⟨cc, 0, none⟩), .pointer (some ⟨ct, 0, none⟩)]]
 row : MineS 1 (backW w m0) w 9 A n c (xs.map .string)
 lo : cc < m0 ∧ ct < m0 ∧ m0 ≤ w.heap.size
 ne : cc ≠ ct
section
variable {m0 : Nat} {w w' : World} {cc ct : Nat} {A : Option Addr} {n c : Nat} {xs : List ByteArray}
theorem CSt.own (h : CSt m0 w cc ct A n c xs) {g : Nat} (hg : (Value.slice A n c).ownBlock = some g) : m0 ≤ g ∧ g < w.heap.size := ⟨by have := h.row.2.2 g hg; rw [backW_size h.lo.2.2] at this; exact this, h.row.own_lt hg⟩
theorem CSt.len (h : CSt m0 w cc ct A n c xs) : xs.length = n := by have := h.row.len; rw [List.length_map] at this; omega
theorem CSt.keep {F : Nat → Prop} (h : CSt m0 w cc ct A n c xs) (k : Keeps F w w') (hc : ¬ F cc) (ht : ¬ F ct) (hF : ∀ g, (Value.slice A n c).ownBlock = some g → ¬ F g) : CSt m0 w' cc ct A n c xs := by
 have hr := h.row.rebase k hF
 rw [backW_size h.lo.2.2] at hr
 exact ⟨k.blk h.blk hc, k.blk h.fn ht, hr, ⟨h.lo.1, h.lo.2.1, Nat.le_trans h.lo.2.2 k.size⟩, h.ne⟩
theorem CSt.stay (h : CSt m0 w cc ct A n c xs) (k : Keeps (fun _ => False) w w') : CSt m0 w' cc ct A n c xs := h.keep k (fun h => h) (fun h => h) fun _ _ h => h
theorem CSt.off (h : CSt m0 w cc ct A n c xs) {i : Nat} (hi : w.heap.size ≤ i) : ¬ CF cc A n c i := fun e => by
 rcases e with e | e
 ·have := h.lo; omega
 have := (h.own e).2; omega
theorem CSt.read (h : CSt m0 w cc ct A n c xs) : Rd w A n (xs.map .string) := MineS.rd h.row
theorem CSt.app {w1 : World} {A' : Option Addr} {c' : Nat} {x : ByteArray} (h : CSt m0 w cc ct A n c xs) (hg : w.grownBy w1 (Value.slice A n c).ownBlock) (ho : w1.ownsRow 0 9 1 (.slice A' (n + 1) c') (n + 1) ((xs ++ [x]).map .string))
  (hb : (Value.slice A' (n + 1) c').ownBlock = (Value.slice A n c).ownBlock ∨ (Value.slice A' (n + 1) c').ownBlock = some w.heap.size) :
  CSt m0 (w1.setCell ⟨cc, 0, none⟩ (.slice A' (n + 1) c')) cc ct A' (n + 1) c' (xs ++ [x]) ∧ Keeps (CF cc A n c) w (w1.setCell ⟨cc, 0, none⟩ (.slice A' (n + 1) c')) ∧ ∀ g, (Value.slice A' (n + 1) c').ownBlock = some g → (Value.slice A n c).ownBlock = some g ∨ w.heap.size ≤ g := by
 have k1 : Keeps (fun i => (Value.slice A n c).ownBlock = some i) w w1 := Keeps.of_grown hg
 have hlo := h.lo
 have hcc : (Value.slice A n c).ownBlock ≠ some cc := fun e => by have := (h.own e).1; omega
 have hct : (Value.slice A n c).ownBlock ≠ some ct := fun e => by have := (h.own e).1; omega
 have k2 : Keeps (fun i => i = cc) w1 (w1.setCell ⟨cc, 0, none⟩ (.slice A' (n + 1) c')) := (Keeps.refl (fun i => i = cc) w1).setCell (p := ⟨cc, 0, none⟩) (.inl rfl) _
 have hnew : ∀ g, (Value.slice A' (n + 1) c').ownBlock = some g → (Value.slice A n c).ownBlock = some g ∨ w.heap.size ≤ g := fun g hg' => by
  rcases hb with e | e
  ·exact .inl (e.symm.trans hg')
  rw [e] at hg'; injection hg' with hg'; exact .inr (by omega)
 have hm : ∀ g, (Value.slice A' (n + 1) c').ownBlock = some g → m0 ≤ g := fun g hg' => (hnew g hg').elim (fun e => (h.own e).1) fun e => by omega
 have hsz : m0 ≤ (w1.setCell ⟨cc, 0, none⟩ (.slice A' (n + 1) c')).heap.size := Nat.le_trans hlo.2.2 (Nat.le_trans k1.size k2.size)
 refine ⟨⟨(k1.blk h.blk hcc).set_ 0 _, k2.blk (k1.blk h.fn hct) h.ne.symm, ⟨k2.own ho fun g hg' e => ?_, backW_keeps hsz, fun g hg' => by rw [backW_size hsz]; exact hm g hg'⟩, ⟨hlo.1, hlo.2.1, hsz⟩, h.ne⟩, (k1.mono fun i _ e => .inr e).trans k2 fun i _ e => .inl e, hnew⟩
 have := hm g hg'
 omega
end
def OTAt (D : Nat → Prop) (w : World) (v : Value) : Option JV → Prop
 | none => v = .nilIface
 | some j => TAt D w v j
theorem OTAt.keep {D F : Nat → Prop} {w w' : World} {v : Value} {o : Option JV} (h : OTAt D w v o) (k : Keeps F w w') (hF : ∀ i, D i → ¬ F i) : OTAt D w' v o := by
 cases o with
 | none => exact h
 | some j => exact TAt.keep h k hF
theorem OTAt.mono {D C : Nat → Prop} {w : World} {v : Value} {o : Option JV} (h : OTAt D w v o) (hC : ∀ i, D i → i < w.heap.size → C i) : OTAt C w v o := by
 cases o with
 | none => exact h
 | some j => exact TAt.mono h hC
theorem OAtR.loose {D : Nat → Prop} {w : World} {v : Value} {o : Option JV} (h : OAtR D w v o) : OTAt D w v o := by
 cases o with
 | none => exact h
 | some j => exact TAtR.loose h
theorem OAtR.keep {D F : Nat → Prop} {w w' : World} {v : Value} {o : Option JV} (h : OAtR D w v o) (k : Keeps F w w') (hF : ∀ i, D i → ¬ F i) : OAtR D w' v o := by
 cases o with
 | none => exact h
 | some j => exact TAtR.keep h k hF
def TE (D : Nat → Prop) (w : World) (cc : Nat) (A : Option Addr) (n c : Nat) (i : Nat) : Prop := (D i ∨ w.heap.size ≤ i) ∧ ¬ CF cc A n c i
structure TogSt (D : Nat → Prop) (m0 cc ct : Nat) (w w2 w4 wx : World) (p : Nat) (A0 : Option Addr) (n0 c0 : Nat) (B : Option Addr) (d : Nat) (A : Option Addr) (c : Nat) (ms : List (ByteArray × JV)) (vals : List Value) (A3 : Option Addr) (n3 c3 : Nat) (xs : List ByteArray) : Prop where
 lay : ∃ v2 v4 : World, v2.heap.size = w2.heap.size ∧ v4.heap.size = w4.heap.size ∧ LaySt (TE D w cc A3 n3 c3) v2 v4 wx p B d A c ms vals
 st : CSt m0 wx cc ct A3 n3 c3 xs
 apart : ∀ g, (g = p ∨ (Value.slice B ms.length d).ownBlock = some g ∨ (Value.slice A ms.length c).ownBlock = some g) → ¬ CF cc A3 n3 c3 g
 keep : Keeps (fun i => CF cc A0 n0 c0 i ∨ i = p ∨ w4.heap.size ≤ i) w4 wx
 new : ∀ g, (Value.slice A3 n3 c3).ownBlock = some g → (Value.slice A0 n0 c0).ownBlock = some g ∨ w4.heap.size ≤ g
 lo : m0 ≤ w2.heap.size ∧ m0 ≤ w4.heap.size ∧ w.heap.size ≤ w2.heap.size ∧ w.heap.size ≤ w4.heap.size
section
variable {D : Nat → Prop} {m0 cc ct : Nat} {w w2 w4 wx w' : World} {p : Nat} {A0 : Option Addr} {n0 c0 : Nat} {B : Option Addr} {d : Nat} {A : Option Addr} {c : Nat} {ms : List (ByteArray × JV)} {vals : List Value} {A3 : Option Addr} {n3 c3 : Nat} {xs : List ByteArray}
theorem TogSt.bounds (h : TogSt D m0 cc ct w w2 w4 wx p A0 n0 c0 B d A c ms vals A3 n3 c3 xs) : w2.heap.size ≤ p ∧ p < wx.heap.size ∧ w4.heap.size ≤ wx.heap.size ∧ (∀ g, (Value.slice B ms.length d).ownBlock = some g → w4.heap.size ≤ g ∧ g < wx.heap.size) ∧ ∀ g, (Value.slice A ms.length c).ownBlock = some g → w4.heap.size ≤ g ∧ g < wx.heap.size := by
 obtain ⟨v2, v4, e2, e4, hl⟩ := h.lay
 have hb := hl.below
 have hml : (ms.map (·.1)).length = ms.length := List.length_map ..
 refine ⟨by omega, hb.2, h.keep.size, fun g hg => ?_, fun g hg => ?_⟩
 ·rw [← hml] at hg
  exact ⟨by rw [← e4]; exact hl.2.1 g hg, hl.1.two.two.a.own_lt hg⟩
 rw [← hml] at hg
 exact ⟨by rw [← e4]; exact hl.2.2.1 g hg, hl.1.two.two.b.own_lt hg⟩
theorem TogSt.stay (h : TogSt D m0 cc ct w w2 w4 wx p A0 n0 c0 B d A c ms vals A3 n3 c3 xs) (k : Keeps (fun _ => False) wx w') : TogSt D m0 cc ct w w2 w4 w' p A0 n0 c0 B d A c ms vals A3 n3 c3 xs := by
 obtain ⟨v2, v4, e2, e4, hl⟩ := h.lay
 exact ⟨⟨v2, v4, e2, e4, hl.stay k⟩, h.st.stay k, h.apart, h.keep.trans k fun _ _ h => h.elim, h.new, h.lo⟩
theorem TogSt.told {A' : Option Addr} {n' c' : Nat} {ys : List ByteArray} (h : TogSt D m0 cc ct w w2 w4 wx p A0 n0 c0 B d A c ms vals A3 n3 c3 xs) (k : Keeps (CF cc A3 n3 c3) wx w') (hs : CSt m0 w' cc ct A' n' c' ys) (hn : ∀ g, (Value.slice A' n' c').ownBlock = some g → (Value.slice A3 n3 c3).ownBlock = some g ∨ wx.heap.size ≤ g) :
  TogSt D m0 cc ct w w2 w4 w' p A0 n0 c0 B d A c ms vals A' n' c' ys := by
 have hb := h.bounds
 obtain ⟨v2, v4, e2, e4, hl⟩ := h.lay
 have hlt := hl.1.two.hold.size
 have hs2 : v2.heap.size ≤ w'.heap.size := Nat.le_trans hlt k.size
 have hs4 : v4.heap.size ≤ w'.heap.size := by rw [e4]; exact Nat.le_trans hb.2.2.1 k.size
 have hcf : ∀ i, i < wx.heap.size → CF cc A' n' c' i → CF cc A3 n3 c3 i := fun i hi e => by
  rcases e with e | e
  ·exact .inl e
  rcases hn i e with e1 | e1
  ·exact .inr e1
  omega
 refine ⟨⟨_, _, by rw [backW_size hs2]; exact e2, by rw [backW_size hs4]; exact e4, hl.rebase k h.apart (fun i hi => hi.2) fun i hi hlt => ⟨hi.1, fun e => hi.2 (hcf i hlt e)⟩⟩, hs, fun g hg e => h.apart g hg (hcf g ?_ e), h.keep.trans k fun i hi e => ?_, fun g hg => ?_, h.lo⟩
 ·rcases hg with e1 | e1 | e1
  ·rw [e1]; exact hb.2.1
  ·exact (hb.2.2.2.1 g e1).2
  exact (hb.2.2.2.2 g e1).2
 ·rcases e with e | e
  ·exact .inl (.inl e)
  exact (h.new i e).imp (fun e => .inr e) fun e => .inr e
 rcases hn g hg with e | e
 ·exact h.new g e
 exact .inr (Nat.le_trans hb.2.2.1 e)
theorem TogSt.add (h : TogSt D m0 cc ct w w2 w4 wx p A0 n0 c0 B d A c ms vals A3 n3 c3 xs) (hn : ms.length ≤ 1048576) (key : ByteArray) (t : Value) (x : JV) {C : Nat → Prop} (ht : TAt C wx t x) (hC : ∀ i, C i → TE D w cc A3 n3 c3 i ∧ i ≠ p ∧ (Value.slice B ms.length d).ownBlock ≠ some i ∧ (Value.slice A ms.length c).ownBlock ≠ some i) :
  Calls Tryz.prog 35 #[.pointer (some ⟨p, 0, none⟩), .string key, t] wx fun e w' => e = .returned (.tuple #[]) ∧ ∃ B' d' A' c' vals', Hid (TogSt D m0 cc ct w w2 w4 w' p A0 n0 c0 B' d' A' c' (ms ++ [(key, x)]) vals' A3 n3 c3 xs) := by
 have hb := h.bounds
 obtain ⟨v2, v4, e2, e4, hl⟩ := h.lay
 have hml : (ms.map (·.1)).length = ms.length := List.length_map ..
 refine (add_any v2 wx p .nilIface B d A c _ _ _ hl.1 (by rw [hml]; exact hn) key t x (ht.mono fun q hq _ => ?_)).mono ?_
 ·obtain ⟨g1, g2, g3, g4⟩ := hC q hq
  refine ⟨g1, g2, ?_, ?_⟩
  ·rw [hml]; exact g3
  rw [hml]; exact g4
 rintro e w' ⟨he, ⟨B', d', A', c', vals', ho, hB, hA⟩, hk⟩
 have hm : ms.map (·.1) ++ [key] = (ms ++ [(key, x)]).map (·.1) := by rw [List.map_append]; rfl
 have hm2 : ms.map (·.2) ++ [x] = (ms ++ [(key, x)]).map (·.2) := by rw [List.map_append]; rfl
 rw [hm] at hB hA
 rw [hm, hm2] at ho
 rw [hml] at hB hA hk
 have hml' : ((ms ++ [(key, x)]).map (·.1)).length = (ms ++ [(key, x)]).length := List.length_map ..
 have hw4 : v4.heap.size ≤ wx.heap.size := by rw [e4]; exact hb.2.2.1
 have hnB : ∀ g, (Value.slice B' ((ms ++ [(key, x)]).map (·.1)).length d').ownBlock = some g → v4.heap.size ≤ g ∧ ¬ CF cc A3 n3 c3 g := fun g e => by
  rcases hB g e with (e1 | e1 | e1) | e1
  ·exact absurd (e1 ▸ e) ho.two.na
  ·exact ⟨by rw [e4]; exact (hb.2.2.2.1 g e1).1, h.apart g (.inr (.inl e1))⟩
  ·exact ⟨by rw [e4]; exact (hb.2.2.2.2 g e1).1, h.apart g (.inr (.inr e1))⟩
  exact ⟨by omega, h.st.off e1⟩
 have hnA : ∀ g, (Value.slice A' ((ms ++ [(key, x)]).map (·.1)).length c').ownBlock = some g → v4.heap.size ≤ g ∧ ¬ CF cc A3 n3 c3 g := fun g e => by
  rcases hA g e with (e1 | e1 | e1) | e1
  ·exact absurd (e1 ▸ e) ho.two.nb
  ·exact ⟨by rw [e4]; exact (hb.2.2.2.1 g e1).1, h.apart g (.inr (.inl e1))⟩
  ·exact ⟨by rw [e4]; exact (hb.2.2.2.2 g e1).1, h.apart g (.inr (.inr e1))⟩
  exact ⟨by omega, h.st.off e1⟩
 refine ⟨he, B', d', A', c', vals', H_ ⟨⟨v2, v4, e2, e4, ho, fun g e => (hnB g e).1, fun g e => (hnA g e).1, ?_⟩, ?_, fun g hg => ?_, h.keep.trans hk fun i hi e1 => ?_, h.new, h.lo⟩⟩
 ·refine hl.2.2.2.trans hk fun i _ e1 => ?_
  rcases e1 with e1 | e1 | e1
  ·exact .inl e1
  ·exact .inr (by rw [e4]; exact (hb.2.2.2.1 i e1).1)
  exact .inr (by rw [e4]; exact (hb.2.2.2.2 i e1).1)
 ·refine h.st.keep hk (fun e => h.apart cc e (.inl rfl)) (fun e => ?_) fun g hg e => h.apart g e (.inr hg)
  have hlo := h.st.lo
  have h3 := h.lo
  rcases e with e | e | e
  ·omega
  ·have := (hb.2.2.2.1 ct e).1; omega
  have := (hb.2.2.2.2 ct e).1; omega
 ·rcases hg with e1 | e1 | e1
  ·exact h.apart g (.inl e1)
  ·rw [← hml'] at e1; exact (hnB g e1).2
  rw [← hml'] at e1; exact (hnA g e1).2
 rcases e1 with e1 | e1 | e1
 ·exact .inr (.inl e1)
 ·exact .inr (.inr (hb.2.2.2.1 i e1).1)
 exact .inr (.inr (hb.2.2.2.2 i e1).1)
theorem TogSt.start (hlo : m0 ≤ w2.heap.size ∧ m0 ≤ w4.heap.size ∧ w.heap.size ≤ w2.heap.size ∧ w.heap.size ≤ w4.heap.size) (h : LaySt (TE D w cc A0 n0 c0) w2 w4 w4 p none 0 none 0 [] []) (hs : CSt m0 w4 cc ct A0 n0 c0 xs) (hp : ¬ CF cc A0 n0 c0 p) : TogSt D m0 cc ct w w2 w4 w4 p A0 n0 c0 none 0 none 0 [] [] A0 n0 c0 xs :=
 ⟨⟨w2, w4, rfl, rfl, h⟩, hs, fun g hg => by
  rcases hg with e | e | e
  ·rw [e]; exact hp
  ·simp [Value.ownBlock] at e
  simp [Value.ownBlock] at e, Keeps.refl _ _, fun g hg => .inl hg, hlo⟩
theorem TogSt.thing (h : TogSt D m0 cc ct w w2 w4 wx p A0 n0 c0 B d A c ms vals A3 n3 c3 xs) : TAt (TE D w cc A3 n3 c3) wx (.iface 73 (.pointer (some ⟨p, 0, none⟩))) (.obj (ms.map (·.1)) (ms.map (·.2))) := by
 have hb := h.bounds
 have hlo := h.lo
 obtain ⟨v2, v4, e2, e4, hl⟩ := h.lay
 have hml : (ms.map (·.1)).length = ms.length := List.length_map ..
 have hbk := hl.1.two.blk
 have hA := hl.1.two.two.b
 have hln := hl.1.len
 have hBo : InB (TE D w cc A3 n3 c3) B (ms.map (·.1)).length := fun _ a e => by
  subst e
  exact ⟨.inr (by have := (hb.2.2.2.1 a.block rfl).1; omega), h.apart a.block (.inr (.inl rfl))⟩
 have hAo : InB (TE D w cc A3 n3 c3) A (ms.map (·.2)).length := fun _ a e => by
  subst e
  exact ⟨.inr (by have := (hb.2.2.2.2 a.block rfl).1; omega), h.apart a.block (.inr (.inr rfl))⟩
 rw [← hln] at hbk hA
 refine TAt.obj (b := p) (A := A) (B := B) (c := c) (d := d) (vs := vals) ⟨.inr (by omega), h.apart p (.inl rfl)⟩ (by rw [← hln]; exact hbk) (.inl rfl) (MineS.rd hl.1.two.two.a) hBo (MineS.rd hA) hAo fun q val x h1 h2 => (hl.1.at_ q val x h1 h2).mono fun i hi _ => hi.1
end
end Go.Proofs.YtdmcioghdindfaaGreatDoor
namespace Go.Json
def sortO (o : Option JV) : Int := match o with
 | none => 0
 | some j => j.sort
noncomputable def threeQ (o x y : Option JV) (r : Option JV × List ByteArray) : Option JV × List ByteArray := open Classical in if x = y ∨ y = o then (x, []) else if x = o then (y, []) else r
noncomputable def threeAt (o : Option JV) (x : Option (JV × (Option JV → Option JV → List ByteArray → Option JV × List ByteArray))) (y : Option JV) (way : List ByteArray) : Option JV × List ByteArray := match x with
 | none => threeQ o none y (none, [printB way])
 | some (_, f) => f o y way
noncomputable def JV.three : JV → Option JV → Option JV → List ByteArray → Option JV × List ByteArray
 | .obj kx lx => fun o y way =>
  let L := lx.map fun x => (x, x.three)
  let F := fun key => threeAt (atK (mem2 o).1 (mem2 o).2 key) (atK kx L key) (atK (mem2 y).1 (mem2 y).2 key) (way ++ [key])
  let cs := unionK ((mem2 o).1 ++ (kx ++ (mem2 y).1))
  threeQ o (some (.obj kx lx)) y (if sortO y = 6 then (some (.obj ((keyed (fun key => (F key).1) cs).map (·.1)) ((keyed (fun key => (F key).1) cs).map (·.2))), cs.flatMap fun key => (F key).2) else (some (.obj kx lx), [printB way]))
 | x => fun o y way => threeQ o (some x) y (some x, [printB way])
noncomputable def three (o x y : Option JV) (way : List ByteArray) : Option JV × List ByteArray := match x with
 | none => threeQ o none y (none, [printB way])
 | some x => x.three o y way
noncomputable def threeF (o x y : Option JV) (way : List ByteArray) (key : ByteArray) : Option JV × List ByteArray := three (atK (mem2 o).1 (mem2 o).2 key) (atK (mem2 x).1 (mem2 x).2 key) (atK (mem2 y).1 (mem2 y).2 key) (way ++ [key])
theorem three_whole (p : JV) (o y : Option JV) (way : List ByteArray) (h : p.sort ≠ 6) : p.three o y way = threeQ o (some p) y (some p, [printB way]) := by cases p <;> first | exact absurd rfl h | simp [JV.three]
noncomputable def unionT (o x y : Option JV) : List ByteArray := unionK ((mem2 o).1 ++ ((mem2 x).1 ++ (mem2 y).1))
theorem three_obj (kx : List ByteArray) (lx : List JV) (o y : Option JV) (way : List ByteArray) : (JV.obj kx lx).three o y way = threeQ o (some (.obj kx lx)) y (if sortO y = 6 then (some (.obj ((keyed (fun key => (threeF o (some (.obj kx lx)) y way key).1) (unionT o (some (.obj kx lx)) y)).map (·.1)) ((keyed (fun key => (threeF o (some (.obj kx lx)) y way key).1) (unionT o (some (.obj kx lx)) y)).map (·.2))), (unionT o (some (.obj kx lx)) y).flatMap fun key => (threeF o (some (.obj kx lx)) y way key).2) else (some (.obj kx lx), [printB way])) := by
 have hF : ∀ key, threeAt (atK (mem2 o).1 (mem2 o).2 key) (atK kx (lx.map fun x => (x, x.three)) key) (atK (mem2 y).1 (mem2 y).2 key) (way ++ [key]) = threeF o (some (.obj kx lx)) y way key := fun key => by
  unfold threeF
  rw [atK_map]
  show threeAt _ ((atK kx lx key).map _) _ _ = three _ (atK kx lx key) _ _
  cases atK kx lx key <;> rfl
 rw [JV.three]
 simp only [hF]
 rfl
section
variable {o x y : Option JV} {way : List ByteArray}
theorem three_form : three o x y way = threeQ o x y (if sortO x = 6 ∧ sortO y = 6 then (some (.obj ((keyed (fun key => (threeF o x y way key).1) (unionT o x y)).map (·.1)) ((keyed (fun key => (threeF o x y way key).1) (unionT o x y)).map (·.2))), (unionT o x y).flatMap fun key => (threeF o x y way key).2) else (x, [printB way])) := by
 cases x with
 | none => rw [if_neg (fun h => absurd h.1 (by decide))]; rfl
 | some p =>
  by_cases hs : p.sort = 6
  ·obtain ⟨kx, lx, rfl⟩ := JOk.obj_of hs
   show (JV.obj kx lx).three o y way = _
   rw [three_obj]
   by_cases hy : sortO y = 6
   ·rw [if_pos hy, if_pos ⟨rfl, hy⟩]
   rw [if_neg hy, if_neg (fun h => hy h.2)]
  show p.three o y way = _
  rw [three_whole p o y way hs, if_neg (fun h => hs h.1)]
theorem three_alike (h : x = y ∨ y = o) : three o x y way = (x, []) := by rw [three_form]; unfold threeQ; rw [if_pos h]
theorem three_other (h : ¬ (x = y ∨ y = o)) (h2 : x = o) : three o x y way = (y, []) := by rw [three_form]; unfold threeQ; rw [if_neg h, if_pos h2]
theorem three_clash (h : ¬ (x = y ∨ y = o)) (h2 : x ≠ o) (h3 : ¬ (sortO x = 6 ∧ sortO y = 6)) : three o x y way = (x, [printB way]) := by rw [three_form]; unfold threeQ; rw [if_neg h, if_neg h2, if_neg h3]
theorem three_both (h : ¬ (x = y ∨ y = o)) (h2 : x ≠ o) (h3 : sortO x = 6) (h4 : sortO y = 6) : three o x y way = (some (.obj ((keyed (fun key => (threeF o x y way key).1) (unionT o x y)).map (·.1)) ((keyed (fun key => (threeF o x y way key).1) (unionT o x y)).map (·.2))), (unionT o x y).flatMap fun key => (threeF o x y way key).2) := by rw [three_form]; unfold threeQ; rw [if_neg h, if_neg h2, if_pos ⟨h3, h4⟩]
theorem unionT_spec (ho : OOk o) (hx : OOk x) (hy : OOk y) : (unionT o x y).Pairwise ltS ∧ ∀ s, s ∈ unionT o x y ↔ s ∈ (mem2 o).1 ++ ((mem2 x).1 ++ (mem2 y).1) :=
 unionK_spec fun k hk => (List.mem_append.1 hk).elim ((mem2_ok ho).2.2.1 k) fun hk => (List.mem_append.1 hk).elim ((mem2_ok hx).2.2.1 k) ((mem2_ok hy).2.2.1 k)
theorem OOk.at {key : ByteArray} (h : OOk x) : OOk (atK (mem2 x).1 (mem2 x).2 key) := at_ok (mem2_ok h).2.1 (mem2_ok h).2.2.2
end
theorem opt_parts {P : Option JV → Prop} (h : ∀ x, OOk x → (sortO x = 6 → ∀ key, P (atK (mem2 x).1 (mem2 x).2 key)) → P x) : ∀ x, OOk x → P x := by
 have hn : P none := h none (fun x hx => by cases hx) fun h => absurd h (by decide)
 have hs : ∀ p, JOk p → P (some p) := by
  refine JV.by_parts fun p ih hp => h (some p) (fun x hx => by injection hx with hx; rw [← hx]; exact hp) fun hs key => ?_
  obtain ⟨ks, l, rfl⟩ := JOk.obj_of hs
  cases hk : atK ks l key with
  | none => show P (atK ks l key); rw [hk]; exact hn
  | some u =>
   show P (atK ks l key)
   rw [hk]
   have hm := (atK_some_mem hp.form.2.2.1 hk).2
   exact ih u hm (hp.form.2.2.2.2.2 u hm)
 intro x hx
 cases x with
 | none => exact hn
 | some p => exact hs p (hx p rfl)
theorem sortO_obj {x : Option JV} (h : sortO x = 6) : ∃ ks l, x = some (.obj ks l) := by
 cases x with
 | none => exact absurd h (by decide)
 | some p => obtain ⟨ks, l, rfl⟩ := JOk.obj_of h; exact ⟨ks, l, rfl⟩
theorem three_ok : ∀ x, OOk x → ∀ o y, OOk o → OOk y → ∀ way, OOk (three o x y way).1 := by
 refine opt_parts fun x hx ih o y ho hy way => ?_
 by_cases h1 : x = y ∨ y = o
 ·rw [three_alike h1]; exact hx
 by_cases h2 : x = o
 ·rw [three_other h1 h2]; exact hy
 by_cases h3 : sortO x = 6 ∧ sortO y = 6
 ·rw [three_both h1 h2 h3.1 h3.2]
  intro j hj
  injection hj with hj
  subst hj
  have hu := unionT_spec ho hx hy
  refine JOk.obj (by simp) (List.pairwise_map.2 (keyed_rising hu.1)) (fun k hk => ?_) fun z hz => ?_
  ·obtain ⟨q, hq, rfl⟩ := List.mem_map.1 hk
   exact (List.mem_append.1 ((hu.2 _).1 (keyed_mem.1 hq).1)).elim ((mem2_ok ho).2.2.1 _) fun h => (List.mem_append.1 h).elim ((mem2_ok hx).2.2.1 _) ((mem2_ok hy).2.2.1 _)
  obtain ⟨q, hq, rfl⟩ := List.mem_map.1 hz
  exact ih h3.1 q.1 _ _ ho.at hy.at _ _ (keyed_mem.1 hq).2
 rw [three_clash h1 h2 h3]; exact hx
theorem ow_one {o : Option JV} (h : o ≠ none) : 1 ≤ ow JV.nodes o := by
 cases o with
 | none => exact absurd rfl h
 | some j => show 1 ≤ j.nodes; rw [JV.nodes_eq]; omega
theorem ow_obj {f : JV → Nat} {c : Nat} {g : ByteArray → Nat} (hw : Weight f c g) {x : Option JV} (h : sortO x = 6) : ow f x = c + sumN ((mem2 x).1.map g) + sumN ((mem2 x).2.map f) := by
 obtain ⟨ks, l, rfl⟩ := sortO_obj h
 exact hw.obj ks l
theorem three_some {o x y : Option JV} {way : List ByteArray} (h : (three o x y way).1 ≠ none) : x ≠ none ∨ y ≠ none := by
 cases x with
 | some p => exact .inl fun h => by cases h
 | none =>
  cases y with
  | some p => exact .inr fun h => by cases h
  | none => rw [three_alike (.inl rfl)] at h; exact absurd rfl h
theorem three_weight {f : JV → Nat} {c : Nat} {g : ByteArray → Nat} (hw : Weight f c g) : ∀ x, OOk x → ∀ o y, OOk o → OOk y → ∀ way, ow f (three o x y way).1 ≤ ow f x + ow f y := by
 refine opt_parts fun x hx ih o y ho hy way => ?_
 by_cases h1 : x = y ∨ y = o
 ·rw [three_alike h1]; exact Nat.le_add_right _ _
 by_cases h2 : x = o
 ·rw [three_other h1 h2]; exact Nat.le_add_left _ _
 by_cases h3 : sortO x = 6 ∧ sortO y = 6
 ·rw [three_both h1 h2 h3.1 h3.2]
  show f _ ≤ _
  have hu := unionT_spec ho hx hy
  have hn := ltS_nodup hu.1
  obtain ⟨cs, hcs⟩ : ∃ cs, cs = unionT o x y := ⟨_, rfl⟩
  rw [← hcs] at hu hn ⊢
  rw [hw.obj, ow_obj hw h3.1, ow_obj hw h3.2]
  have h4 := sumN_keys g _ ((mem2 x).1 ++ (mem2 y).1) ((keyed_keys (fun key => (threeF o x y way key).1) cs).nodup hn) (fun s hm => by
   obtain ⟨q, hq, rfl⟩ := List.mem_map.1 hm
   have h5 := (keyed_mem.1 hq).2
   refine List.mem_append.2 ((three_some (o := atK (mem2 o).1 (mem2 o).2 q.1) (way := way ++ [q.1]) (by
    show (threeF o x y way q.1).1 ≠ none
    have h6 : (threeF o x y way q.1).1 = some q.2 := h5
    rw [h6]; exact fun h => by cases h)).imp (fun h => ?_) fun h => ?_)
   ·cases h6 : atK (mem2 x).1 (mem2 x).2 q.1 with
    | none => exact absurd h6 h
    | some u => exact (atK_some_mem (mem2_ok hx).2.1 h6).1
   cases h6 : atK (mem2 y).1 (mem2 y).2 q.1 with
   | none => exact absurd h6 h
   | some u => exact (atK_some_mem (mem2_ok hy).2.1 h6).1)
  rw [List.map_append, sumN_app] at h4
  have h5 := keyed_weight (f := f) (F := fun key => (threeF o x y way key).1) (a := fun key => ow f (atK (mem2 x).1 (mem2 x).2 key)) (b := fun key => ow f (atK (mem2 y).1 (mem2 y).2 key)) (fun key => ih h3.1 key _ _ ho.at hy.at _) cs
  have h6 := sumN_at f cs hn (mem2 x).1 (mem2 x).2
  have h7 := sumN_at f cs hn (mem2 y).1 (mem2 y).2
  have h8 : ((keyed (fun key => (threeF o x y way key).1) cs).map (·.2)).map f = (keyed (fun key => (threeF o x y way key).1) cs).map fun p => f p.2 := by rw [List.map_map]; rfl
  rw [h8]
  omega
 rw [three_clash h1 h2 h3]; exact Nat.le_add_right _ _
theorem flat_len {F : ByteArray → List ByteArray} {a b : ByteArray → Nat} (h : ∀ key, (F key).length ≤ a key + b key) : ∀ cs : List ByteArray, (cs.flatMap F).length ≤ sumN (cs.map a) + sumN (cs.map b)
 | [] => by simp [sumN]
 | c :: cs => by
  have h1 := flat_len h cs
  have h2 := h c
  rw [List.flatMap_cons, List.length_append]
  simp only [List.map_cons, sumN]
  omega
theorem three_few : ∀ x, OOk x → ∀ o y, OOk o → OOk y → ∀ way, (three o x y way).2.length ≤ ow JV.nodes x + ow JV.nodes y := by
 refine opt_parts fun x hx ih o y ho hy way => ?_
 by_cases h1 : x = y ∨ y = o
 ·rw [three_alike h1]; exact Nat.zero_le _
 by_cases h2 : x = o
 ·rw [three_other h1 h2]; exact Nat.zero_le _
 by_cases h3 : sortO x = 6 ∧ sortO y = 6
 ·rw [three_both h1 h2 h3.1 h3.2, ow_obj weight_nodes h3.1, ow_obj weight_nodes h3.2]
  have hn := ltS_nodup (unionT_spec ho hx hy).1
  have h5 := flat_len (F := fun key => (threeF o x y way key).2) (a := fun key => ow JV.nodes (atK (mem2 x).1 (mem2 x).2 key)) (b := fun key => ow JV.nodes (atK (mem2 y).1 (mem2 y).2 key)) (fun key => ih h3.1 key _ _ ho.at hy.at _) (unionT o x y)
  have h6 := sumN_at JV.nodes (unionT o x y) hn (mem2 x).1 (mem2 x).2
  have h7 := sumN_at JV.nodes (unionT o x y) hn (mem2 y).1 (mem2 y).2
  show ((unionT o x y).flatMap fun key => (threeF o x y way key).2).length ≤ _
  omega
 rw [three_clash h1 h2 h3]
 show 1 ≤ _
 cases x with
 | some p => have := ow_one (o := some p) (fun h => by cases h); omega
 | none =>
  have := ow_one (o := y) (fun h => h1 (.inl h.symm)); omega
theorem sumN_keyTake (f : ByteArray → Nat) {cs : List ByteArray} {i : Nat} {key : ByteArray} (h : cs[i]? = some key) : sumN ((cs.take (i + 1)).map f) = sumN ((cs.take i).map f) + f key := by
 rw [List.take_add_one, h, List.map_append, sumN_app]
 simp [sumN]
theorem three_room {o x y : Option JV} (ho : OOk o) (hx : OOk x) (hy : OOk y) (way : List ByteArray) {cs : List ByteArray} (hn : cs.Nodup) {i : Nat} {key : ByteArray} (hk : cs[i]? = some key) :
  ((cs.take i).flatMap fun k => (threeF o x y way k).2).length + ow JV.nodes (atK (mem2 x).1 (mem2 x).2 key) + ow JV.nodes (atK (mem2 y).1 (mem2 y).2 key) ≤ ow JV.nodes x + ow JV.nodes y := by
 have h5 := flat_len (F := fun key => (threeF o x y way key).2) (a := fun key => ow JV.nodes (atK (mem2 x).1 (mem2 x).2 key)) (b := fun key => ow JV.nodes (atK (mem2 y).1 (mem2 y).2 key)) (fun key => three_few _ hx.at _ _ ho.at hy.at _) (cs.take i)
 have hn' : (cs.take (i + 1)).Nodup := hn.sublist (List.take_sublist _ _)
 have h6 := sumN_at JV.nodes (cs.take (i + 1)) hn' (mem2 x).1 (mem2 x).2
 have h7 := sumN_at JV.nodes (cs.take (i + 1)) hn' (mem2 y).1 (mem2 y).2
 rw [sumN_keyTake _ hk] at h6 h7
 have h8 := ow_mem weight_nodes x
 have h9 := ow_mem weight_nodes y
 omega
theorem unionT_swap {o x y : Option JV} (ho : OOk o) (hx : OOk x) (hy : OOk y) : unionT o y x = unionT o x y := by
 have h := unionT_spec ho hx hy
 refine unionK_eq h.1 fun s => ?_
 rw [h.2 s]
 simp only [List.mem_append]
 exact or_congr_right Or.comm
theorem flat_nil {F : ByteArray → List ByteArray} {cs : List ByteArray} (h : cs.flatMap F = []) : ∀ k ∈ cs, F k = [] := by
 simpa using h
theorem keyed_congr {F G : ByteArray → Option JV} : ∀ {cs : List ByteArray}, (∀ k ∈ cs, F k = G k) → keyed F cs = keyed G cs
 | [], _ => rfl
 | c :: cs, h => by
  have ih := keyed_congr (F := F) (G := G) (cs := cs) fun k hk => h k (List.mem_cons_of_mem _ hk)
  unfold keyed at ih ⊢
  rw [List.filterMap_cons, List.filterMap_cons, ih, h c (List.mem_cons_self ..)]
theorem flat_congr {F G : ByteArray → List ByteArray} : ∀ {cs : List ByteArray}, (∀ k ∈ cs, F k = G k) → cs.flatMap F = cs.flatMap G
 | [], _ => rfl
 | c :: cs, h => by rw [List.flatMap_cons, List.flatMap_cons, h c (List.mem_cons_self ..), flat_congr fun k hk => h k (List.mem_cons_of_mem _ hk)]
theorem three_turned : ∀ x, OOk x → ∀ o y, OOk o → OOk y → ∀ way, (three o y x way).2 = (three o x y way).2 ∧ ((three o x y way).2 = [] → (three o y x way).1 = (three o x y way).1) := by
 refine opt_parts fun x hx ih o y ho hy way => ?_
 by_cases hxy : x = y
 ·subst hxy; exact ⟨rfl, fun _ => rfl⟩
 by_cases hyo : y = o
 ·rw [three_alike (.inr hyo)]
  by_cases hxo : x = o
  ·exact absurd (hxo.trans hyo.symm) hxy
  rw [three_other (fun h => h.elim (fun h => hxy h.symm) hxo) hyo]; exact ⟨rfl, fun _ => rfl⟩
 by_cases hxo : x = o
 ·rw [three_other (fun h => h.elim hxy hyo) hxo, three_alike (.inr hxo)]; exact ⟨rfl, fun _ => rfl⟩
 have h1 : ¬ (x = y ∨ y = o) := fun h => h.elim hxy hyo
 have h2 : ¬ (y = x ∨ x = o) := fun h => h.elim (fun h => hxy h.symm) hxo
 by_cases h3 : sortO x = 6 ∧ sortO y = 6
 ·rw [three_both h1 hxo h3.1 h3.2, three_both h2 hyo h3.2 h3.1, unionT_swap ho hx hy]
  have hk := fun key => ih h3.1 key (atK (mem2 o).1 (mem2 o).2 key) (atK (mem2 y).1 (mem2 y).2 key) ho.at hy.at (way ++ [key])
  refine ⟨flat_congr fun key _ => (hk key).1, fun h => ?_⟩
  have h4 := flat_nil h
  have h5 : keyed (fun key => (threeF o y x way key).1) (unionT o x y) = keyed (fun key => (threeF o x y way key).1) (unionT o x y) := keyed_congr fun key hkk => (hk key).2 (h4 key hkk)
  rw [h5]
 rw [three_clash h1 hxo h3, three_clash h2 hyo fun h => h3 ⟨h.2, h.1⟩]
 exact ⟨rfl, fun h => by cases h⟩
end Go.Json
namespace Go.Proofs.YtdmcioghdindfaaGreatDoor
open Go Go.RowKit Go.Aff Go.Json Go.Rng
attribute [local go_sem] Oper.semAt_some
structure TogIn (D : Nat → Prop) (m0 cc ct : Nat) (w : World) (A : Option Addr) (n c : Nat) (xs : List ByteArray) (vo vx vy : Value) (o x y : Option JV) (Wa : Option Addr) (wn : Nat) (way : List ByteArray) : Prop where
  st : CSt m0 w cc ct A n c xs
  off : ∀ i, D i → ¬ CF cc A n c i
  ao : OAtR D w vo o
  ax : OAtR D w vx x
  ay : OAtR D w vy y
  oo : OOk o
  ox : OOk x
  oy : OOk y
  row : Rd w Wa wn (way.map .string)
  rowOff : Out (CF cc A n c) Wa wn
  len : way.length = wn
  keys : KeysP way
  room : wn + ow JV.deep x ≤ 65536
  max : MaxAt w
  so : ∀ j, o = some j → j.nodes ≤ 65536 ∧ j.bytes ≤ 2097152
  sx : ∀ j, x = some j → j.nodes ≤ 65536 ∧ j.bytes ≤ 2097152
  sy : ∀ j, y = some j → j.nodes ≤ 65536 ∧ j.bytes ≤ 2097152
  few : xs.length + ow JV.nodes x + ow JV.nodes y ≤ 1073741824
  glob : 1 ≠ cc ∧ 1 < m0
def TogPost (D : Nat → Prop) (m0 cc ct : Nat) (w : World) (A : Option Addr) (n c : Nat) (xs : List ByteArray) (r : Option JV × List ByteArray) (e : Ending) (w' : World) : Prop :=
  ∃ t A' n' c', e = .returned t ∧ CSt m0 w' cc ct A' n' c' (xs ++ r.2) ∧ OTAt (TE D w cc A' n' c') w' t r.1 ∧ Keeps (CF cc A n c) w w' ∧ ∀ g, (Value.slice A' n' c').ownBlock = some g → (Value.slice A n c).ownBlock = some g ∨ w.heap.size ≤ g
section
variable {D : Nat → Prop} {m0 cc ct : Nat} {w : World} {A : Option Addr} {n c : Nat} {xs : List ByteArray} {vo vx vy : Value} {o x y : Option JV} {Wa : Option Addr} {wn wc0 : Nat} {way : List ByteArray}
theorem tog_same {r : Option JV × List ByteArray} {w' : World} {v : Value} (h : TogIn D m0 cc ct w A n c xs vo vx vy o x y Wa wn way) (k : Keeps (fun _ => False) w w') (hv : OAtR D w v r.1) (hr : r.2 = []) : TogPost D m0 cc ct w A n c xs r (.returned v) w' := by
  refine ⟨v, A, n, c, rfl, ?_, ?_, k.mono fun _ _ h => h.elim, fun g hg => .inl hg⟩
  · rw [hr, List.append_nil]; exact h.st.stay k
  exact ((hv.stay k).loose).mono fun i hi _ => ⟨.inl hi, h.off i hi⟩
theorem slimO {x : Option JV} (hx : OOk x) (hs : ∀ j, x = some j → j.nodes ≤ 65536 ∧ j.bytes ≤ 2097152) : ∀ j, x = some j → Slim j := fun j hj => slim_of j (hx j hj) (by have := hs j hj; omega)
theorem same_is {D : Nat → Prop} {w : World} {v v2 : Value} {o1 o2 : Option JV} (h : OAtR D w v o1) (h2 : OAtR D w v2 o2) (hs : ∀ x, o1 = some x → Slim x) (b : Bool) (hb : b = true ↔ o1 = o2) : Hid (∀ W, Keeps (fun _ => False) w W → Calls Tryz.prog 29 #[v, v2] W fun e w' => e = .returned (.bool b) ∧ Hid (Keeps (fun _ => False) w w')) := H_ fun W hW => by
  refine (msame_any W v v2 o1 o2 (h.stay hW) (h2.stay hW) hs).mono ?_
  rintro e w' ⟨b', he, hb', hk⟩
  have : b' = b := by
    cases b' <;> cases b <;> first | rfl | exact absurd (hb.1 rfl) fun e => by simpa using hb'.2 e | exact absurd (hb'.1 rfl) fun e => by simpa using hb.2 e
  subst this
  exact ⟨he, H_ (hW.trans hk fun _ _ h => h)⟩
theorem as_mobj {v : Value} {o : Option JV} (h : OAtR D w v o) : ∃ px bx, (∀ W, (Instr.typeAssert v 71 73 true).run Tryz.prog W = .ok (.tuple #[px, .bool bx]) W) ∧ (bx = true ↔ sortO o = 6) ∧ (bx = true → ∃ b, px = .pointer (some ⟨b, 0, none⟩) ∧ v = .iface 73 px) := by
  cases o with
  | none =>
    have hv : v = .nilIface := h
    subst hv
    exact ⟨.pointer none, false, fun W => by kernel_rfl, by simp [sortO], fun h => by cases h⟩
  | some j =>
    have h' : TAtR D w v j := h
    cases h' with
    | whole hj hs => exact ⟨.pointer none, false, as_whole_mobj _, ⟨fun h => (by cases h), fun h => absurd h hs⟩, fun h => (by cases h)⟩
    | obj hD hb hrf hk hok hr ho hl => exact ⟨_, true, as_mobj_mobj _, ⟨fun _ => rfl, fun _ => rfl⟩, fun _ => ⟨_, rfl, rfl⟩⟩
end
theorem tog_first {D : Nat → Prop} {m0 cc ct : Nat} {w : World} {A : Option Addr} {n c : Nat} {xs : List ByteArray} {vo vx vy : Value} {o x y : Option JV} {Wa : Option Addr} {wn : Nat} {way : List ByteArray} (h : TogIn D m0 cc ct w A n c xs vo vx vy o x y Wa wn way) (wc0 : Nat) (h1 : (x = y ∨ y = o) ∨ x = o) :
    Calls Tryz.prog 28 #[vo, vx, vy, .slice Wa wn wc0, .pointer (some ⟨cc, 0, none⟩), .pointer (some ⟨ct, 0, none⟩)] w (TogPost D m0 cc ct w A n c xs (three o x y way)) := by
  have HH := H_ h
  have tk : True := trivial
  have tm : True := trivial
  by_cases hxy : x = y
  · have HS := same_is h.ax h.ay (slimO h.ox h.sx) true (by simp [hxy])
    have HR := H_ (three_alike (way := way) (.inl hxy : x = y ∨ y = o))
    clear h h1 hxy
    go_enter Tryz.func28, Tryz.ntmps28
    go_wp2_with (go_at_call 29; have _t := tk; clear tk; refine (HS.out _ (Keeps.refl _ _)).mono ?_; rintro e w1 ⟨rfl, H1⟩)
    go_ret
    rw [HR.out]
    exact tog_same HH.out H1.out HH.out.ax rfl
  have HS := same_is h.ax h.ay (slimO h.ox h.sx) false (by simp [hxy])
  by_cases hyo : y = o
  · have HT := same_is h.ay h.ao (slimO h.oy h.sy) true (by simp [hyo])
    have HR := H_ (three_alike (way := way) (.inr hyo : x = y ∨ y = o))
    clear h h1 hxy hyo
    go_enter Tryz.func28, Tryz.ntmps28
    go_wp2_with (first
      | (go_at_call 29; have _t := tk; clear tk; refine (HS.out _ (Keeps.refl _ _)).mono ?_; rintro e w1 ⟨rfl, H1⟩)
      | (go_at_call 29; have _t := tm; clear tm; refine (HT.out _ H1.out).mono ?_; rintro e w2 ⟨rfl, H2⟩))
    go_ret
    rw [HR.out]
    exact tog_same HH.out H2.out HH.out.ax rfl
  have HT := same_is h.ay h.ao (slimO h.oy h.sy) false (by simp [hyo])
  have hxo : x = o := h1.resolve_left fun h => h.elim hxy hyo
  have HU := same_is h.ax h.ao (slimO h.ox h.sx) true (by simp [hxo])
  have HR := H_ (three_other (way := way) (fun h : x = y ∨ y = o => h.elim hxy hyo) hxo)
  clear h h1 hxy hyo hxo
  go_enter Tryz.func28, Tryz.ntmps28
  go_wp2_with (first
    | (go_at_call 29; have _t := tk; clear tk; refine (HS.out _ (Keeps.refl _ _)).mono ?_; rintro e w1 ⟨rfl, H1⟩)
    | (go_at_call 29; have _t := tm; clear tm; refine (HT.out _ H1.out).mono ?_; rintro e w2 ⟨rfl, H2⟩)
    | (go_at_call 29; refine (HU.out _ H2.out).mono ?_; rintro e w3 ⟨rfl, H3⟩))
  go_ret
  rw [HR.out]
  exact tog_same HH.out H3.out HH.out.ay rfl
theorem tog_clash {D : Nat → Prop} {m0 cc ct : Nat} {w : World} {A : Option Addr} {n c : Nat} {xs : List ByteArray} {vo vx vy : Value} {o x y : Option JV} {Wa : Option Addr} {wn : Nat} {way : List ByteArray} (h : TogIn D m0 cc ct w A n c xs vo vx vy o x y Wa wn way) (wc0 : Nat) (h1 : ¬ (x = y ∨ y = o)) (h2 : x ≠ o) (h3 : ¬ (sortO x = 6 ∧ sortO y = 6)) :
    Calls Tryz.prog 28 #[vo, vx, vy, .slice Wa wn wc0, .pointer (some ⟨cc, 0, none⟩), .pointer (some ⟨ct, 0, none⟩)] w (TogPost D m0 cc ct w A n c xs (three o x y way)) := by
  have HH := H_ h
  have tk : True := trivial
  have tm : True := trivial
  have HS := same_is h.ax h.ay (slimO h.ox h.sx) false ⟨fun e => (by cases e), fun e => absurd (.inl e) h1⟩
  have HT := same_is h.ay h.ao (slimO h.oy h.sy) false ⟨fun e => (by cases e), fun e => absurd (.inr e) h1⟩
  have HU := same_is h.ax h.ao (slimO h.ox h.sx) false ⟨fun e => (by cases e), fun e => absurd e h2⟩
  have HR := H_ (three_clash (way := way) h1 h2 h3)
  obtain ⟨px, bx, hax, hbx, _⟩ := as_mobj h.ax
  obtain ⟨py, by_, hay, hby, _⟩ := as_mobj h.ay
  have hbb : ¬ (bx = true ∧ by_ = true) := fun e => h3 ⟨hbx.1 e.1, hby.1 e.2⟩
  have hroom := h.room
  have HPR : Hid (∀ W, Keeps (fun _ => False) w W → Calls Tryz.prog 30 #[.slice Wa wn wc0] W fun e w' => e = .returned (.tuple #[.string (printB way), .nilIface]) ∧ Hid (Keeps (fun _ => False) w w')) := H_ fun W hW => by
    refine (print_any W Wa wn wc0 way HH.out.len (HH.out.row.keep hW fun _ _ _ h => h) (HH.out.max.stay hW) HH.out.keys (by omega)).mono ?_
    rintro e w' ⟨he, hk⟩
    exact ⟨he, H_ (hW.trans hk fun _ _ h => h)⟩
  have HN : Hid (n ≤ 1073741824) := H_ (by have := h.st.len; have := h.few; omega)
  obtain ⟨at_, hat⟩ : ∃ s, s = printB way := ⟨_, rfl⟩
  rw [← hat] at HPR HR
  clear h h1 h2 h3 hbx hby hroom hat
  rcases bx with _ | _ <;> rcases by_ with _ | _
  rotate_left 3
  · exact absurd ⟨rfl, rfl⟩ hbb
  all_goals
    (  clear hbb
       go_enter Tryz.func28, Tryz.ntmps28
       go_wp2_with (first
         | (go_at_call 29; have _t := tk; clear tk; refine (HS.out _ (Keeps.refl _ _)).mono ?_; rintro e w1 ⟨rfl, H1⟩)
         | (go_at_call 29; have _t := tm; clear tm; refine (HT.out _ H1.out).mono ?_; rintro e w2 ⟨rfl, H2⟩)
         | (go_at_call 29; refine (HU.out _ H2.out).mono ?_; rintro e w3 ⟨rfl, H3⟩)
         | (go_at_call 30; refine (HPR.out _ H3.out).mono ?_; rintro e w4 ⟨rfl, H4⟩; have c4 := (HH.out.st.stay H4.out).blk.cell 0)
         | ((with_reducible show wpList _ _ _ (⟨some 59, _, _, _, _, _⟩ :: _) _ _); refine wpList_append_S _ rfl (.tmp 56) (.tmp 58) 29 rfl 9 (.string .empty) 1 16 Tryz.underlying29 (by kernel_rfl) rfl (by decide) A n c (xs.map .string) rfl (HH.out.st.stay (H4.out.alloc (.cells #[.string at_] 9))).row.1 (some ⟨w4.heap.size, 0, none⟩) 1 1 [.string at_] rfl (RdS.blk (Blk.new w4 9 [.string at_]) rfl) (by intro u hu; rw [List.mem_singleton.1 hu]; rfl) (by have := HN.out; unfold maxLen; omega) (by have := HN.out; omega) ?_; intro A' c' w5 k1 k2 k3; have HZ := H_ ((HH.out.st.stay (H4.out.alloc (.cells #[.string at_] 9))).app k2 (by rw [List.map_append]; exact k1) k3); have hb5 := (Keeps.of_grown k2).blk (HH.out.st.stay (H4.out.alloc (.cells #[.string at_] 9))).blk (fun e => by have h1 := ((HH.out.st.stay (H4.out.alloc (.cells #[.string at_] 9))).own e).1; have h2 := HH.out.st.lo; omega); have c5 := hb5.cell 0; have f5 := hb5.frozen 0; clear k1 k2 k3 hb5))
       go_ret
       rw [HR.out]
       have hk4 := H4.out.alloc (.cells #[.string at_] 9)
       refine ⟨_, _, _, _, rfl, HZ.out.1, ?_, (hk4.mono fun _ _ h => h.elim).trans HZ.out.2.1 fun _ _ h => h, fun g hg => (HZ.out.2.2 g hg).imp id fun h => Nat.le_trans hk4.size h⟩
       refine ((((HH.out.ax.mono (C := fun i => D i ∧ i < w.heap.size) fun i h1 h2 => ⟨h1, h2⟩).stay hk4).loose).keep HZ.out.2.1 fun i hi => HH.out.off i hi.1).mono fun i hi _ => ⟨.inl hi.1, fun e => ?_⟩
       rcases e with e | e
       · exact HH.out.off i hi.1 (.inl e)
       rcases HZ.out.2.2 i e with e1 | e1
       · exact HH.out.off i hi.1 (.inr e1)
       have h1 := hi.2
       have h2 := hk4.size
       omega)
end Go.Proofs.YtdmcioghdindfaaGreatDoor
