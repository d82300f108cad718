/- Texts. -/
import Derived.Test.YtdmcioghdindfaaGreatDoorL36
set_option linter.unusedSimpArgs false
set_option maxRecDepth 100000
set_option maxHeartbeats 4000000
namespace Go.Proofs.YtdmcioghdindfaaGreatDoor
open Go Go.RowKit Go.Aff Go.Json Go.Rng
attribute [local go_sem] Oper.semAt_some
def KeysP (ks : List ByteArray) : Prop := ∀ s ∈ ks, rightS s = true ∧ s.size ≤ 2097152
theorem slim_of : ∀ (j : JV), JOk j → j.nodes ≤ 1048576 → Slim j := by
 refine JV.by_parts fun j ih hj hn => ?_
 have h3 := items_nodes j
 have h4 := hj.form.1
 refine .mk j (by omega) (by omega) fun x hx => ih x hx (hj.form.2.2.2.2.2 x hx) ?_
 have h5 := sumN_mem (List.mem_map.2 ⟨x, hx, rfl⟩ : x.nodes ∈ j.items.map fun x => x.nodes)
 rw [JV.nodes_eq] at hn
 omega
theorem keysP_of {j : JV} (h1 : j.bytes ≤ 2097152) (h2 : JOk j) : KeysP j.keys := fun s hs => ⟨h2.form.2.2.2.1 s hs, by
 have h3 := sumN_mem (List.mem_map.2 ⟨s, hs, rfl⟩ : s.size ∈ j.keys.map fun k => k.size)
 have h4 := own_eq j
 have h5 := JV.bytes_eq j
 omega⟩
end Go.Proofs.YtdmcioghdindfaaGreatDoor
namespace Go.Aff
open Go Go.RowKit
def backW (w : World) (m : Nat) : World := { w with heap := w.heap.extract 0 m }
theorem backW_size {w : World} {m : Nat} (h : m ≤ w.heap.size) : (backW w m).heap.size = m := by
 simp only [backW, Array.size_extract]; omega
theorem backW_keeps {w : World} {m : Nat} (h : m ≤ w.heap.size) : Keeps (fun _ => False) (backW w m) w :=
 ⟨rfl, rfl, rfl, by rw [backW_size h]; exact h, fun i hi _ => by
  rw [backW_size h] at hi
  simp only [backW, Array.getElem?_extract]
  rw [if_pos (by omega), Nat.zero_add]⟩
section
variable {F : Nat → Prop} {w wr w' : World} {e f : TypeId} {s t : Nat} {A B : Option Addr} {n c m d : Nat} {xs ys : List Value}
theorem MineS.rebase (h : MineS s w wr e A n c xs) (k : Keeps F wr w') (hF : ∀ g, (Value.slice A n c).ownBlock = some g → ¬ F g) : MineS s (backW w' w.heap.size) w' e A n c xs := by
 have hs : w.heap.size ≤ w'.heap.size := Nat.le_trans h.2.1.size k.size
 exact ⟨k.own h.1 hF, backW_keeps hs, fun g hg => by rw [backW_size hs]; exact h.2.2 g hg⟩
theorem BoxTwo.rebase {b : Nat} {T : TypeId} {cs : List Value} (h : BoxTwo w wr b T cs e s A n c xs f t B m d ys) (k : Keeps F wr w') (hb : ¬ F b) (hA : ∀ g, (Value.slice A n c).ownBlock = some g → ¬ F g) (hB : ∀ g, (Value.slice B m d).ownBlock = some g → ¬ F g) :
  BoxTwo (backW w' w.heap.size) w' b T cs e s A n c xs f t B m d ys := by
 have hs : w.heap.size ≤ w'.heap.size := Nat.le_trans h.hold.size k.size
 exact ⟨⟨h.two.a.rebase k hA, h.two.b.rebase k hB, h.two.ap⟩, k.blk h.blk hb, by rw [backW_size hs]; exact h.lo, h.na, h.nb⟩
end
end Go.Aff
namespace Go.Proofs.YtdmcioghdindfaaGreatDoor
open Go Go.RowKit Go.Aff Go.Json Go.Rng
theorem LaySt.rebase {E E' F : Nat → Prop} {w2 w4 wx w' : World} {p : Nat} {B : Option Addr} {d : Nat} {A : Option Addr} {c : Nat} {ms : List (ByteArray × JV)} {vals : List Value} (h : LaySt E w2 w4 wx p B d A c ms vals) (k : Keeps F wx w') (hp : ∀ g, (g = p ∨ (Value.slice B ms.length d).ownBlock = some g ∨ (Value.slice A ms.length c).ownBlock = some g) → ¬ F g) (hE : ∀ i, E i → ¬ F i) (hEE : ∀ i, E i → i < wx.heap.size → E' i) :
  LaySt E' (backW w' w2.heap.size) (backW w' w4.heap.size) w' p B d A c ms vals := by
 have hs4 : w4.heap.size ≤ w'.heap.size := Nat.le_trans h.2.2.2.size k.size
 have hml : (ms.map (·.1)).length = ms.length := List.length_map ..
 have hB : ∀ g, (Value.slice B (ms.map (·.1)).length d).ownBlock = some g → ¬ F g := fun g hg => hp g (.inr (.inl (by rw [← hml]; exact hg)))
 have hA : ∀ g, (Value.slice A (ms.map (·.1)).length c).ownBlock = some g → ¬ F g := fun g hg => hp g (.inr (.inr (by rw [← hml]; exact hg)))
 refine ⟨⟨h.1.two.rebase k (hp p (.inl rfl)) hB hA, fun q val x h1 h2 => ?_, h.1.len⟩, fun g hg => by rw [backW_size hs4]; exact h.2.1 g hg, fun g hg => by rw [backW_size hs4]; exact h.2.2.1 g hg, (backW_keeps hs4).mono fun _ _ h => h.elim⟩
 exact (((h.1.at_ q val x h1 h2).mono (C := fun i => Do_ E p (.slice B (ms.map (·.1)).length d) (.slice A (ms.map (·.1)).length c) i ∧ i < wx.heap.size) fun i h3 h4 => ⟨h3, h4⟩).keep k (fun i hi => hE i hi.1.1)).mono fun i hi _ => ⟨hEE i hi.1.1 hi.2, hi.1.2⟩
def CF (cc : Nat) (A : Option Addr) (n c : Nat) (i : Nat) : Prop := i = cc ∨ (Value.slice A n c).ownBlock = some i
structure CSt (m0 : Nat) (w : World) (cc ct : Nat) (A : Option Addr) (n c : Nat) (xs : List ByteArray) : Prop where
 blk : Blk w cc 29 [.slice A n c]
 fn : Blk w ct 69 [.func (.func 28) #[] #[.pointer (some ⟨cc, 0, none⟩), .pointer (some ⟨ct, 0, none⟩)]]
 row : MineS 1 (backW w m0) w 9 A n c (xs.map .string)
 lo : cc < m0 ∧ ct < m0 ∧ m0 ≤ w.heap.size
 ne : cc ≠ ct
section
variable {m0 : Nat} {w w' : World} {cc ct : Nat} {A : Option Addr} {n c : Nat} {xs : List ByteArray}
theorem CSt.own (h : CSt m0 w cc ct A n c xs) {g : Nat} (hg : (Value.slice A n c).ownBlock = some g) : m0 ≤ g ∧ g < w.heap.size := ⟨by have := h.row.2.2 g hg; rw [backW_size h.lo.2.2] at this; exact this, h.row.own_lt hg⟩
theorem CSt.len (h : CSt m0 w cc ct A n c xs) : xs.length = n := by have := h.row.len; rw [List.length_map] at this; omega
theorem CSt.keep {F : Nat → Prop} (h : CSt m0 w cc ct A n c xs) (k : Keeps F w w') (hc : ¬ F cc) (ht : ¬ F ct) (hF : ∀ g, (Value.slice A n c).ownBlock = some g → ¬ F g) : CSt m0 w' cc ct A n c xs := by
 have hr := h.row.rebase k hF
 rw [backW_size h.lo.2.2] at hr
 exact ⟨k.blk h.blk hc, k.blk h.fn ht, hr, ⟨h.lo.1, h.lo.2.1, Nat.le_trans h.lo.2.2 k.size⟩, h.ne⟩
theorem CSt.stay (h : CSt m0 w cc ct A n c xs) (k : Keeps (fun _ => False) w w') : CSt m0 w' cc ct A n c xs := h.keep k (fun h => h) (fun h => h) fun _ _ h => h
theorem CSt.off (h : CSt m0 w cc ct A n c xs) {i : Nat} (hi : w.heap.size ≤ i) : ¬ CF cc A n c i := fun e => by
 rcases e with e | e
 ·have := h.lo; omega
 have := (h.own e).2; omega
theorem CSt.read (h : CSt m0 w cc ct A n c xs) : Rd w A n (xs.map .string) := MineS.rd h.row
theorem CSt.app {w1 : World} {A' : Option Addr} {c' : Nat} {x : ByteArray} (h : CSt m0 w cc ct A n c xs) (hg : w.grownBy w1 (Value.slice A n c).ownBlock) (ho : w1.ownsRow 0 9 1 (.slice A' (n + 1) c') (n + 1) ((xs ++ [x]).map .string))
  (hb : (Value.slice A' (n + 1) c').ownBlock = (Value.slice A n c).ownBlock ∨ (Value.slice A' (n + 1) c').ownBlock = some w.heap.size) :
  CSt m0 (w1.setCell ⟨cc, 0, none⟩ (.slice A' (n + 1) c')) cc ct A' (n + 1) c' (xs ++ [x]) ∧ Keeps (CF cc A n c) w (w1.setCell ⟨cc, 0, none⟩ (.slice A' (n + 1) c')) ∧ ∀ g, (Value.slice A' (n + 1) c').ownBlock = some g → (Value.slice A n c).ownBlock = some g ∨ w.heap.size ≤ g := by
 have k1 : Keeps (fun i => (Value.slice A n c).ownBlock = some i) w w1 := Keeps.of_grown hg
 have hlo := h.lo
 have hcc : (Value.slice A n c).ownBlock ≠ some cc := fun e => by have := (h.own e).1; omega
 have hct : (Value.slice A n c).ownBlock ≠ some ct := fun e => by have := (h.own e).1; omega
 have k2 : Keeps (fun i => i = cc) w1 (w1.setCell ⟨cc, 0, none⟩ (.slice A' (n + 1) c')) := (Keeps.refl (fun i => i = cc) w1).setCell (p := ⟨cc, 0, none⟩) (.inl rfl) _
 have hnew : ∀ g, (Value.slice A' (n + 1) c').ownBlock = some g → (Value.slice A n c).ownBlock = some g ∨ w.heap.size ≤ g := fun g hg' => by
  rcases hb with e | e
  ·exact .inl (e.symm.trans hg')
  rw [e] at hg'; injection hg' with hg'; exact .inr (by omega)
 have hm : ∀ g, (Value.slice A' (n + 1) c').ownBlock = some g → m0 ≤ g := fun g hg' => (hnew g hg').elim (fun e => (h.own e).1) fun e => by omega
 have hsz : m0 ≤ (w1.setCell ⟨cc, 0, none⟩ (.slice A' (n + 1) c')).heap.size := Nat.le_trans hlo.2.2 (Nat.le_trans k1.size k2.size)
 refine ⟨⟨(k1.blk h.blk hcc).set_ 0 _, k2.blk (k1.blk h.fn hct) h.ne.symm, ⟨k2.own ho fun g hg' e => ?_, backW_keeps hsz, fun g hg' => by rw [backW_size hsz]; exact hm g hg'⟩, ⟨hlo.1, hlo.2.1, hsz⟩, h.ne⟩, (k1.mono fun i _ e => .inr e).trans k2 fun i _ e => .inl e, hnew⟩
 have := hm g hg'
 omega
end
def OTAt (D : Nat → Prop) (w : World) (v : Value) : Option JV → Prop
 | none => v = .nilIface
 | some j => TAt D w v j
theorem OTAt.keep {D F : Nat → Prop} {w w' : World} {v : Value} {o : Option JV} (h : OTAt D w v o) (k : Keeps F w w') (hF : ∀ i, D i → ¬ F i) : OTAt D w' v o := by
 cases o with
 | none => exact h
 | some j => exact TAt.keep h k hF
theorem OTAt.mono {D C : Nat → Prop} {w : World} {v : Value} {o : Option JV} (h : OTAt D w v o) (hC : ∀ i, D i → i < w.heap.size → C i) : OTAt C w v o := by
 cases o with
 | none => exact h
 | some j => exact TAt.mono h hC
theorem OAtR.loose {D : Nat → Prop} {w : World} {v : Value} {o : Option JV} (h : OAtR D w v o) : OTAt D w v o := by
 cases o with
 | none => exact h
 | some j => exact TAtR.loose h
theorem OAtR.keep {D F : Nat → Prop} {w w' : World} {v : Value} {o : Option JV} (h : OAtR D w v o) (k : Keeps F w w') (hF : ∀ i, D i → ¬ F i) : OAtR D w' v o := by
 cases o with
 | none => exact h
 | some j => exact TAtR.keep h k hF
def TE (D : Nat → Prop) (w : World) (cc : Nat) (A : Option Addr) (n c : Nat) (i : Nat) : Prop := (D i ∨ w.heap.size ≤ i) ∧ ¬ CF cc A n c i
structure TogSt (D : Nat → Prop) (m0 cc ct : Nat) (w w2 w4 wx : World) (p : Nat) (A0 : Option Addr) (n0 c0 : Nat) (B : Option Addr) (d : Nat) (A : Option Addr) (c : Nat) (ms : List (ByteArray × JV)) (vals : List Value) (A3 : Option Addr) (n3 c3 : Nat) (xs : List ByteArray) : Prop where
 lay : ∃ v2 v4 : World, v2.heap.size = w2.heap.size ∧ v4.heap.size = w4.heap.size ∧ LaySt (TE D w cc A3 n3 c3) v2 v4 wx p B d A c ms vals
 st : CSt m0 wx cc ct A3 n3 c3 xs
 apart : ∀ g, (g = p ∨ (Value.slice B ms.length d).ownBlock = some g ∨ (Value.slice A ms.length c).ownBlock = some g) → ¬ CF cc A3 n3 c3 g
 keep : Keeps (fun i => CF cc A0 n0 c0 i ∨ i = p ∨ w4.heap.size ≤ i) w4 wx
 new : ∀ g, (Value.slice A3 n3 c3).ownBlock = some g → (Value.slice A0 n0 c0).ownBlock = some g ∨ w4.heap.size ≤ g
 lo : m0 ≤ w2.heap.size ∧ m0 ≤ w4.heap.size ∧ w.heap.size ≤ w2.heap.size ∧ w.heap.size ≤ w4.heap.size
section
variable {D : Nat → Prop} {m0 cc ct : Nat} {w w2 w4 wx w' : World} {p : Nat} {A0 : Option Addr} {n0 c0 : Nat} {B : Option Addr} {d : Nat} {A : Option Addr} {c : Nat} {ms : List (ByteArray × JV)} {vals : List Value} {A3 : Option Addr} {n3 c3 : Nat} {xs : List ByteArray}
theorem TogSt.bounds (h : TogSt D m0 cc ct w w2 w4 wx p A0 n0 c0 B d A c ms vals A3 n3 c3 xs) : w2.heap.size ≤ p ∧ p < wx.heap.size ∧ w4.heap.size ≤ wx.heap.size ∧ (∀ g, (Value.slice B ms.length d).ownBlock = some g → w4.heap.size ≤ g ∧ g < wx.heap.size) ∧ ∀ g, (Value.slice A ms.length c).ownBlock = some g → w4.heap.size ≤ g ∧ g < wx.heap.size := by
 obtain ⟨v2, v4, e2, e4, hl⟩ := h.lay
 have hb := hl.below
 have hml : (ms.map (·.1)).length = ms.length := List.length_map ..
 refine ⟨by omega, hb.2, h.keep.size, fun g hg => ?_, fun g hg => ?_⟩
 ·rw [← hml] at hg
  exact ⟨by rw [← e4]; exact hl.2.1 g hg, hl.1.two.two.a.own_lt hg⟩
 rw [← hml] at hg
 exact ⟨by rw [← e4]; exact hl.2.2.1 g hg, hl.1.two.two.b.own_lt hg⟩
theorem TogSt.stay (h : TogSt D m0 cc ct w w2 w4 wx p A0 n0 c0 B d A c ms vals A3 n3 c3 xs) (k : Keeps (fun _ => False) wx w') : TogSt D m0 cc ct w w2 w4 w' p A0 n0 c0 B d A c ms vals A3 n3 c3 xs := by
 obtain ⟨v2, v4, e2, e4, hl⟩ := h.lay
 exact ⟨⟨v2, v4, e2, e4, hl.stay k⟩, h.st.stay k, h.apart, h.keep.trans k fun _ _ h => h.elim, h.new, h.lo⟩
theorem TogSt.told {A' : Option Addr} {n' c' : Nat} {ys : List ByteArray} (h : TogSt D m0 cc ct w w2 w4 wx p A0 n0 c0 B d A c ms vals A3 n3 c3 xs) (k : Keeps (CF cc A3 n3 c3) wx w') (hs : CSt m0 w' cc ct A' n' c' ys) (hn : ∀ g, (Value.slice A' n' c').ownBlock = some g → (Value.slice A3 n3 c3).ownBlock = some g ∨ wx.heap.size ≤ g) :
  TogSt D m0 cc ct w w2 w4 w' p A0 n0 c0 B d A c ms vals A' n' c' ys := by
 have hb := h.bounds
 obtain ⟨v2, v4, e2, e4, hl⟩ := h.lay
 have hlt := hl.1.two.hold.size
 have hs2 : v2.heap.size ≤ w'.heap.size := Nat.le_trans hlt k.size
 have hs4 : v4.heap.size ≤ w'.heap.size := by rw [e4]; exact Nat.le_trans hb.2.2.1 k.size
 have hcf : ∀ i, i < wx.heap.size → CF cc A' n' c' i → CF cc A3 n3 c3 i := fun i hi e => by
  rcases e with e | e
  ·exact .inl e
  rcases hn i e with e1 | e1
  ·exact .inr e1
  omega
 refine ⟨⟨_, _, by rw [backW_size hs2]; exact e2, by rw [backW_size hs4]; exact e4, hl.rebase k h.apart (fun i hi => hi.2) fun i hi hlt => ⟨hi.1, fun e => hi.2 (hcf i hlt e)⟩⟩, hs, fun g hg e => h.apart g hg (hcf g ?_ e), h.keep.trans k fun i hi e => ?_, fun g hg => ?_, h.lo⟩
 ·rcases hg with e1 | e1 | e1
  ·rw [e1]; exact hb.2.1
  ·exact (hb.2.2.2.1 g e1).2
  exact (hb.2.2.2.2 g e1).2
 ·rcases e with e | e
  ·exact .inl (.inl e)
  exact (h.new i e).imp (fun e => .inr e) fun e => .inr e
 rcases hn g hg with e | e
 ·exact h.new g e
 exact .inr (Nat.le_trans hb.2.2.1 e)
theorem TogSt.add (h : TogSt D m0 cc ct w w2 w4 wx p A0 n0 c0 B d A c ms vals A3 n3 c3 xs) (hn : ms.length ≤ 1048576) (key : ByteArray) (t : Value) (x : JV) {C : Nat → Prop} (ht : TAt C wx t x) (hC : ∀ i, C i → TE D w cc A3 n3 c3 i ∧ i ≠ p ∧ (Value.slice B ms.length d).ownBlock ≠ some i ∧ (Value.slice A ms.length c).ownBlock ≠ some i) :
  Calls Tryz.prog 35 #[.pointer (some ⟨p, 0, none⟩), .string key, t] wx fun e w' => e = .returned (.tuple #[]) ∧ ∃ B' d' A' c' vals', Hid (TogSt D m0 cc ct w w2 w4 w' p A0 n0 c0 B' d' A' c' (ms ++ [(key, x)]) vals' A3 n3 c3 xs) := by
 have hb := h.bounds
 obtain ⟨v2, v4, e2, e4, hl⟩ := h.lay
 have hml : (ms.map (·.1)).length = ms.length := List.length_map ..
 refine (add_any v2 wx p .nilIface B d A c _ _ _ hl.1 (by rw [hml]; exact hn) key t x (ht.mono fun q hq _ => ?_)).mono ?_
 ·obtain ⟨g1, g2, g3, g4⟩ := hC q hq
  refine ⟨g1, g2, ?_, ?_⟩
  ·rw [hml]; exact g3
  rw [hml]; exact g4
 rintro e w' ⟨he, ⟨B', d', A', c', vals', ho, hB, hA⟩, hk⟩
 have hm : ms.map (·.1) ++ [key] = (ms ++ [(key, x)]).map (·.1) := by rw [List.map_append]; rfl
 have hm2 : ms.map (·.2) ++ [x] = (ms ++ [(key, x)]).map (·.2) := by rw [List.map_append]; rfl
 rw [hm] at hB hA
 rw [hm, hm2] at ho
 rw [hml] at hB hA hk
 have hml' : ((ms ++ [(key, x)]).map (·.1)).length = (ms ++ [(key, x)]).length := List.length_map ..
 have hw4 : v4.heap.size ≤ wx.heap.size := by rw [e4]; exact hb.2.2.1
 have hnB : ∀ g, (Value.slice B' ((ms ++ [(key, x)]).map (·.1)).length d').ownBlock = some g → v4.heap.size ≤ g ∧ ¬ CF cc A3 n3 c3 g := fun g e => by
  rcases hB g e with (e1 | e1 | e1) | e1
  ·exact absurd (e1 ▸ e) ho.two.na
  ·exact ⟨by rw [e4]; exact (hb.2.2.2.1 g e1).1, h.apart g (.inr (.inl e1))⟩
  ·exact ⟨by rw [e4]; exact (hb.2.2.2.2 g e1).1, h.apart g (.inr (.inr e1))⟩
  exact ⟨by omega, h.st.off e1⟩
 have hnA : ∀ g, (Value.slice A' ((ms ++ [(key, x)]).map (·.1)).length c').ownBlock = some g → v4.heap.size ≤ g ∧ ¬ CF cc A3 n3 c3 g := fun g e => by
  rcases hA g e with (e1 | e1 | e1) | e1
  ·exact absurd (e1 ▸ e) ho.two.nb
  ·exact ⟨by rw [e4]; exact (hb.2.2.2.1 g e1).1, h.apart g (.inr (.inl e1))⟩
  ·exact ⟨by rw [e4]; exact (hb.2.2.2.2 g e1).1, h.apart g (.inr (.inr e1))⟩
  exact ⟨by omega, h.st.off e1⟩
 refine ⟨he, B', d', A', c', vals', H_ ⟨⟨v2, v4, e2, e4, ho, fun g e => (hnB g e).1, fun g e => (hnA g e).1, ?_⟩, ?_, fun g hg => ?_, h.keep.trans hk fun i hi e1 => ?_, h.new, h.lo⟩⟩
 ·refine hl.2.2.2.trans hk fun i _ e1 => ?_
  rcases e1 with e1 | e1 | e1
  ·exact .inl e1
  ·exact .inr (by rw [e4]; exact (hb.2.2.2.1 i e1).1)
  exact .inr (by rw [e4]; exact (hb.2.2.2.2 i e1).1)
 ·refine h.st.keep hk (fun e => h.apart cc e (.inl rfl)) (fun e => ?_) fun g hg e => h.apart g e (.inr hg)
  have hlo := h.st.lo
  have h3 := h.lo
  rcases e with e | e | e
  ·omega
  ·have := (hb.2.2.2.1 ct e).1; omega
  have := (hb.2.2.2.2 ct e).1; omega
 ·rcases hg with e1 | e1 | e1
  ·exact h.apart g (.inl e1)
  ·rw [← hml'] at e1; exact (hnB g e1).2
  rw [← hml'] at e1; exact (hnA g e1).2
 rcases e1 with e1 | e1 | e1
 ·exact .inr (.inl e1)
 ·exact .inr (.inr (hb.2.2.2.1 i e1).1)
 exact .inr (.inr (hb.2.2.2.2 i e1).1)
theorem TogSt.start (hlo : m0 ≤ w2.heap.size ∧ m0 ≤ w4.heap.size ∧ w.heap.size ≤ w2.heap.size ∧ w.heap.size ≤ w4.heap.size) (h : LaySt (TE D w cc A0 n0 c0) w2 w4 w4 p none 0 none 0 [] []) (hs : CSt m0 w4 cc ct A0 n0 c0 xs) (hp : ¬ CF cc A0 n0 c0 p) : TogSt D m0 cc ct w w2 w4 w4 p A0 n0 c0 none 0 none 0 [] [] A0 n0 c0 xs :=
 ⟨⟨w2, w4, rfl, rfl, h⟩, hs, fun g hg => by
  rcases hg with e | e | e
  ·rw [e]; exact hp
  ·simp [Value.ownBlock] at e
  simp [Value.ownBlock] at e, Keeps.refl _ _, fun g hg => .inl hg, hlo⟩
theorem TogSt.thing (h : TogSt D m0 cc ct w w2 w4 wx p A0 n0 c0 B d A c ms vals A3 n3 c3 xs) : TAt (TE D w cc A3 n3 c3) wx (.iface 73 (.pointer (some ⟨p, 0, none⟩))) (.obj (ms.map (·.1)) (ms.map (·.2))) := by
 have hb := h.bounds
 have hlo := h.lo
 obtain ⟨v2, v4, e2, e4, hl⟩ := h.lay
 have hml : (ms.map (·.1)).length = ms.length := List.length_map ..
 have hbk := hl.1.two.blk
 have hA := hl.1.two.two.b
 have hln := hl.1.len
 have hBo : InB (TE D w cc A3 n3 c3) B (ms.map (·.1)).length := fun _ a e => by
  subst e
  exact ⟨.inr (by have := (hb.2.2.2.1 a.block rfl).1; omega), h.apart a.block (.inr (.inl rfl))⟩
 have hAo : InB (TE D w cc A3 n3 c3) A (ms.map (·.2)).length := fun _ a e => by
  subst e
  exact ⟨.inr (by have := (hb.2.2.2.2 a.block rfl).1; omega), h.apart a.block (.inr (.inr rfl))⟩
 rw [← hln] at hbk hA
 refine TAt.obj (b := p) (A := A) (B := B) (c := c) (d := d) (vs := vals) ⟨.inr (by omega), h.apart p (.inl rfl)⟩ (by rw [← hln]; exact hbk) (.inl rfl) (MineS.rd hl.1.two.two.a) hBo (MineS.rd hA) hAo fun q val x h1 h2 => (hl.1.at_ q val x h1 h2).mono fun i hi _ => hi.1
end
end Go.Proofs.YtdmcioghdindfaaGreatDoor
