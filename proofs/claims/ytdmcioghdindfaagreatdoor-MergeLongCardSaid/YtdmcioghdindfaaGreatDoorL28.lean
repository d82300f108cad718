/- Texts. -/
import Derived.Test.YtdmcioghdindfaaGreatDoorL27
set_option linter.unusedSimpArgs false
set_option maxRecDepth 100000
set_option maxHeartbeats 4000000
namespace Go.Proofs.YtdmcioghdindfaaGreatDoor
open Go Go.RowKit Go.Aff Go.Json Go.Rng
def Do_ (D : Nat → Prop) (b : Nat) (B A : Value) (k : Nat) : Prop := D k ∧ k ≠ b ∧ B.ownBlock ≠ some k ∧ A.ownBlock ≠ some k
structure ObS (D : Nat → Prop) (w0 w : World) (b : Nat) (rf : Value) (B : Option Addr) (d : Nat) (A : Option Addr) (c : Nat) (ks : List ByteArray) (vals : List Value) (js : List JV) : Prop where
 two : BoxTwo w0 w b 84 [rf, .slice B ks.length d, .slice A ks.length c] 9 1 B ks.length d (ks.map .string) 71 1 A ks.length c vals
 at_ : ∀ (q : Nat) (val : Value) (x : JV), vals[q]? = some val → js[q]? = some x → TAt (Do_ D b (.slice B ks.length d) (.slice A ks.length c)) w val x
 len : js.length = ks.length
section
variable {D : Nat → Prop} {w0 w w' : World} {b : Nat} {rf : Value} {B : Option Addr} {d : Nat} {A : Option Addr} {c : Nat} {ks : List ByteArray} {vals : List Value} {js : List JV}
theorem ObS.stay (h : ObS D w0 w b rf B d A c ks vals js) (k : Keeps (fun _ => False) w w') : ObS D w0 w' b rf B d A c ks vals js := ⟨h.two.keep k, fun q val x h1 h2 => (h.at_ q val x h1 h2).stay k, h.len⟩
theorem ObS.start (D : Nat → Prop) (w : World) : ObS D w (w.alloc (.cells #[.nilIface, .slice none 0 0, .slice none 0 0] 84)) w.heap.size .nilIface none 0 none 0 [] [] [] :=
 ⟨BoxTwo.start w 84 9 71 1 1 (Keeps.refl _ w) [.nilIface, .slice none 0 0, .slice none 0 0], fun q val x h => by simp at h, rfl⟩
theorem ObS.keep (h : ObS D w0 w b rf B d A c ks vals js) : Keeps (fun _ => False) w0 w := h.two.hold
theorem ObS.thing (h : ObS D w0 w b .nilIface B d A c ks vals js) (hD : ∀ i, w0.heap.size ≤ i → D i) : TAt D w (.iface 73 (.pointer (some ⟨b, 0, none⟩))) (.obj ks js) := by
 have hb := h.two.blk
 have hA := h.two.two.b
 rw [← h.len] at hb hA
 refine TAt.obj (b := b) (A := A) (B := B) (c := c) (d := d) (vs := vals) (hD _ h.two.lo) (by rw [← h.len]; exact hb) (.inl rfl) (MineS.rd h.two.two.a) ((MineS.inB h.two.two.a).mono hD) (MineS.rd hA) ((MineS.inB hA).mono hD) fun q val x h1 h2 => (h.at_ q val x h1 h2).mono fun i hi _ => hi.1
end
def AddPost (D : Nat → Prop) (w0 w : World) (b : Nat) (rf : Value) (F : Nat → Prop) (ks : List ByteArray) (js : List JV) (e : Ending) (w' : World) : Prop :=
 e = .returned (.tuple #[]) ∧ (∃ B d A c vals, ObS D w0 w' b rf B d A c ks vals js ∧ (∀ g, (Value.slice B ks.length d).ownBlock = some g → F g ∨ w.heap.size ≤ g) ∧ (∀ g, (Value.slice A ks.length c).ownBlock = some g → F g ∨ w.heap.size ≤ g)) ∧ Keeps F w w'
theorem add_end {D : Nat → Prop} {w0 w w15 : World} {b n : Nat} {rf : Value} {B : Option Addr} {d : Nat} {A : Option Addr} {c : Nat} {ks : List ByteArray} {vals : List Value} {js : List JV} (h : ObS D w0 w b rf B d A c ks vals js) (hn : n = ks.length)
  {ky : ByteArray} {t : Value} {x : JV} (ht : TAt (Do_ D b (.slice B ks.length d) (.slice A ks.length c)) w t x) (hS : Keeps (fun i => (Value.slice B n d).ownBlock = some i ∨ (Value.slice A n c).ownBlock = some i) w w15) {B8 : Option Addr} {d8 : Nat} {A15 : Option Addr} {c15 : Nat}
  (hT : BoxTwo w0 w15 b 84 [rf, .slice B n d, .slice A n c] 9 1 B8 (n + 1) d8 (ks.map .string ++ [.string ky]) 71 1 A15 (n + 1) c15 (vals ++ [t]))
  (hB : ∀ g, (Value.slice B8 (n + 1) d8).ownBlock = some g → (Value.slice B n d).ownBlock = some g ∨ w.heap.size ≤ g) (hA : ∀ g, (Value.slice A15 (n + 1) c15).ownBlock = some g → (Value.slice A n c).ownBlock = some g ∨ w.heap.size ≤ g) :
  AddPost D w0 w b rf (fun i => i = b ∨ (Value.slice B n d).ownBlock = some i ∨ (Value.slice A n c).ownBlock = some i) (ks ++ [ky]) (js ++ [x]) (.returned (.tuple #[])) ((w15.setCell ⟨b, 1, none⟩ (.slice B8 (n + 1) d8)).setCell ⟨b, 2, none⟩ (.slice A15 (n + 1) c15)) := by
 subst hn
 have hT22 := (hT.set 1 (.slice B8 (ks.length + 1) d8)).set 2 (.slice A15 (ks.length + 1) c15)
 have kset : Keeps (fun i => i = b) w15 ((w15.setCell ⟨b, 1, none⟩ (.slice B8 (ks.length + 1) d8)).setCell ⟨b, 2, none⟩ (.slice A15 (ks.length + 1) c15)) :=
  ((Keeps.refl (fun i => i = b) w15).setCell (p := ⟨b, 1, none⟩) (.inl rfl) _).setCell (p := ⟨b, 2, none⟩) (.inl rfl) _
 have kF : Keeps (fun i => i = b ∨ (Value.slice B ks.length d).ownBlock = some i ∨ (Value.slice A ks.length c).ownBlock = some i) w ((w15.setCell ⟨b, 1, none⟩ (.slice B8 (ks.length + 1) d8)).setCell ⟨b, 2, none⟩ (.slice A15 (ks.length + 1) c15)) := (hS.mono (fun _ _ h => .inr h)).trans kset (fun _ _ e => .inl e)
 have hpl : (ks ++ [ky]).length = ks.length + 1 := by rw [List.length_append]; rfl
 have hvl : vals.length = ks.length := by have := h.two.two.b.1.1; simpa using this
 have hmove : ∀ val y, TAt (Do_ D b (.slice B ks.length d) (.slice A ks.length c)) w val y → TAt (Do_ D b (.slice B8 (ks.length + 1) d8) (.slice A15 (ks.length + 1) c15)) ((w15.setCell ⟨b, 1, none⟩ (.slice B8 (ks.length + 1) d8)).setCell ⟨b, 2, none⟩ (.slice A15 (ks.length + 1) c15)) val y := fun val y h4 => by
  refine ((h4.mono (C := fun k => Do_ D b (.slice B ks.length d) (.slice A ks.length c) k ∧ k < w.heap.size) fun k h5 h6 => ⟨h5, h6⟩).keep kF (fun k hk e => ?_)).mono fun k hk _ => ⟨hk.1.1, hk.1.2.1, fun e => ?_, fun e => ?_⟩
  ·rcases e with e | e | e
   ·exact hk.1.2.1 e
   ·exact hk.1.2.2.1 e
   exact hk.1.2.2.2 e
  ·rcases hB k e with h5 | h5
   ·exact hk.1.2.2.1 h5
   have := hk.2; omega
  rcases hA k e with h5 | h5
  ·exact hk.1.2.2.2 h5
  have := hk.2; omega
 refine ⟨rfl, ⟨B8, d8, A15, c15, vals ++ [t], ⟨?_, fun q val y h1 h2 => ?_, by rw [List.length_append, h.len, hpl]; rfl⟩, fun g e => ?_, fun g e => ?_⟩, kF⟩
 ·rw [hpl, List.map_append]
  exact hT22
 ·rw [hpl]
  refine hmove val y ?_
  rcases Nat.lt_or_ge q ks.length with hq | hq
  ·rw [List.getElem?_append_left (by omega)] at h1
   rw [List.getElem?_append_left (by rw [h.len]; exact hq)] at h2
   exact h.at_ q val y h1 h2
  ·have hq2 : q = ks.length := by
    have := (List.getElem?_eq_some_iff.1 h1).1
    rw [List.length_append, hvl] at this
    simp at this
    omega
   subst hq2
   rw [List.getElem?_append_right (by omega), show ks.length - vals.length = 0 by omega] at h1
   rw [List.getElem?_append_right (by rw [h.len]; exact Nat.le_refl _), show ks.length - js.length = 0 by rw [h.len]; omega] at h2
   simp at h1 h2
   subst h1 h2
   exact ht
 ·rw [hpl] at e
  exact (hB g e).imp (fun h1 => .inr (.inl h1)) id
 rw [hpl] at e
 exact (hA g e).imp (fun h1 => .inr (.inr h1)) id
theorem add_any {D : Nat → Prop} (w0 w : World) (b : Nat) (rf : Value) (B : Option Addr) (d : Nat) (A : Option Addr) (c : Nat) (ks : List ByteArray) (vals : List Value) (js : List JV) (h : ObS D w0 w b rf B d A c ks vals js) (hn : ks.length ≤ 1048576)
  (ky : ByteArray) (t : Value) (x : JV) (ht : TAt (Do_ D b (.slice B ks.length d) (.slice A ks.length c)) w t x) :
  Calls Tryz.prog 35 #[.pointer (some ⟨b, 0, none⟩), .string ky, t] w (AddPost D w0 w b rf (fun i => i = b ∨ (Value.slice B ks.length d).ownBlock = some i ∨ (Value.slice A ks.length c).ownBlock = some i) (ks ++ [ky]) (js ++ [x])) := by
 obtain ⟨T, y, hty⟩ := ht.iface
 subst hty
 obtain ⟨n, hnn⟩ : ∃ n, n = ks.length := ⟨_, rfl⟩
 have hh := h
 have hnr : ∀ p T' cs, Blk w p T' cs → 9 ≠ T' → 71 ≠ T' → ¬ ((Value.slice B n d).ownBlock = some p ∨ (Value.slice A n c).ownBlock = some p) := fun p T' cs hb h1 h2 e => by
  rcases e with e | e
  ·exact own_blk hh.two.two.a.1 hb h1 (by rw [← hnn]; exact e)
  exact own_blk hh.two.two.b.1 hb h2 (by rw [← hnn]; exact e)
 have HCE : Hid (∀ V, Keeps (fun i => (Value.slice B n d).ownBlock = some i ∨ (Value.slice A n c).ownBlock = some i) w V → V.cell? ⟨b, 1, none⟩ = some (.slice B n d) ∧ V.cell? ⟨b, 2, none⟩ = some (.slice A n c)) := H_ fun V hV => by
  have h1 := hV.blk hh.two.blk (hnr _ _ _ hh.two.blk (by decide) (by decide))
  rw [← hnn] at h1
  exact ⟨h1.cell 1, h1.cell 2⟩
 have HT0 : Hid (BoxTwo w0 w b 84 [rf, .slice B n d, .slice A n c] 9 1 B n d (ks.map .string) 71 1 A n c vals) := H_ (by rw [hnn]; exact hh.two)
 have HH := H_ h
 have HT := H_ ht
 have HN := H_ hnn
 rw [← hnn] at hn ⊢
 clear h ht hh hnr hnn
 go_enter Tryz.func35, Tryz.ntmps35
 refine wp_region_tail (S := (fun V => Keeps (fun i => (Value.slice B n d).ownBlock = some i ∨ (Value.slice A n c).ownBlock = some i) w V)) 16 (by kernel_rfl) (Keeps.refl _ _).drew (fun h_ => ?_)
 refine tJ 0 6 ?_
 try simp only [pu]
 refine tJ 1 7 ?_
 try simp only [pu]
 refine tJ 2 8 ?_
 try simp only [pu]
 refine tJ 3 9 ?_
 try simp only [pu]
 refine tJ 4 10 ?_
 try simp only [pu]
 refine tT [5] (i := 5) (oi := ⟨some 11, _, _, _, _, _⟩) (v := ?_) rfl (Or.inl ⟨by rfl, ?_⟩) h_ ?_
 rotate_left
 ·intro w' hSw
  have cv := (HCE.out _ hSw).1
  go_simp
  first | done | rfl
 try simp only [pu]
 refine tJ 6 12 ?_
 try simp only [pu]
 refine tJ 9 15 ?_
 try simp only [pu]
 refine tJ 10 16 ?_
 try simp only [pu]
 refine tJ 11 17 ?_
 try simp only [pu]
 refine tT [12] (i := 12) (oi := ⟨some 18, _, _, _, _, _⟩) (v := ?_) rfl (Or.inl ⟨by rfl, ?_⟩) h_ ?_
 rotate_left
 ·intro w' hSw
  have cv := (HCE.out _ hSw).2
  go_simp
  first | done | rfl
 try simp only [pu]
 refine tJ 13 19 ?_
 try simp only [pu]
 refine wpAnyT_two (i := 7) (j := 14) (oi := ⟨some 13, _, _, _, _, _⟩) (oj := ⟨some 20, _, _, _, _, _⟩) (by kernel_rfl) rfl rfl (fun K hK => ?_) (fun K hK => ?_)
 ·go_simp
  refine gen_KA (fun V => Keeps (fun _ => False) w.drew V ∧ Blk V w.drew.heap.size 9 [.string ky]) ⟨(Keeps.refl _ _).alloc _, Blk.new _ _ _⟩ ?_
  rintro v7 ⟨k7, b7⟩
  have h7 := h_.trans k7 (fun _ _ h => h.elim)
  refine hK.out _ _ h7 (fun h_ => ?_)
  clear hK K
  try simp only [pu]
  refine wpAnyT_two (i := 8) (j := 14) (oi := ⟨some 14, _, _, _, _, _⟩) (oj := ⟨some 20, _, _, _, _, _⟩) (by kernel_rfl) rfl rfl (fun K hK => ?_) (fun K hK => ?_)
  ·refine step_append_own rfl (.tmp 11) (.tmp 13) 29 rfl 9 (.string .empty) 1 16 Tryz.underlying29 (by kernel_rfl) rfl (by decide) B n d _ rfl (HT0.out.keep (((Keeps.refl (fun _ => False) w).drew).trans k7 (fun _ _ h => h))).two.a.1 ⟨w.drew.heap.size, 0, none⟩ 1 1 [.string ky] rfl rfl (fun j u hu => by rw [add_at, Nat.zero_add, b7.cell]; exact hu) (by intro u hu; rw [List.mem_singleton.1 hu]; rfl) (by simp only [maxLen]; omega) (by omega) ?_
   intro B8 d8 v7_8 ho8 hg8 hb8
   have HT8 := H_ ((HT0.out.keep (((Keeps.refl (fun _ => False) w).drew).trans k7 (fun _ _ h => h))).app ho8 hg8 hb8)
   have hB8 : ∀ g, (Value.slice B8 (n + 1) d8).ownBlock = some g → (Value.slice B n d).ownBlock = some g ∨ w.heap.size ≤ g := fun g e => hb8.elim (fun h1 => .inl (h1 ▸ e)) (fun h1 => .inr (by rw [h1] at e; injection e with e; rw [← e]; exact h_.size))
   have hS8 := h_.grown hg8 (fun g e => .inl (.inl e))
   refine hK.out _ _ hS8 (fun h_ => ?_)
   clear hK K
   try simp only [pu]
   refine wpAnyT_step (i := 14) (o := ⟨some 20, _, _, _, _, _⟩) (by kernel_rfl) rfl (fun K hK => ?_)
   go_simp
   refine gen_KA (fun V => Keeps (fun _ => False) v7_8 V ∧ Blk V v7_8.heap.size 71 [.iface T y]) ⟨(Keeps.refl _ _).alloc _, Blk.new _ _ _⟩ ?_
   rintro v7_8_14 ⟨k7_8_14, b14⟩
   have h7_8_14 := h_.trans k7_8_14 (fun _ _ h => h.elim)
   refine hK.out _ _ h7_8_14 (fun h_ => ?_)
   clear hK K
   try simp only [pu]
   refine wpAnyT_step (i := 15) (o := ⟨some 21, _, _, _, _, _⟩) (by kernel_rfl) rfl (fun K hK => ?_)
   refine step_append_own rfl (.tmp 18) (.tmp 20) 82 rfl 71 .nilIface 1 16 Tryz.underlying82 infoThing rfl (by decide) A n c _ rfl (HT8.out.swap.keep ((Keeps.refl (fun _ => False) _).trans k7_8_14 (fun _ _ h => h))).two.a.1 ⟨v7_8.heap.size, 0, none⟩ 1 1 [.iface T y] rfl rfl (fun j u hu => by rw [add_at, Nat.zero_add, b14.cell]; exact hu) (by intro u hu; rw [List.mem_singleton.1 hu]; rfl) (by simp only [maxLen]; omega) (by omega) ?_
   intro A15 c15 v15 ho15 hg15 hb15
   have HT15 := H_ (((HT8.out.swap.keep ((Keeps.refl (fun _ => False) _).trans k7_8_14 (fun _ _ h => h))).app ho15 hg15 hb15).swap)
   have hA15 : ∀ g, (Value.slice A15 (n + 1) c15).ownBlock = some g → (Value.slice A n c).ownBlock = some g ∨ w.heap.size ≤ g := fun g e => hb15.elim (fun h1 => .inl (h1 ▸ e)) (fun h1 => .inr (by rw [h1] at e; injection e with e; rw [← e]; exact h_.size))
   have hS15 := h_.grown hg15 (fun g e => .inl (.inr e))
   refine hK.out _ _ hS15 (fun h_ => ?_)
   clear hK K
   try simp only [pu]
   refine wpAnyT_tail (i := 16) (o := ⟨some 22, _, _, _, _, _⟩) (by kernel_rfl) (by kernel_rfl) rfl (fun K hK => ?_)
   go_simp
   refine hK.out _ _ ?_
   clear hK K
   try simp only [pu]
   refine wpAnyT_tail (i := 17) (o := ⟨some 23, _, _, _, _, _⟩) (by kernel_rfl) (by kernel_rfl) rfl (fun K hK => ?_)
   go_simp
   refine hK.out _ _ ?_
   clear hK K
   try simp only [pu]
   refine wpAnyT_tail (i := 18) (o := ⟨none, _, _, _, _, _⟩) (by kernel_rfl) (by kernel_rfl) rfl (fun K hK => ?_)
   have cv1 := HT15.out.blk.cell 1
   have fz1 := HT15.out.blk.frozen 1
   go_simp
   have HT19 := H_ (HT15.out.set 1 (.slice B8 (n + 1) d8))
   refine hK.out _ _ ?_
   clear hK K
   try simp only [pu]
   refine wpAnyT_tail (i := 19) (o := ⟨some 24, _, _, _, _, _⟩) (by kernel_rfl) (by kernel_rfl) rfl (fun K hK => ?_)
   go_simp
   refine hK.out _ _ ?_
   clear hK K
   try simp only [pu]
   refine wpAnyT_tail (i := 20) (o := ⟨some 25, _, _, _, _, _⟩) (by kernel_rfl) (by kernel_rfl) rfl (fun K hK => ?_)
   go_simp
   refine hK.out _ _ ?_
   clear hK K
   try simp only [pu]
   refine wpAnyT_tail (i := 21) (o := ⟨none, _, _, _, _, _⟩) (by kernel_rfl) (by kernel_rfl) rfl (fun K hK => ?_)
   have cv2 := HT19.out.blk.cell 2
   have fz2 := HT19.out.blk.frozen 2
   go_simp
   refine hK.out _ _ ?_
   clear hK K
   try simp only [pu]
   refine wpAnyT_done (by kernel_rfl) ?_
   go_end0
   exact add_end HH.out HN.out HT.out hS15 HT15.out hB8 hA15
  go_simp
  refine gen_KA (fun V => Keeps (fun _ => False) v7 V ∧ Blk V v7.heap.size 71 [.iface T y]) ⟨(Keeps.refl _ _).alloc _, Blk.new _ _ _⟩ ?_
  rintro v7_14 ⟨k7_14, b14⟩
  replace b7 := k7_14.blk b7 (fun h => h)
  have h7_14 := h_.trans k7_14 (fun _ _ h => h.elim)
  refine hK.out _ _ h7_14 (fun h_ => ?_)
  clear hK K
  try simp only [pu]
  refine wpAnyT_step (i := 8) (o := ⟨some 14, _, _, _, _, _⟩) (by kernel_rfl) rfl (fun K hK => ?_)
  refine step_append_own rfl (.tmp 11) (.tmp 13) 29 rfl 9 (.string .empty) 1 16 Tryz.underlying29 (by kernel_rfl) rfl (by decide) B n d _ rfl (HT0.out.keep ((((Keeps.refl (fun _ => False) w).drew).trans k7 (fun _ _ h => h)).trans k7_14 (fun _ _ h => h))).two.a.1 ⟨w.drew.heap.size, 0, none⟩ 1 1 [.string ky] rfl rfl (fun j u hu => by rw [add_at, Nat.zero_add, b7.cell]; exact hu) (by intro u hu; rw [List.mem_singleton.1 hu]; rfl) (by simp only [maxLen]; omega) (by omega) ?_
  intro B8 d8 v7_14_8 ho8 hg8 hb8
  have HT8 := H_ ((HT0.out.keep ((((Keeps.refl (fun _ => False) w).drew).trans k7 (fun _ _ h => h)).trans k7_14 (fun _ _ h => h))).app ho8 hg8 hb8)
  have hB8 : ∀ g, (Value.slice B8 (n + 1) d8).ownBlock = some g → (Value.slice B n d).ownBlock = some g ∨ w.heap.size ≤ g := fun g e => hb8.elim (fun h1 => .inl (h1 ▸ e)) (fun h1 => .inr (by rw [h1] at e; injection e with e; rw [← e]; exact h_.size))
  replace b14 := (Keeps.of_grown hg8).blk b14 (fun e => by have h1 := HT0.out.two.a.own_lt e; have h2 := (((Keeps.refl (fun _ => False) w).drew).trans k7 (fun _ _ h => h)).size; omega)
  have hS8 := h_.grown hg8 (fun g e => .inl (.inl e))
  refine hK.out _ _ hS8 (fun h_ => ?_)
  clear hK K
  try simp only [pu]
  refine wpAnyT_step (i := 15) (o := ⟨some 21, _, _, _, _, _⟩) (by kernel_rfl) rfl (fun K hK => ?_)
  refine step_append_own rfl (.tmp 18) (.tmp 20) 82 rfl 71 .nilIface 1 16 Tryz.underlying82 infoThing rfl (by decide) A n c _ rfl (HT8.out.swap.keep (Keeps.refl (fun _ => False) _)).two.a.1 ⟨v7.heap.size, 0, none⟩ 1 1 [.iface T y] rfl rfl (fun j u hu => by rw [add_at, Nat.zero_add, b14.cell]; exact hu) (by intro u hu; rw [List.mem_singleton.1 hu]; rfl) (by simp only [maxLen]; omega) (by omega) ?_
  intro A15 c15 v15 ho15 hg15 hb15
  have HT15 := H_ (((HT8.out.swap.keep (Keeps.refl (fun _ => False) _)).app ho15 hg15 hb15).swap)
  have hA15 : ∀ g, (Value.slice A15 (n + 1) c15).ownBlock = some g → (Value.slice A n c).ownBlock = some g ∨ w.heap.size ≤ g := fun g e => hb15.elim (fun h1 => .inl (h1 ▸ e)) (fun h1 => .inr (by rw [h1] at e; injection e with e; rw [← e]; exact h_.size))
  have hS15 := h_.grown hg15 (fun g e => .inl (.inr e))
  refine hK.out _ _ hS15 (fun h_ => ?_)
  clear hK K
  try simp only [pu]
  refine wpAnyT_tail (i := 16) (o := ⟨some 22, _, _, _, _, _⟩) (by kernel_rfl) (by kernel_rfl) rfl (fun K hK => ?_)
  go_simp
  refine hK.out _ _ ?_
  clear hK K
  try simp only [pu]
  refine wpAnyT_tail (i := 17) (o := ⟨some 23, _, _, _, _, _⟩) (by kernel_rfl) (by kernel_rfl) rfl (fun K hK => ?_)
  go_simp
  refine hK.out _ _ ?_
  clear hK K
  try simp only [pu]
  refine wpAnyT_tail (i := 18) (o := ⟨none, _, _, _, _, _⟩) (by kernel_rfl) (by kernel_rfl) rfl (fun K hK => ?_)
  have cv1 := HT15.out.blk.cell 1
  have fz1 := HT15.out.blk.frozen 1
  go_simp
  have HT19 := H_ (HT15.out.set 1 (.slice B8 (n + 1) d8))
  refine hK.out _ _ ?_
  clear hK K
  try simp only [pu]
  refine wpAnyT_tail (i := 19) (o := ⟨some 24, _, _, _, _, _⟩) (by kernel_rfl) (by kernel_rfl) rfl (fun K hK => ?_)
  go_simp
  refine hK.out _ _ ?_
  clear hK K
  try simp only [pu]
  refine wpAnyT_tail (i := 20) (o := ⟨some 25, _, _, _, _, _⟩) (by kernel_rfl) (by kernel_rfl) rfl (fun K hK => ?_)
  go_simp
  refine hK.out _ _ ?_
  clear hK K
  try simp only [pu]
  refine wpAnyT_tail (i := 21) (o := ⟨none, _, _, _, _, _⟩) (by kernel_rfl) (by kernel_rfl) rfl (fun K hK => ?_)
  have cv2 := HT19.out.blk.cell 2
  have fz2 := HT19.out.blk.frozen 2
  go_simp
  refine hK.out _ _ ?_
  clear hK K
  try simp only [pu]
  refine wpAnyT_done (by kernel_rfl) ?_
  go_end0
  exact add_end HH.out HN.out HT.out hS15 HT15.out hB8 hA15
 go_simp
 refine gen_KA (fun V => Keeps (fun _ => False) w.drew V ∧ Blk V w.drew.heap.size 71 [.iface T y]) ⟨(Keeps.refl _ _).alloc _, Blk.new _ _ _⟩ ?_
 rintro v14 ⟨k14, b14⟩
 have h14 := h_.trans k14 (fun _ _ h => h.elim)
 refine hK.out _ _ h14 (fun h_ => ?_)
 clear hK K
 try simp only [pu]
 refine wpAnyT_step (i := 7) (o := ⟨some 13, _, _, _, _, _⟩) (by kernel_rfl) rfl (fun K hK => ?_)
 go_simp
 refine gen_KA (fun V => Keeps (fun _ => False) v14 V ∧ Blk V v14.heap.size 9 [.string ky]) ⟨(Keeps.refl _ _).alloc _, Blk.new _ _ _⟩ ?_
 rintro v14_7 ⟨k14_7, b7⟩
 replace b14 := k14_7.blk b14 (fun h => h)
 have h14_7 := h_.trans k14_7 (fun _ _ h => h.elim)
 refine hK.out _ _ h14_7 (fun h_ => ?_)
 clear hK K
 try simp only [pu]
 refine wpAnyT_step (i := 8) (o := ⟨some 14, _, _, _, _, _⟩) (by kernel_rfl) rfl (fun K hK => ?_)
 refine step_append_own rfl (.tmp 11) (.tmp 13) 29 rfl 9 (.string .empty) 1 16 Tryz.underlying29 (by kernel_rfl) rfl (by decide) B n d _ rfl (HT0.out.keep ((((Keeps.refl (fun _ => False) w).drew).trans k14 (fun _ _ h => h)).trans k14_7 (fun _ _ h => h))).two.a.1 ⟨v14.heap.size, 0, none⟩ 1 1 [.string ky] rfl rfl (fun j u hu => by rw [add_at, Nat.zero_add, b7.cell]; exact hu) (by intro u hu; rw [List.mem_singleton.1 hu]; rfl) (by simp only [maxLen]; omega) (by omega) ?_
 intro B8 d8 v14_7_8 ho8 hg8 hb8
 have HT8 := H_ ((HT0.out.keep ((((Keeps.refl (fun _ => False) w).drew).trans k14 (fun _ _ h => h)).trans k14_7 (fun _ _ h => h))).app ho8 hg8 hb8)
 have hB8 : ∀ g, (Value.slice B8 (n + 1) d8).ownBlock = some g → (Value.slice B n d).ownBlock = some g ∨ w.heap.size ≤ g := fun g e => hb8.elim (fun h1 => .inl (h1 ▸ e)) (fun h1 => .inr (by rw [h1] at e; injection e with e; rw [← e]; exact h_.size))
 replace b14 := (Keeps.of_grown hg8).blk b14 (fun e => by have h1 := HT0.out.two.a.own_lt e; have h2 := ((Keeps.refl (fun _ => False) w).drew).size; omega)
 have hS8 := h_.grown hg8 (fun g e => .inl (.inl e))
 refine hK.out _ _ hS8 (fun h_ => ?_)
 clear hK K
 try simp only [pu]
 refine wpAnyT_step (i := 15) (o := ⟨some 21, _, _, _, _, _⟩) (by kernel_rfl) rfl (fun K hK => ?_)
 refine step_append_own rfl (.tmp 18) (.tmp 20) 82 rfl 71 .nilIface 1 16 Tryz.underlying82 infoThing rfl (by decide) A n c _ rfl (HT8.out.swap.keep (Keeps.refl (fun _ => False) _)).two.a.1 ⟨w.drew.heap.size, 0, none⟩ 1 1 [.iface T y] rfl rfl (fun j u hu => by rw [add_at, Nat.zero_add, b14.cell]; exact hu) (by intro u hu; rw [List.mem_singleton.1 hu]; rfl) (by simp only [maxLen]; omega) (by omega) ?_
 intro A15 c15 v15 ho15 hg15 hb15
 have HT15 := H_ (((HT8.out.swap.keep (Keeps.refl (fun _ => False) _)).app ho15 hg15 hb15).swap)
 have hA15 : ∀ g, (Value.slice A15 (n + 1) c15).ownBlock = some g → (Value.slice A n c).ownBlock = some g ∨ w.heap.size ≤ g := fun g e => hb15.elim (fun h1 => .inl (h1 ▸ e)) (fun h1 => .inr (by rw [h1] at e; injection e with e; rw [← e]; exact h_.size))
 have hS15 := h_.grown hg15 (fun g e => .inl (.inr e))
 refine hK.out _ _ hS15 (fun h_ => ?_)
 clear hK K
 try simp only [pu]
 refine wpAnyT_tail (i := 16) (o := ⟨some 22, _, _, _, _, _⟩) (by kernel_rfl) (by kernel_rfl) rfl (fun K hK => ?_)
 go_simp
 refine hK.out _ _ ?_
 clear hK K
 try simp only [pu]
 refine wpAnyT_tail (i := 17) (o := ⟨some 23, _, _, _, _, _⟩) (by kernel_rfl) (by kernel_rfl) rfl (fun K hK => ?_)
 go_simp
 refine hK.out _ _ ?_
 clear hK K
 try simp only [pu]
 refine wpAnyT_tail (i := 18) (o := ⟨none, _, _, _, _, _⟩) (by kernel_rfl) (by kernel_rfl) rfl (fun K hK => ?_)
 have cv1 := HT15.out.blk.cell 1
 have fz1 := HT15.out.blk.frozen 1
 go_simp
 have HT19 := H_ (HT15.out.set 1 (.slice B8 (n + 1) d8))
 refine hK.out _ _ ?_
 clear hK K
 try simp only [pu]
 refine wpAnyT_tail (i := 19) (o := ⟨some 24, _, _, _, _, _⟩) (by kernel_rfl) (by kernel_rfl) rfl (fun K hK => ?_)
 go_simp
 refine hK.out _ _ ?_
 clear hK K
 try simp only [pu]
 refine wpAnyT_tail (i := 20) (o := ⟨some 25, _, _, _, _, _⟩) (by kernel_rfl) (by kernel_rfl) rfl (fun K hK => ?_)
 go_simp
 refine hK.out _ _ ?_
 clear hK K
 try simp only [pu]
 refine wpAnyT_tail (i := 21) (o := ⟨none, _, _, _, _, _⟩) (by kernel_rfl) (by kernel_rfl) rfl (fun K hK => ?_)
 have cv2 := HT19.out.blk.cell 2
 have fz2 := HT19.out.blk.frozen 2
 go_simp
 refine hK.out _ _ ?_
 clear hK K
 try simp only [pu]
 refine wpAnyT_done (by kernel_rfl) ?_
 go_end0
 exact add_end HH.out HN.out HT.out hS15 HT15.out hB8 hA15
end Go.Proofs.YtdmcioghdindfaaGreatDoor
namespace Go.Proofs.YtdmcioghdindfaaGreatDoor
open Go Go.RowKit Go.Aff Go.Json
attribute [local go_sem] Oper.semAt_some
theorem method_whole (v : Value) (w : World) : (Go.method 420 150 v "affidavit/merge.put").run Tryz.prog w = .ok (197, v) w := by kernel_rfl
theorem method_mobj (b : Nat) (w : World) : (Go.method 420 73 (.pointer (some ⟨b, 0, none⟩)) "affidavit/merge.put").run Tryz.prog w = .ok (188, .pointer (some ⟨b, 0, none⟩)) w := by kernel_rfl
inductive Fit : JV → Prop
 | mk (j : JV) (h : j.sort ≠ 6 → j.within) (hi : j.sort = 6 → ∀ x, x ∈ j.items → Fit x) : Fit j
def PutPost (D : Nat → Prop) (w : World) (p : Nat) (P : List JV) (j : JV) (e : Ending) (w' : World) : Prop :=
 ((e = .returned .nilIface ∧ (∃ A' c' vs', RowAt 204 D w' p A' c' vs' (P ++ [j])) ∧ j.within) ∨ (e = .returned (errE 3) ∧ ¬ (P.length + j.nodes ≤ 65536 ∧ j.within))) ∧ Keeps (fun i => p ≤ i) w w'
theorem RowPost.hi {T : TypeId} {D : Nat → Prop} {w w' : World} {p : Nat} {A : Option Addr} {c : Nat} {vs : List Value} {P P' : List JV} (h : RowAt T D w p A c vs P) (hr : RowPost T D w p (.slice A P.length c) P' w') : Keeps (fun i => p ≤ i) w w' :=
 hr.2.mono fun i _ e => e.elim (fun e => by omega) fun e => (h.inn i e).2
theorem put_whole (D : Nat → Prop) (w : World) (p : Nat) (A : Option Addr) (c : Nat) (vs : List Value) (P : List JV) (h : RowAt 204 D w p A c vs P) (hn : P.length ≤ 1048576) (v : Value) (j : JV) (hj : JAt (fun i => D i ∧ i < p) w v j) (hw : j.within) :
  Calls Tryz.prog 197 #[.agg #[v], .pointer (some ⟨p, 0, none⟩)] w (PutPost D w p P j) := by
 obtain ⟨T, y, hv⟩ := hj.iface
 subst hv
 have hjb : JAt (Bq D p (.slice A P.length c)) w (.iface T y) j := hj.mono fun i hi _ => ⟨hi.1, by have := hi.2; omega, fun e => by have := (h.inn i e).2; have := hi.2; omega⟩
 have hk : Keeps (fun _ => False) w (w.alloc (.cells #[.iface T y] 150)) := (Keeps.refl _ w).alloc _
 have c0 := (Blk.new w 150 [.iface T y]).cell 0
 have HC : Hid (Calls Tryz.prog 198 #[.pointer (some ⟨p, 0, none⟩), .agg #[.iface T y]] (w.alloc (.cells #[.iface T y] 150)) fun e w' => ∃ x, e = .returned x ∧ PutPost D w p P j (.returned x) w') := H_ (by
  refine (copy_any D _ p A c vs P (h.stay hk) hn _ j (hjb.stay hk)).mono fun e w' hh => ?_
  unfold CopyPost at hh
  by_cases hlt : P.length < 65536
  ·rw [if_pos hlt] at hh
   exact ⟨_, hh.1, .inl ⟨rfl, hh.2.1, hw⟩, (hk.mono fun _ _ h => h.elim).trans (hh.2.hi (h.stay hk)) fun _ _ h => h⟩
  rw [if_neg hlt] at hh
  exact ⟨_, hh.1, .inr ⟨rfl, fun h2 => by
   have h3 := h2.1
   have h4 : 1 ≤ j.nodes := by rw [JV.nodes_eq]; omega
   omega⟩, (hk.trans hh.2 fun _ _ h => h).mono fun _ _ h => h.elim⟩)
 clear h hn hj hw hjb hk
 go_enter Tryz.func197, Tryz.ntmps197
 go_wp2_with (go_at_call 198; refine HC.out.mono ?_; rintro e w2 ⟨x, rfl, hq⟩)
 go_ret
 exact hq
theorem PutPost.ret {D : Nat → Prop} {w w' : World} {p : Nat} {P : List JV} {j : JV} {e : Ending} (h : PutPost D w p P j e w') : ∃ x, e = .returned x ∧ PutPost D w p P j (.returned x) w' := by
 rcases h with ⟨⟨rfl, h⟩ | ⟨rfl, h⟩, hk⟩
 ·exact ⟨_, rfl, .inl ⟨rfl, h⟩, hk⟩
 exact ⟨_, rfl, .inr ⟨rfl, h⟩, hk⟩
def PutInv (D : Nat → Prop) (w : World) (p : Nat) (v : Value) (x : JV) : Prop :=
 ∃ T y f u, v = .iface T y ∧ (∀ W, (Go.method 420 T y "affidavit/merge.put").run Tryz.prog W = .ok (f, u) W) ∧ Ent f ∧
  ∀ W A c vs P, Keeps (fun i => p ≤ i) w W → RowAt 204 D W p A c vs P → P.length + x.nodes ≤ 1048576 → (∀ j ∈ P, j.within) → Calls Tryz.prog f #[u, .pointer (some ⟨p, 0, none⟩)] W (PutPost D W p P x)
theorem PutInv.keep {D : Nat → Prop} {w W : World} {p : Nat} {v : Value} {x : JV} (h : PutInv D w p v x) (k : Keeps (fun i => p ≤ i) w W) : PutInv D W p v x := by
 obtain ⟨T, y, f, u, h1, h2, h3, h4⟩ := h
 exact ⟨T, y, f, u, h1, h2, h3, fun W2 A c vs P hk => h4 W2 A c vs P (k.trans hk fun _ _ h => h)⟩
theorem put_obj (D : Nat → Prop) (w : World) (p : Nat) (A : Option Addr) (c : Nat) (vs : List Value) (P : List JV) (h : RowAt 204 D w p A c vs P) (hP : ∀ j ∈ P, j.within)
  {b : Nat} {A2 B2 : Option Addr} {c2 d2 : Nat} {vs2 : List Value} {ks : List ByteArray} {l : List JV} {rf : Value} (hb : Blk w b 84 [rf, .slice B2 ks.length d2, .slice A2 l.length c2]) (hbp : b < p)
  (hk : Rd w B2 ks.length (ks.map .string)) (hok : InB (fun i => i < p) B2 ks.length) (hr : Rd w A2 l.length vs2) (ho : InB (fun i => i < p) A2 l.length)
  (hin : ∀ (i : Nat) (v : Value) (x : JV), vs2[i]? = some v → l[i]? = some x → PutInv D w p v x) (hj : JOk (.obj ks l)) (hn : P.length + (JV.obj ks l).nodes ≤ 1048576) (hby : (JV.obj ks l).bytes ≤ 1099511627776) :
  Calls Tryz.prog 188 #[.pointer (some ⟨b, 0, none⟩), .pointer (some ⟨p, 0, none⟩)] w (PutPost D w p P (.obj ks l)) := by
 obtain ⟨n, hnn⟩ : ∃ n, n = l.length := ⟨_, rfl⟩
 have hkl : ks.length = n := by rw [hnn]; exact hj.form.2.1 rfl
 rw [← hnn, hkl] at hb
 rw [← hnn] at hr ho
 have hno : ∀ i, i < p → ¬ p ≤ i := fun i h => by omega
 have c2' := hb.cell 2
 have HH := H_ (And.intro h hP)
 have HB := H_ (And.intro hb hbp)
 have HK := H_ (And.intro hk hok)
 have HR := H_ (And.intro hr ho)
 have HIN := H_ hin
 have HJ := H_ (And.intro hj (And.intro hn hby))
 have HN := H_ (And.intro hkl hnn)
 have HNO := H_ hno
 have hn0 : n ≤ 1048576 := by have := items_nodes (.obj ks l); have h2 : (JV.obj ks l).items.length = l.length := rfl; omega
 clear h hP hb hbp hk hok hr ho hin hj hn hby hkl hnn hno
 go_enter Tryz.func188, Tryz.ntmps188
 go_wp2
 go_loopg [13] n (fun gk t wx => ∃ (i : Nat) (A1 : Option Addr) (c1 : Nat) (vs1 : List Value), i ≤ n ∧ t = .int .i64 i ∧ gk = n - i ∧ Hid (RowAt 204 D wx p A1 c1 vs1 (P ++ l.take i) ∧ Keeps (fun i => p ≤ i) w wx ∧ ∀ j ∈ l.take i, j.within))
 case atStart => exact ⟨0, A, c, vs, by omega, rfl, rfl, H_ ⟨by rw [List.take_zero, List.append_nil]; exact HH.out.1, Keeps.refl _ _, fun j h => by simp at h⟩⟩
 case round =>
  obtain ⟨i, A1, c1, vs1, hin, rfl, hgk, HO⟩ := hrel
  have HGK := H_ hgk
  clear hgk
  by_cases hlt : i < n
  ·obtain ⟨g2, o2, hA2, hc2⟩ := (HR.out.1.keep HO.out.2.1 (HR.out.2.out HNO.out)).2 (by omega)
   subst hA2
   obtain ⟨v, hv⟩ : ∃ v, vs2[i]? = some v := ⟨_, List.getElem?_eq_getElem (by rw [HR.out.1.1]; exact hlt)⟩
   obtain ⟨x, hx⟩ : ∃ x, l[i]? = some x := ⟨_, List.getElem?_eq_getElem (by rw [← HN.out.2]; exact hlt)⟩
   have cvv := hc2 i hlt
   rw [hv] at cvv
   obtain ⟨T, y, f, u, hvy, hm, he, hcall⟩ := HIN.out i v x hv hx
   subst hvy
   have HPW : Hid (∀ j ∈ P ++ l.take i, j.within) := H_ fun j hj => (List.mem_append.1 hj).elim (HH.out.2 j) (HO.out.2.2 j)
   have HSZ : Hid (i + x.nodes + 1 ≤ (JV.obj ks l).nodes ∧ x ∈ (JV.obj ks l).items ∧ (P ++ l.take i).length = P.length + i) := H_ (by
    have hm : x ∈ l := List.mem_of_getElem? hx
    refine ⟨?_, hm, by rw [List.length_append, List.length_take, ← HN.out.2]; omega⟩
    have h1 := sumN_take (l := l.map fun x => x.nodes) (i := i) (x := x.nodes) (by rw [List.getElem?_map, hx]; rfl)
    have h2 := sumN_pre (l.map fun x => x.nodes) (i + 1)
    have h3 : i ≤ sumN ((l.map fun x => x.nodes).take i) := by
     have h4 : ∀ m : List JV, m.length ≤ sumN (m.map fun x => x.nodes) := fun m => by
      induction m with
      | nil => exact Nat.le_refl _
      | cons a m ih =>
       have : 1 ≤ a.nodes := by rw [JV.nodes_eq]; omega
       simp only [List.map_cons, sumN, List.length_cons]; omega
     have h5 := h4 (l.take i)
     rw [List.map_take, List.length_take, ← HN.out.2] at h5
     omega
    rw [JV.nodes_eq (.obj ks l)]
    show i + x.nodes + 1 ≤ 1 + sumN (l.map fun x => x.nodes)
    omega)
   have HCALL : Hid (Calls Tryz.prog f #[u, .pointer (some ⟨p, 0, none⟩)] wr fun e w' => ∃ z, e = .returned z ∧ PutPost D wr p (P ++ l.take i) x (.returned z) w') := H_ ((hcall wr A1 c1 vs1 _ HO.out.2.1 HO.out.1 (by have := HSZ.out.1; have := HSZ.out.2.2; have := HJ.out.2.1; omega) HPW.out).mono fun e w' h => h.ret)
   have HX := H_ hx
   unfold Ent at he
   clear hc2 hv hcall hx
   have hi63 : (0 : Int) ≤ (i : Int) := by omega
   have hiN : (i : Int) < (n : Int) := by omega
   go_upto_region 5 with (go_at_fn f; refine HCALL.out.mono ?_; rintro e w2 ⟨z, rfl, hq⟩; have HQ := H_ hq; clear hq)
   obtain ⟨⟨hz, ⟨A3, c3, vs3, hrow⟩, hwx⟩ | ⟨hz, hne⟩, hk2⟩ := HQ.out
   ·injection hz with hz
    subst hz
    have HRW := H_ (And.intro hrow (And.intro hwx hk2))
    clear hrow hwx hk2 HQ
    go_wp2
    go_roundg (n - (i + 1))
    case measure => rw [HGK.out]; omega
    case rel =>
     have ht : l.take (i + 1) = l.take i ++ [x] := by rw [List.take_add_one, HX.out]; rfl
     exact ⟨i + 1, A3, c3, vs3, by omega, by go_num, rfl, H_ ⟨by rw [ht, ← List.append_assoc]; exact HRW.out.1, HO.out.2.1.trans HRW.out.2.2 (fun _ _ h => h), fun j hj => by
      rw [ht] at hj
      rcases List.mem_append.1 hj with h | h
      ·exact HO.out.2.2 j h
      rw [List.mem_singleton.1 h]; exact HRW.out.2.1⟩⟩
   injection hz with hz
   subst hz
   have HE : Hid (PutPost D w p P (.obj ks l) (.returned (.iface 42 (.int .i64 3))) w2) := H_ ⟨.inr ⟨rfl, fun h2 => hne ⟨by have := HSZ.out.1; have := HSZ.out.2.2; have := h2.1; omega, item_within HSZ.out.2.1 h2.2⟩⟩, HO.out.2.1.trans hk2 fun _ _ h => h⟩
   clear hne hk2 HQ
   unfold errE
   go_wp2
   go_ret
   exact HE.out
  obtain rfl : i = n := by omega
  have ht : l.take i = l := List.take_of_length_le (by rw [HN.out.2]; omega)
  have hrow := HO.out.1
  rw [ht] at hrow
  have hPW : ∀ j ∈ P ++ l, j.within := fun j hj => (List.mem_append.1 hj).elim (HH.out.2 j) (fun h => HO.out.2.2 j (by rw [ht]; exact h))
  have hsz : i + 1 ≤ (JV.obj ks l).nodes := by
   have := items_nodes (.obj ks l)
   have h2 : (JV.obj ks l).items.length = l.length := rfl
   have := HN.out.2
   omega
  have hbk := HO.out.2.1.blk HB.out.1 (HNO.out _ HB.out.2)
  have c1' := hbk.cell 1
  have hbyF : byF ks ≤ 1099511627776 := by
   have h1 := HJ.out.2.2
   have h2 : (JV.obj ks l).bytes = byF ks + sumN (l.map fun x => x.bytes) := by simp only [JV.bytes]; rfl
   omega
  have HOBJ : Hid (Calls Tryz.prog 189 #[.pointer (some ⟨p, 0, none⟩), .slice B2 i d2] wr fun e w' => ∃ z, e = .returned z ∧ PutPost D w p P (.obj ks l) (.returned z) w') := H_ (by
   have h1 := object_put D wr p A1 c1 vs1 (P ++ l) hrow (by rw [List.length_append, ← HN.out.2]; have := HJ.out.2.1; omega) hPW ks hbyF (by rw [HN.out.1]; have := HJ.out.2.1; omega) B2 d2 (HK.out.1.keep HO.out.2.1 (HK.out.2.out HNO.out))
   rw [HN.out.1] at h1
   refine h1.mono fun e w' hq => PutPost.ret ?_
   unfold DoPost at hq
   rw [doF_members HJ.out.1] at hq
   by_cases hw : (JV.obj ks l).within
   ·rw [if_pos hw] at hq
    exact ⟨.inl ⟨hq.1, hq.2.1, hw⟩, HO.out.2.1.trans (hq.2.hi hrow) fun _ _ h => h⟩
   rw [if_neg hw] at hq
   exact ⟨.inr ⟨hq.1, fun h => hw h.2⟩, HO.out.2.1.trans (hq.2.mono fun _ _ h => h.elim) fun _ _ h => h⟩)
  clear hrow hPW hsz hbk hbyF ht
  go_wp2_with (go_at_call 189; refine HOBJ.out.mono ?_; rintro e w2 ⟨z, rfl, hq⟩)
  go_ret
  exact hq
theorem put_inv {D : Nat → Prop} {w : World} {p : Nat} {v : Value} {j : JV} (h : TAt (fun i => D i ∧ i < p) w v j) : JOk j → Fit j → j.bytes ≤ 1099511627776 → PutInv D w p v j := by
 induction h with
 | @whole it j hj hs =>
  intro _ hf _
  have hw : j.within := by cases hf with | mk _ h _ => exact h hs
  exact ⟨_, _, _, _, rfl, fun W => method_whole _ W, enters_of Tryz.func197 (by kernel_rfl) rfl, fun W A c vs P hk hr hn _ => put_whole D W p A c vs P hr (by omega) it j (hj.keep hk fun i hi e => by have := hi.2; omega) hw⟩
 | @obj b A B c d vs ks l rf hDb hb hrf hk hok hr ho hl ih =>
  intro hj hf hby
  have hfm := hj.form
  have hfi : ∀ x, x ∈ l → Fit x := by cases hf with | mk _ _ h => exact h rfl
  refine ⟨_, _, _, _, rfl, fun W => method_mobj b W, enters_of Tryz.func188 (by kernel_rfl) rfl, fun W A2 c2 vs2 P hK hR hn hP => ?_⟩
  refine put_obj D W p A2 c2 vs2 P hR hP (rf := rf) (hK.blk hb (fun e => by have := hDb.2; omega)) hDb.2 (hk.keep hK (hok.out fun i hi e => by have := hi.2; omega)) (hok.mono fun i hi => hi.2) (hr.keep hK (ho.out fun i hi e => by have := hi.2; omega)) (ho.mono fun i hi => hi.2) (fun i v x h1 h2 => ?_) hj hn hby
  have hm : x ∈ (JV.obj ks l).items := List.mem_of_getElem? h2
  refine (ih i v x h1 h2 (hfm.2.2.2.2.2 x hm) (hfi x hm) ?_).keep hK
  have h3 := sumN_mem (List.mem_map.2 ⟨x, hm, rfl⟩ : x.bytes ∈ (JV.obj ks l).items.map fun x => x.bytes)
  rw [JV.bytes_eq (.obj ks l)] at hby
  omega
end Go.Proofs.YtdmcioghdindfaaGreatDoor
