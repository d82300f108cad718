/-
  Texts put together: MObjW.
-/
import Derived.Test.YtdmcioghdindfaaGreatQ33
set_option linter.unusedSimpArgs false
namespace Go.Proofs.YtdmcioghdindfaaGreat
open Go Go.RowKit Go.Aff Go.Json Go.Rng
/-- Blocks of D, but not the object's own. -/
def Do_ (D : Nat → Prop) (b : Nat) (B A : Value) (k : Nat) : Prop := D k ∧ k ≠ b ∧ B.ownBlock ≠ some k ∧ A.ownBlock ≠ some k
/-- An object that is made. -/
structure ObS (D : Nat → Prop) (w0 w : World) (b : Nat) (rf : Value) (B : Option Addr) (d : Nat) (A : Option Addr) (c : Nat) (ks : List ByteArray) (vals : List Value) (js : List JV) : Prop where
  two : BoxTwo w0 w b 88 [rf, .slice B ks.length d, .slice A ks.length c] 9 1 B ks.length d (ks.map .string) 54 1 A ks.length c vals
  at_ : ∀ (q : Nat) (val : Value) (x : JV), vals[q]? = some val → js[q]? = some x → TAt (Do_ D b (.slice B ks.length d) (.slice A ks.length c)) w val x
  len : js.length = ks.length
section
variable {D : Nat → Prop} {w0 w w' : World} {b : Nat} {rf : Value} {B : Option Addr} {d : Nat} {A : Option Addr} {c : Nat} {ks : List ByteArray} {vals : List Value} {js : List JV}
theorem ObS.stay (h : ObS D w0 w b rf B d A c ks vals js) (k : Keeps (fun _ => False) w w') : ObS D w0 w' b rf B d A c ks vals js := ⟨h.two.keep k, fun q val x h1 h2 => (h.at_ q val x h1 h2).stay k, h.len⟩
theorem ObS.start (D : Nat → Prop) (w : World) : ObS D w (w.alloc (.cells #[.nilIface, .slice none 0 0, .slice none 0 0] 88)) w.heap.size .nilIface none 0 none 0 [] [] [] :=
  ⟨BoxTwo.start w 88 9 54 1 1 (Keeps.refl _ w) [.nilIface, .slice none 0 0, .slice none 0 0], fun q val x h => by simp at h, rfl⟩
theorem ObS.keep (h : ObS D w0 w b rf B d A c ks vals js) : Keeps (fun _ => False) w0 w := h.two.hold
/-- The object as a thing. -/
theorem ObS.thing (h : ObS D w0 w b .nilIface B d A c ks vals js) (hD : ∀ i, w0.heap.size ≤ i → D i) : TAt D w (.iface 84 (.pointer (some ⟨b, 0, none⟩))) (.obj ks js) := by
  have hb := h.two.blk
  have hA := h.two.two.b
  rw [← h.len] at hb hA
  refine TAt.obj (b := b) (A := A) (B := B) (c := c) (d := d) (vs := vals) (hD _ h.two.lo) (by rw [← h.len]; exact hb) (.inl rfl) (MineS.rd h.two.two.a) ((MineS.inB h.two.two.a).mono hD) (MineS.rd hA) ((MineS.inB hA).mono hD) fun q val x h1 h2 => (h.at_ q val x h1 h2).mono fun i hi _ => hi.1
end
/-- What add does. -/
def AddPost (D : Nat → Prop) (w0 w : World) (b : Nat) (rf : Value) (F : Nat → Prop) (ks : List ByteArray) (js : List JV) (e : Ending) (w' : World) : Prop :=
  e = .returned (.tuple #[]) ∧ (∃ B d A c vals, ObS D w0 w' b rf B d A c ks vals js) ∧ Keeps F w w'
theorem add_end {D : Nat → Prop} {w0 w w15 : World} {b n : Nat} {rf : Value} {B : Option Addr} {d : Nat} {A : Option Addr} {c : Nat} {ks : List ByteArray} {vals : List Value} {js : List JV} (h : ObS D w0 w b rf B d A c ks vals js) (hn : n = ks.length)
    {ky : ByteArray} {t : Value} {x : JV} (ht : TAt (Do_ D b (.slice B ks.length d) (.slice A ks.length c)) w t x) (hS : Keeps (fun i => (Value.slice B n d).ownBlock = some i ∨ (Value.slice A n c).ownBlock = some i) w w15) {B8 : Option Addr} {d8 : Nat} {A15 : Option Addr} {c15 : Nat}
    (hT : BoxTwo w0 w15 b 88 [rf, .slice B n d, .slice A n c] 9 1 B8 (n + 1) d8 (ks.map .string ++ [.string ky]) 54 1 A15 (n + 1) c15 (vals ++ [t]))
    (hB : ∀ g, (Value.slice B8 (n + 1) d8).ownBlock = some g → (Value.slice B n d).ownBlock = some g ∨ w.heap.size ≤ g) (hA : ∀ g, (Value.slice A15 (n + 1) c15).ownBlock = some g → (Value.slice A n c).ownBlock = some g ∨ w.heap.size ≤ g) :
    AddPost D w0 w b rf (fun i => i = b ∨ (Value.slice B n d).ownBlock = some i ∨ (Value.slice A n c).ownBlock = some i) (ks ++ [ky]) (js ++ [x]) (.returned (.tuple #[])) ((w15.setCell ⟨b, 1, none⟩ (.slice B8 (n + 1) d8)).setCell ⟨b, 2, none⟩ (.slice A15 (n + 1) c15)) := by
  subst hn
  have hT22 := (hT.set 1 (.slice B8 (ks.length + 1) d8)).set 2 (.slice A15 (ks.length + 1) c15)
  have kset : Keeps (fun i => i = b) w15 ((w15.setCell ⟨b, 1, none⟩ (.slice B8 (ks.length + 1) d8)).setCell ⟨b, 2, none⟩ (.slice A15 (ks.length + 1) c15)) :=
    ((Keeps.refl (fun i => i = b) w15).setCell (p := ⟨b, 1, none⟩) (.inl rfl) _).setCell (p := ⟨b, 2, none⟩) (.inl rfl) _
  have kF : Keeps (fun i => i = b ∨ (Value.slice B ks.length d).ownBlock = some i ∨ (Value.slice A ks.length c).ownBlock = some i) w ((w15.setCell ⟨b, 1, none⟩ (.slice B8 (ks.length + 1) d8)).setCell ⟨b, 2, none⟩ (.slice A15 (ks.length + 1) c15)) := (hS.mono (fun _ _ h => .inr h)).trans kset (fun _ _ e => .inl e)
  have hpl : (ks ++ [ky]).length = ks.length + 1 := by rw [List.length_append]; rfl
  have hvl : vals.length = ks.length := by have := h.two.two.b.1.1; simpa using this
  have hmove : ∀ val y, TAt (Do_ D b (.slice B ks.length d) (.slice A ks.length c)) w val y → TAt (Do_ D b (.slice B8 (ks.length + 1) d8) (.slice A15 (ks.length + 1) c15)) ((w15.setCell ⟨b, 1, none⟩ (.slice B8 (ks.length + 1) d8)).setCell ⟨b, 2, none⟩ (.slice A15 (ks.length + 1) c15)) val y := fun val y h4 => by
    refine ((h4.mono (C := fun k => Do_ D b (.slice B ks.length d) (.slice A ks.length c) k ∧ k < w.heap.size) fun k h5 h6 => ⟨h5, h6⟩).keep kF (fun k hk e => ?_)).mono fun k hk _ => ⟨hk.1.1, hk.1.2.1, fun e => ?_, fun e => ?_⟩
    · rcases e with e | e | e
      · exact hk.1.2.1 e
      · exact hk.1.2.2.1 e
      · exact hk.1.2.2.2 e
    · rcases hB k e with h5 | h5
      · exact hk.1.2.2.1 h5
      · have := hk.2; omega
    · rcases hA k e with h5 | h5
      · exact hk.1.2.2.2 h5
      · have := hk.2; omega
  refine ⟨rfl, ⟨B8, d8, A15, c15, vals ++ [t], ?_, fun q val y h1 h2 => ?_, by rw [List.length_append, h.len, hpl]; rfl⟩, kF⟩
  · rw [hpl, List.map_append]
    exact hT22
  · rw [hpl]
    refine hmove val y ?_
    rcases Nat.lt_or_ge q ks.length with hq | hq
    · rw [List.getElem?_append_left (by omega)] at h1
      rw [List.getElem?_append_left (by rw [h.len]; exact hq)] at h2
      exact h.at_ q val y h1 h2
    · have hq2 : q = ks.length := by
        have := (List.getElem?_eq_some_iff.1 h1).1
        rw [List.length_append, hvl] at this
        simp at this
        omega
      subst hq2
      rw [List.getElem?_append_right (by omega), show ks.length - vals.length = 0 by omega] at h1
      rw [List.getElem?_append_right (by rw [h.len]; exact Nat.le_refl _), show ks.length - js.length = 0 by rw [h.len]; omega] at h2
      simp at h1 h2
      subst h1 h2
      exact ht
set_option maxHeartbeats 4000000 in
set_option maxRecDepth 100000 in
theorem add_any {D : Nat → Prop} (w0 w : World) (b : Nat) (rf : Value) (B : Option Addr) (d : Nat) (A : Option Addr) (c : Nat) (ks : List ByteArray) (vals : List Value) (js : List JV) (h : ObS D w0 w b rf B d A c ks vals js) (hn : ks.length ≤ 1048576)
    (ky : ByteArray) (t : Value) (x : JV) (ht : TAt (Do_ D b (.slice B ks.length d) (.slice A ks.length c)) w t x) :
    Calls Tryz.prog 32 #[.pointer (some ⟨b, 0, none⟩), .string ky, t] w (AddPost D w0 w b rf (fun i => i = b ∨ (Value.slice B ks.length d).ownBlock = some i ∨ (Value.slice A ks.length c).ownBlock = some i) (ks ++ [ky]) (js ++ [x])) := by
  obtain ⟨T, y, hty⟩ := ht.iface
  subst hty
  obtain ⟨n, hnn⟩ : ∃ n, n = ks.length := ⟨_, rfl⟩
  have hh := h
  have hnr : ∀ p T' cs, Blk w p T' cs → 9 ≠ T' → 54 ≠ T' → ¬ ((Value.slice B n d).ownBlock = some p ∨ (Value.slice A n c).ownBlock = some p) := fun p T' cs hb h1 h2 e => by
    rcases e with e | e
    · exact own_blk hh.two.two.a.1 hb h1 (by rw [← hnn]; exact e)
    · exact own_blk hh.two.two.b.1 hb h2 (by rw [← hnn]; exact e)
  have HCE : Hid (∀ V, Keeps (fun i => (Value.slice B n d).ownBlock = some i ∨ (Value.slice A n c).ownBlock = some i) w V → V.cell? ⟨b, 1, none⟩ = some (.slice B n d) ∧ V.cell? ⟨b, 2, none⟩ = some (.slice A n c)) := Lib.hid fun V hV => by
    have h1 := hV.blk hh.two.blk (hnr _ _ _ hh.two.blk (by decide) (by decide))
    rw [← hnn] at h1
    exact ⟨h1.cell 1, h1.cell 2⟩
  have HT0 : Hid (BoxTwo w0 w b 88 [rf, .slice B n d, .slice A n c] 9 1 B n d (ks.map .string) 54 1 A n c vals) := Lib.hid (by rw [hnn]; exact hh.two)
  have HH := Lib.hid h
  have HT := Lib.hid ht
  have HN := Lib.hid hnn
  rw [← hnn] at hn ⊢
  clear h ht hh hnr hnn
  go_enter Tryz.func32, Tryz.ntmps32
  refine wp_region_tail (S := (fun V => Keeps (fun i => (Value.slice B n d).ownBlock = some i ∨ (Value.slice A n c).ownBlock = some i) w V)) 16 (by kernel_rfl) (Keeps.refl _ _).drew (fun hHeld => ?_)
  refine wpAnyT_pure (i := 0) (oi := ⟨some 6, _, _, _, _, _⟩) (v := ?_) rfl (by kernel_rfl) (by kernel_rfl) (by kernel_rfl) (fun _ _ _ h => h) (Or.inl ⟨by rfl, ?_⟩) ?_
  rotate_left
  · intro w' hSw
    go_simp
    first | done | rfl
  try simp only [Act.put, List.setIfInBounds_toArray, List.set_cons_zero, List.set_cons_succ]
  refine wpAnyT_pure (i := 1) (oi := ⟨some 7, _, _, _, _, _⟩) (v := ?_) rfl (by kernel_rfl) (by kernel_rfl) (by kernel_rfl) (fun _ _ _ h => h) (Or.inl ⟨by rfl, ?_⟩) ?_
  rotate_left
  · intro w' hSw
    go_simp
    first | done | rfl
  try simp only [Act.put, List.setIfInBounds_toArray, List.set_cons_zero, List.set_cons_succ]
  refine wpAnyT_pure (i := 2) (oi := ⟨some 8, _, _, _, _, _⟩) (v := ?_) rfl (by kernel_rfl) (by kernel_rfl) (by kernel_rfl) (fun _ _ _ h => h) (Or.inl ⟨by rfl, ?_⟩) ?_
  rotate_left
  · intro w' hSw
    go_simp
    first | done | rfl
  try simp only [Act.put, List.setIfInBounds_toArray, List.set_cons_zero, List.set_cons_succ]
  refine wpAnyT_pure (i := 3) (oi := ⟨some 9, _, _, _, _, _⟩) (v := ?_) rfl (by kernel_rfl) (by kernel_rfl) (by kernel_rfl) (fun _ _ _ h => h) (Or.inl ⟨by rfl, ?_⟩) ?_
  rotate_left
  · intro w' hSw
    go_simp
    first | done | rfl
  try simp only [Act.put, List.setIfInBounds_toArray, List.set_cons_zero, List.set_cons_succ]
  refine wpAnyT_pure (i := 4) (oi := ⟨some 10, _, _, _, _, _⟩) (v := ?_) rfl (by kernel_rfl) (by kernel_rfl) (by kernel_rfl) (fun _ _ _ h => h) (Or.inl ⟨by rfl, ?_⟩) ?_
  rotate_left
  · intro w' hSw
    go_simp
    first | done | rfl
  try simp only [Act.put, List.setIfInBounds_toArray, List.set_cons_zero, List.set_cons_succ]
  refine wpAnyT_take [5] (i := 5) (oi := ⟨some 11, _, _, _, _, _⟩) (v := ?_) rfl (by kernel_rfl) (by kernel_rfl) (by kernel_rfl) (by kernel_rfl) (by kernel_rfl) (fun _ _ _ h => h) (Or.inl ⟨by rfl, ?_⟩) hHeld ?_
  rotate_left
  · intro w' hSw
    have cv := (HCE.out _ hSw).1
    go_simp
    first | done | rfl
  try simp only [Act.put, List.setIfInBounds_toArray, List.set_cons_zero, List.set_cons_succ]
  refine wpAnyT_pure (i := 6) (oi := ⟨some 12, _, _, _, _, _⟩) (v := ?_) rfl (by kernel_rfl) (by kernel_rfl) (by kernel_rfl) (fun _ _ _ h => h) (Or.inl ⟨by rfl, ?_⟩) ?_
  rotate_left
  · intro w' hSw
    go_simp
    first | done | rfl
  try simp only [Act.put, List.setIfInBounds_toArray, List.set_cons_zero, List.set_cons_succ]
  refine wpAnyT_pure (i := 9) (oi := ⟨some 15, _, _, _, _, _⟩) (v := ?_) rfl (by kernel_rfl) (by kernel_rfl) (by kernel_rfl) (fun _ _ _ h => h) (Or.inl ⟨by rfl, ?_⟩) ?_
  rotate_left
  · intro w' hSw
    go_simp
    first | done | rfl
  try simp only [Act.put, List.setIfInBounds_toArray, List.set_cons_zero, List.set_cons_succ]
  refine wpAnyT_pure (i := 10) (oi := ⟨some 16, _, _, _, _, _⟩) (v := ?_) rfl (by kernel_rfl) (by kernel_rfl) (by kernel_rfl) (fun _ _ _ h => h) (Or.inl ⟨by rfl, ?_⟩) ?_
  rotate_left
  · intro w' hSw
    go_simp
    first | done | rfl
  try simp only [Act.put, List.setIfInBounds_toArray, List.set_cons_zero, List.set_cons_succ]
  refine wpAnyT_pure (i := 11) (oi := ⟨some 17, _, _, _, _, _⟩) (v := ?_) rfl (by kernel_rfl) (by kernel_rfl) (by kernel_rfl) (fun _ _ _ h => h) (Or.inl ⟨by rfl, ?_⟩) ?_
  rotate_left
  · intro w' hSw
    go_simp
    first | done | rfl
  try simp only [Act.put, List.setIfInBounds_toArray, List.set_cons_zero, List.set_cons_succ]
  refine wpAnyT_take [12] (i := 12) (oi := ⟨some 18, _, _, _, _, _⟩) (v := ?_) rfl (by kernel_rfl) (by kernel_rfl) (by kernel_rfl) (by kernel_rfl) (by kernel_rfl) (fun _ _ _ h => h) (Or.inl ⟨by rfl, ?_⟩) hHeld ?_
  rotate_left
  · intro w' hSw
    have cv := (HCE.out _ hSw).2
    go_simp
    first | done | rfl
  try simp only [Act.put, List.setIfInBounds_toArray, List.set_cons_zero, List.set_cons_succ]
  refine wpAnyT_pure (i := 13) (oi := ⟨some 19, _, _, _, _, _⟩) (v := ?_) rfl (by kernel_rfl) (by kernel_rfl) (by kernel_rfl) (fun _ _ _ h => h) (Or.inl ⟨by rfl, ?_⟩) ?_
  rotate_left
  · intro w' hSw
    go_simp
    first | done | rfl
  try simp only [Act.put, List.setIfInBounds_toArray, List.set_cons_zero, List.set_cons_succ]
  refine wpAnyT_two (i := 7) (j := 14) (oi := ⟨some 13, _, _, _, _, _⟩) (oj := ⟨some 20, _, _, _, _, _⟩) (by kernel_rfl) rfl rfl (fun K hK => ?_) (fun K hK => ?_)
  · go_simp
    refine gen_KA (fun V => Keeps (fun _ => False) w.drew V ∧ Blk V w.drew.heap.size 9 [.string ky]) ⟨(Keeps.refl _ _).alloc _, Blk.new _ _ _⟩ ?_
    rintro v7 ⟨k7, b7⟩
    have h7 := hHeld.trans k7 (fun _ _ h => h.elim)
    refine hK.out _ _ h7 (fun hHeld => ?_)
    clear hK K
    try simp only [Act.put, List.setIfInBounds_toArray, List.set_cons_zero, List.set_cons_succ]
    refine wpAnyT_two (i := 8) (j := 14) (oi := ⟨some 14, _, _, _, _, _⟩) (oj := ⟨some 20, _, _, _, _, _⟩) (by kernel_rfl) rfl rfl (fun K hK => ?_) (fun K hK => ?_)
    · refine step_append_own rfl (.tmp 11) (.tmp 13) 27 rfl 9 (.string .empty) 1 16 Tryz.underlying27 (by kernel_rfl) rfl (by decide) B n d _ rfl (HT0.out.keep (((Keeps.refl (fun _ => False) w).drew).trans k7 (fun _ _ h => h))).two.a.1 ⟨w.drew.heap.size, 0, none⟩ 1 1 [.string ky] rfl rfl (fun j u hu => by rw [add_at, Nat.zero_add, b7.cell]; exact hu) (by intro u hu; rw [List.mem_singleton.1 hu]; rfl) (by simp only [maxLen]; omega) (by omega) ?_
      intro B8 d8 v7_8 ho8 hg8 hb8
      have HT8 := Lib.hid ((HT0.out.keep (((Keeps.refl (fun _ => False) w).drew).trans k7 (fun _ _ h => h))).app ho8 hg8 hb8)
      have hB8 : ∀ g, (Value.slice B8 (n + 1) d8).ownBlock = some g → (Value.slice B n d).ownBlock = some g ∨ w.heap.size ≤ g := fun g e => hb8.elim (fun h1 => .inl (h1 ▸ e)) (fun h1 => .inr (by rw [h1] at e; injection e with e; rw [← e]; exact hHeld.size))
      have hS8 := hHeld.grown hg8 (fun g e => .inl (.inl e))
      refine hK.out _ _ hS8 (fun hHeld => ?_)
      clear hK K
      try simp only [Act.put, List.setIfInBounds_toArray, List.set_cons_zero, List.set_cons_succ]
      refine wpAnyT_step (i := 14) (o := ⟨some 20, _, _, _, _, _⟩) (by kernel_rfl) rfl (fun K hK => ?_)
      go_simp
      refine gen_KA (fun V => Keeps (fun _ => False) v7_8 V ∧ Blk V v7_8.heap.size 54 [.iface T y]) ⟨(Keeps.refl _ _).alloc _, Blk.new _ _ _⟩ ?_
      rintro v7_8_14 ⟨k7_8_14, b14⟩
      have h7_8_14 := hHeld.trans k7_8_14 (fun _ _ h => h.elim)
      refine hK.out _ _ h7_8_14 (fun hHeld => ?_)
      clear hK K
      try simp only [Act.put, List.setIfInBounds_toArray, List.set_cons_zero, List.set_cons_succ]
      refine wpAnyT_step (i := 15) (o := ⟨some 21, _, _, _, _, _⟩) (by kernel_rfl) rfl (fun K hK => ?_)
      refine step_append_own rfl (.tmp 18) (.tmp 20) 86 rfl 54 .nilIface 1 16 Tryz.underlying86 infoThing rfl (by decide) A n c _ rfl (HT8.out.swap.keep ((Keeps.refl (fun _ => False) _).trans k7_8_14 (fun _ _ h => h))).two.a.1 ⟨v7_8.heap.size, 0, none⟩ 1 1 [.iface T y] rfl rfl (fun j u hu => by rw [add_at, Nat.zero_add, b14.cell]; exact hu) (by intro u hu; rw [List.mem_singleton.1 hu]; rfl) (by simp only [maxLen]; omega) (by omega) ?_
      intro A15 c15 v15 ho15 hg15 hb15
      have HT15 := Lib.hid (((HT8.out.swap.keep ((Keeps.refl (fun _ => False) _).trans k7_8_14 (fun _ _ h => h))).app ho15 hg15 hb15).swap)
      have hA15 : ∀ g, (Value.slice A15 (n + 1) c15).ownBlock = some g → (Value.slice A n c).ownBlock = some g ∨ w.heap.size ≤ g := fun g e => hb15.elim (fun h1 => .inl (h1 ▸ e)) (fun h1 => .inr (by rw [h1] at e; injection e with e; rw [← e]; exact hHeld.size))
      have hS15 := hHeld.grown hg15 (fun g e => .inl (.inr e))
      refine hK.out _ _ hS15 (fun hHeld => ?_)
      clear hK K
      try simp only [Act.put, List.setIfInBounds_toArray, List.set_cons_zero, List.set_cons_succ]
      refine wpAnyT_tail (i := 16) (o := ⟨some 22, _, _, _, _, _⟩) (by kernel_rfl) (by kernel_rfl) rfl (fun K hK => ?_)
      go_simp
      refine hK.out _ _ ?_
      clear hK K
      try simp only [Act.put, List.setIfInBounds_toArray, List.set_cons_zero, List.set_cons_succ]
      refine wpAnyT_tail (i := 17) (o := ⟨some 23, _, _, _, _, _⟩) (by kernel_rfl) (by kernel_rfl) rfl (fun K hK => ?_)
      go_simp
      refine hK.out _ _ ?_
      clear hK K
      try simp only [Act.put, List.setIfInBounds_toArray, List.set_cons_zero, List.set_cons_succ]
      refine wpAnyT_tail (i := 18) (o := ⟨none, _, _, _, _, _⟩) (by kernel_rfl) (by kernel_rfl) rfl (fun K hK => ?_)
      have cv1 := HT15.out.blk.cell 1
      have fz1 := HT15.out.blk.frozen 1
      go_simp
      have HT19 := Lib.hid (HT15.out.set 1 (.slice B8 (n + 1) d8))
      refine hK.out _ _ ?_
      clear hK K
      try simp only [Act.put, List.setIfInBounds_toArray, List.set_cons_zero, List.set_cons_succ]
      refine wpAnyT_tail (i := 19) (o := ⟨some 24, _, _, _, _, _⟩) (by kernel_rfl) (by kernel_rfl) rfl (fun K hK => ?_)
      go_simp
      refine hK.out _ _ ?_
      clear hK K
      try simp only [Act.put, List.setIfInBounds_toArray, List.set_cons_zero, List.set_cons_succ]
      refine wpAnyT_tail (i := 20) (o := ⟨some 25, _, _, _, _, _⟩) (by kernel_rfl) (by kernel_rfl) rfl (fun K hK => ?_)
      go_simp
      refine hK.out _ _ ?_
      clear hK K
      try simp only [Act.put, List.setIfInBounds_toArray, List.set_cons_zero, List.set_cons_succ]
      refine wpAnyT_tail (i := 21) (o := ⟨none, _, _, _, _, _⟩) (by kernel_rfl) (by kernel_rfl) rfl (fun K hK => ?_)
      have cv2 := HT19.out.blk.cell 2
      have fz2 := HT19.out.blk.frozen 2
      go_simp
      refine hK.out _ _ ?_
      clear hK K
      try simp only [Act.put, List.setIfInBounds_toArray, List.set_cons_zero, List.set_cons_succ]
      refine wpAnyT_done (by kernel_rfl) ?_
      go_end0
      exact add_end HH.out HN.out HT.out hS15 HT15.out hB8 hA15
    · go_simp
      refine gen_KA (fun V => Keeps (fun _ => False) v7 V ∧ Blk V v7.heap.size 54 [.iface T y]) ⟨(Keeps.refl _ _).alloc _, Blk.new _ _ _⟩ ?_
      rintro v7_14 ⟨k7_14, b14⟩
      replace b7 := k7_14.blk b7 (fun h => h)
      have h7_14 := hHeld.trans k7_14 (fun _ _ h => h.elim)
      refine hK.out _ _ h7_14 (fun hHeld => ?_)
      clear hK K
      try simp only [Act.put, List.setIfInBounds_toArray, List.set_cons_zero, List.set_cons_succ]
      refine wpAnyT_step (i := 8) (o := ⟨some 14, _, _, _, _, _⟩) (by kernel_rfl) rfl (fun K hK => ?_)
      refine step_append_own rfl (.tmp 11) (.tmp 13) 27 rfl 9 (.string .empty) 1 16 Tryz.underlying27 (by kernel_rfl) rfl (by decide) B n d _ rfl (HT0.out.keep ((((Keeps.refl (fun _ => False) w).drew).trans k7 (fun _ _ h => h)).trans k7_14 (fun _ _ h => h))).two.a.1 ⟨w.drew.heap.size, 0, none⟩ 1 1 [.string ky] rfl rfl (fun j u hu => by rw [add_at, Nat.zero_add, b7.cell]; exact hu) (by intro u hu; rw [List.mem_singleton.1 hu]; rfl) (by simp only [maxLen]; omega) (by omega) ?_
      intro B8 d8 v7_14_8 ho8 hg8 hb8
      have HT8 := Lib.hid ((HT0.out.keep ((((Keeps.refl (fun _ => False) w).drew).trans k7 (fun _ _ h => h)).trans k7_14 (fun _ _ h => h))).app ho8 hg8 hb8)
      have hB8 : ∀ g, (Value.slice B8 (n + 1) d8).ownBlock = some g → (Value.slice B n d).ownBlock = some g ∨ w.heap.size ≤ g := fun g e => hb8.elim (fun h1 => .inl (h1 ▸ e)) (fun h1 => .inr (by rw [h1] at e; injection e with e; rw [← e]; exact hHeld.size))
      replace b14 := (Keeps.of_grown hg8).blk b14 (fun e => by have h1 := HT0.out.two.a.own_lt e; have h2 := (((Keeps.refl (fun _ => False) w).drew).trans k7 (fun _ _ h => h)).size; omega)
      have hS8 := hHeld.grown hg8 (fun g e => .inl (.inl e))
      refine hK.out _ _ hS8 (fun hHeld => ?_)
      clear hK K
      try simp only [Act.put, List.setIfInBounds_toArray, List.set_cons_zero, List.set_cons_succ]
      refine wpAnyT_step (i := 15) (o := ⟨some 21, _, _, _, _, _⟩) (by kernel_rfl) rfl (fun K hK => ?_)
      refine step_append_own rfl (.tmp 18) (.tmp 20) 86 rfl 54 .nilIface 1 16 Tryz.underlying86 infoThing rfl (by decide) A n c _ rfl (HT8.out.swap.keep (Keeps.refl (fun _ => False) _)).two.a.1 ⟨v7.heap.size, 0, none⟩ 1 1 [.iface T y] rfl rfl (fun j u hu => by rw [add_at, Nat.zero_add, b14.cell]; exact hu) (by intro u hu; rw [List.mem_singleton.1 hu]; rfl) (by simp only [maxLen]; omega) (by omega) ?_
      intro A15 c15 v15 ho15 hg15 hb15
      have HT15 := Lib.hid (((HT8.out.swap.keep (Keeps.refl (fun _ => False) _)).app ho15 hg15 hb15).swap)
      have hA15 : ∀ g, (Value.slice A15 (n + 1) c15).ownBlock = some g → (Value.slice A n c).ownBlock = some g ∨ w.heap.size ≤ g := fun g e => hb15.elim (fun h1 => .inl (h1 ▸ e)) (fun h1 => .inr (by rw [h1] at e; injection e with e; rw [← e]; exact hHeld.size))
      have hS15 := hHeld.grown hg15 (fun g e => .inl (.inr e))
      refine hK.out _ _ hS15 (fun hHeld => ?_)
      clear hK K
      try simp only [Act.put, List.setIfInBounds_toArray, List.set_cons_zero, List.set_cons_succ]
      refine wpAnyT_tail (i := 16) (o := ⟨some 22, _, _, _, _, _⟩) (by kernel_rfl) (by kernel_rfl) rfl (fun K hK => ?_)
      go_simp
      refine hK.out _ _ ?_
      clear hK K
      try simp only [Act.put, List.setIfInBounds_toArray, List.set_cons_zero, List.set_cons_succ]
      refine wpAnyT_tail (i := 17) (o := ⟨some 23, _, _, _, _, _⟩) (by kernel_rfl) (by kernel_rfl) rfl (fun K hK => ?_)
      go_simp
      refine hK.out _ _ ?_
      clear hK K
      try simp only [Act.put, List.setIfInBounds_toArray, List.set_cons_zero, List.set_cons_succ]
      refine wpAnyT_tail (i := 18) (o := ⟨none, _, _, _, _, _⟩) (by kernel_rfl) (by kernel_rfl) rfl (fun K hK => ?_)
      have cv1 := HT15.out.blk.cell 1
      have fz1 := HT15.out.blk.frozen 1
      go_simp
      have HT19 := Lib.hid (HT15.out.set 1 (.slice B8 (n + 1) d8))
      refine hK.out _ _ ?_
      clear hK K
      try simp only [Act.put, List.setIfInBounds_toArray, List.set_cons_zero, List.set_cons_succ]
      refine wpAnyT_tail (i := 19) (o := ⟨some 24, _, _, _, _, _⟩) (by kernel_rfl) (by kernel_rfl) rfl (fun K hK => ?_)
      go_simp
      refine hK.out _ _ ?_
      clear hK K
      try simp only [Act.put, List.setIfInBounds_toArray, List.set_cons_zero, List.set_cons_succ]
      refine wpAnyT_tail (i := 20) (o := ⟨some 25, _, _, _, _, _⟩) (by kernel_rfl) (by kernel_rfl) rfl (fun K hK => ?_)
      go_simp
      refine hK.out _ _ ?_
      clear hK K
      try simp only [Act.put, List.setIfInBounds_toArray, List.set_cons_zero, List.set_cons_succ]
      refine wpAnyT_tail (i := 21) (o := ⟨none, _, _, _, _, _⟩) (by kernel_rfl) (by kernel_rfl) rfl (fun K hK => ?_)
      have cv2 := HT19.out.blk.cell 2
      have fz2 := HT19.out.blk.frozen 2
      go_simp
      refine hK.out _ _ ?_
      clear hK K
      try simp only [Act.put, List.setIfInBounds_toArray, List.set_cons_zero, List.set_cons_succ]
      refine wpAnyT_done (by kernel_rfl) ?_
      go_end0
      exact add_end HH.out HN.out HT.out hS15 HT15.out hB8 hA15
  · go_simp
    refine gen_KA (fun V => Keeps (fun _ => False) w.drew V ∧ Blk V w.drew.heap.size 54 [.iface T y]) ⟨(Keeps.refl _ _).alloc _, Blk.new _ _ _⟩ ?_
    rintro v14 ⟨k14, b14⟩
    have h14 := hHeld.trans k14 (fun _ _ h => h.elim)
    refine hK.out _ _ h14 (fun hHeld => ?_)
    clear hK K
    try simp only [Act.put, List.setIfInBounds_toArray, List.set_cons_zero, List.set_cons_succ]
    refine wpAnyT_step (i := 7) (o := ⟨some 13, _, _, _, _, _⟩) (by kernel_rfl) rfl (fun K hK => ?_)
    go_simp
    refine gen_KA (fun V => Keeps (fun _ => False) v14 V ∧ Blk V v14.heap.size 9 [.string ky]) ⟨(Keeps.refl _ _).alloc _, Blk.new _ _ _⟩ ?_
    rintro v14_7 ⟨k14_7, b7⟩
    replace b14 := k14_7.blk b14 (fun h => h)
    have h14_7 := hHeld.trans k14_7 (fun _ _ h => h.elim)
    refine hK.out _ _ h14_7 (fun hHeld => ?_)
    clear hK K
    try simp only [Act.put, List.setIfInBounds_toArray, List.set_cons_zero, List.set_cons_succ]
    refine wpAnyT_step (i := 8) (o := ⟨some 14, _, _, _, _, _⟩) (by kernel_rfl) rfl (fun K hK => ?_)
    refine step_append_own rfl (.tmp 11) (.tmp 13) 27 rfl 9 (.string .empty) 1 16 Tryz.underlying27 (by kernel_rfl) rfl (by decide) B n d _ rfl (HT0.out.keep ((((Keeps.refl (fun _ => False) w).drew).trans k14 (fun _ _ h => h)).trans k14_7 (fun _ _ h => h))).two.a.1 ⟨v14.heap.size, 0, none⟩ 1 1 [.string ky] rfl rfl (fun j u hu => by rw [add_at, Nat.zero_add, b7.cell]; exact hu) (by intro u hu; rw [List.mem_singleton.1 hu]; rfl) (by simp only [maxLen]; omega) (by omega) ?_
    intro B8 d8 v14_7_8 ho8 hg8 hb8
    have HT8 := Lib.hid ((HT0.out.keep ((((Keeps.refl (fun _ => False) w).drew).trans k14 (fun _ _ h => h)).trans k14_7 (fun _ _ h => h))).app ho8 hg8 hb8)
    have hB8 : ∀ g, (Value.slice B8 (n + 1) d8).ownBlock = some g → (Value.slice B n d).ownBlock = some g ∨ w.heap.size ≤ g := fun g e => hb8.elim (fun h1 => .inl (h1 ▸ e)) (fun h1 => .inr (by rw [h1] at e; injection e with e; rw [← e]; exact hHeld.size))
    replace b14 := (Keeps.of_grown hg8).blk b14 (fun e => by have h1 := HT0.out.two.a.own_lt e; have h2 := ((Keeps.refl (fun _ => False) w).drew).size; omega)
    have hS8 := hHeld.grown hg8 (fun g e => .inl (.inl e))
    refine hK.out _ _ hS8 (fun hHeld => ?_)
    clear hK K
    try simp only [Act.put, List.setIfInBounds_toArray, List.set_cons_zero, List.set_cons_succ]
    refine wpAnyT_step (i := 15) (o := ⟨some 21, _, _, _, _, _⟩) (by kernel_rfl) rfl (fun K hK => ?_)
    refine step_append_own rfl (.tmp 18) (.tmp 20) 86 rfl 54 .nilIface 1 16 Tryz.underlying86 infoThing rfl (by decide) A n c _ rfl (HT8.out.swap.keep (Keeps.refl (fun _ => False) _)).two.a.1 ⟨w.drew.heap.size, 0, none⟩ 1 1 [.iface T y] rfl rfl (fun j u hu => by rw [add_at, Nat.zero_add, b14.cell]; exact hu) (by intro u hu; rw [List.mem_singleton.1 hu]; rfl) (by simp only [maxLen]; omega) (by omega) ?_
    intro A15 c15 v15 ho15 hg15 hb15
    have HT15 := Lib.hid (((HT8.out.swap.keep (Keeps.refl (fun _ => False) _)).app ho15 hg15 hb15).swap)
    have hA15 : ∀ g, (Value.slice A15 (n + 1) c15).ownBlock = some g → (Value.slice A n c).ownBlock = some g ∨ w.heap.size ≤ g := fun g e => hb15.elim (fun h1 => .inl (h1 ▸ e)) (fun h1 => .inr (by rw [h1] at e; injection e with e; rw [← e]; exact hHeld.size))
    have hS15 := hHeld.grown hg15 (fun g e => .inl (.inr e))
    refine hK.out _ _ hS15 (fun hHeld => ?_)
    clear hK K
    try simp only [Act.put, List.setIfInBounds_toArray, List.set_cons_zero, List.set_cons_succ]
    refine wpAnyT_tail (i := 16) (o := ⟨some 22, _, _, _, _, _⟩) (by kernel_rfl) (by kernel_rfl) rfl (fun K hK => ?_)
    go_simp
    refine hK.out _ _ ?_
    clear hK K
    try simp only [Act.put, List.setIfInBounds_toArray, List.set_cons_zero, List.set_cons_succ]
    refine wpAnyT_tail (i := 17) (o := ⟨some 23, _, _, _, _, _⟩) (by kernel_rfl) (by kernel_rfl) rfl (fun K hK => ?_)
    go_simp
    refine hK.out _ _ ?_
    clear hK K
    try simp only [Act.put, List.setIfInBounds_toArray, List.set_cons_zero, List.set_cons_succ]
    refine wpAnyT_tail (i := 18) (o := ⟨none, _, _, _, _, _⟩) (by kernel_rfl) (by kernel_rfl) rfl (fun K hK => ?_)
    have cv1 := HT15.out.blk.cell 1
    have fz1 := HT15.out.blk.frozen 1
    go_simp
    have HT19 := Lib.hid (HT15.out.set 1 (.slice B8 (n + 1) d8))
    refine hK.out _ _ ?_
    clear hK K
    try simp only [Act.put, List.setIfInBounds_toArray, List.set_cons_zero, List.set_cons_succ]
    refine wpAnyT_tail (i := 19) (o := ⟨some 24, _, _, _, _, _⟩) (by kernel_rfl) (by kernel_rfl) rfl (fun K hK => ?_)
    go_simp
    refine hK.out _ _ ?_
    clear hK K
    try simp only [Act.put, List.setIfInBounds_toArray, List.set_cons_zero, List.set_cons_succ]
    refine wpAnyT_tail (i := 20) (o := ⟨some 25, _, _, _, _, _⟩) (by kernel_rfl) (by kernel_rfl) rfl (fun K hK => ?_)
    go_simp
    refine hK.out _ _ ?_
    clear hK K
    try simp only [Act.put, List.setIfInBounds_toArray, List.set_cons_zero, List.set_cons_succ]
    refine wpAnyT_tail (i := 21) (o := ⟨none, _, _, _, _, _⟩) (by kernel_rfl) (by kernel_rfl) rfl (fun K hK => ?_)
    have cv2 := HT19.out.blk.cell 2
    have fz2 := HT19.out.blk.frozen 2
    go_simp
    refine hK.out _ _ ?_
    clear hK K
    try simp only [Act.put, List.setIfInBounds_toArray, List.set_cons_zero, List.set_cons_succ]
    refine wpAnyT_done (by kernel_rfl) ?_
    go_end0
    exact add_end HH.out HN.out HT.out hS15 HT15.out hB8 hA15
end Go.Proofs.YtdmcioghdindfaaGreat
