/- Texts. -/
import Derived.Test.YtdmcioghdindfaaGreatDoorL26
import Derived.Test.YtdmcioghdindfaaGreatDoorL23
set_option linter.unusedSimpArgs false
set_option maxRecDepth 100000
set_option maxHeartbeats 4000000
namespace Go.Proofs.YtdmcioghdindfaaGreatDoor
open Go Go.RowKit Go.Aff Go.Json Go.Rng Go.Shelf
attribute [local go_sem] Oper.semAt_some
def OfPostR (D : Nat → Prop) (w : World) (j : JV) (e : Ending) (w' : World) : Prop := ∃ t, e = .returned t ∧ TAtR (fun i => D i ∨ w.heap.size ≤ i) w' t j ∧ Keeps (fun _ => False) w w'
def OfPost (D : Nat → Prop) (w : World) (j : JV) (e : Ending) (w' : World) : Prop := ∃ t, e = .returned t ∧ TAt (fun i => D i ∨ w.heap.size ≤ i) w' t j ∧ Keeps (fun _ => False) w w'
theorem of_whole {D : Nat → Prop} (w : World) (v : Value) (j : JV) (hj : JAt D w v j) (hs : j.sort ≠ 6) : Calls Tryz.prog 37 #[.agg #[v]] w (OfPostR D w j) := by
 obtain ⟨T, y, hv⟩ := hj.iface
 subst hv
 have hkw : Keeps (fun _ => False) w (w.alloc (.cells #[.iface T y] 81)) := (Keeps.refl (fun _ => False) w).alloc _
 have HKW := H_ hkw
 have HB0 := H_ (Blk.new w 81 [.iface T y])
 have c0 := HB0.out.cell 0
 have HSO : Hid (∀ W, Calls Tryz.prog 66 #[.agg #[.iface T y]] W fun e w' => e = .returned (.int .i64 j.sort) ∧ Keeps (fun _ => False) W w') := H_ fun W => refsort_any hj W
 have hne : (j.sort != 6) = true := by simpa using hs
 have HJ := H_ (And.intro hj hs)
 clear hj hs hkw
 go_enter Tryz.func37, Tryz.ntmps37
 go_wp2_with (go_at_call 66; refine (HSO.out _).mono ?_; rintro e w2 ⟨rfl, hk2⟩; have c2 := (hk2.blk HB0.out (fun h => h)).cell 0; have HK2 := H_ hk2; clear hk2)
 go_ret
 have hall := HKW.out.trans HK2.out (fun _ _ h => h)
 exact ⟨_, rfl, .whole ((HJ.out.1.stay hall).mono fun i hi _ => .inl hi) HJ.out.2, hall⟩
def Dt (D : Nat → Prop) (w : World) (b : Nat) (B : Value) (A : Value) (k : Nat) : Prop := ((D k ∧ k < w.heap.size) ∨ w.heap.size ≤ k) ∧ k ≠ b ∧ B.ownBlock ≠ some k ∧ A.ownBlock ≠ some k
structure OfS (D : Nat → Prop) (w w2 w5 : World) (b : Nat) (v : Value) (ks : List ByteArray) (l : List JV) (pre : List (Fin (JV.obj ks l).items.length)) (W : World) (B : Option Addr) (d : Nat) (A : Option Addr) (c : Nat) (vals : List Value) : Prop where
 keep : Keeps (fun i => i = b) w5 W
 two : BoxTwo w2 W b 84 [v, .slice B pre.length d, .slice A pre.length c] 9 1 B pre.length d ((pre.map fun i => keyAt (.obj ks l) i.val).map .string) 71 1 A pre.length c vals
 hiB : ∀ g, (Value.slice B pre.length d).ownBlock = some g → w5.heap.size ≤ g
 hiA : ∀ g, (Value.slice A pre.length c).ownBlock = some g → w5.heap.size ≤ g
 at_ : ∀ (q : Nat) (val : Value) (i : Fin (JV.obj ks l).items.length) (x : JV), vals[q]? = some val → pre[q]? = some i → l[i.val]? = some x → TAtR (Dt D w b (.slice B pre.length d) (.slice A pre.length c)) W val x
def OfI (D : Nat → Prop) (w w2 w5 : World) (b : Nat) (v : Value) (ks : List ByteArray) (l : List JV) (pre : List (Fin (JV.obj ks l).items.length)) (W : World) : Prop := ∃ B d A c vals, OfS D w w2 w5 b v ks l pre W B d A c vals
theorem OfI.ck {D : Nat → Prop} {w w2 w5 W W' : World} {b m : Nat} {v : Value} {ks : List ByteArray} {l : List JV} {pre : List (Fin (JV.obj ks l).items.length)} (h : OfI D w w2 w5 b v ks l pre W) (k : CK m W W') (h2 : w2.heap.size ≤ m) (h5 : w5.heap.size ≤ m) : OfI D w w2 w5 b v ks l pre W' := by
 obtain ⟨B, d, A, c, vals, hh⟩ := h
 exact ⟨B, d, A, c, vals, k.keeps hh.keep h5, boxTwo_ck hh.two k h2, hh.hiB, hh.hiA, fun q val i x h1 h2 h3 => (hh.at_ q val i x h1 h2 h3).ck k⟩
theorem OfI.stay {D : Nat → Prop} {w w2 w5 W W' : World} {b : Nat} {v : Value} {ks : List ByteArray} {l : List JV} {pre : List (Fin (JV.obj ks l).items.length)} (h : OfI D w w2 w5 b v ks l pre W) (k : Keeps (fun _ => False) W W') : OfI D w w2 w5 b v ks l pre W' := by
 obtain ⟨B, d, A, c, vals, hh⟩ := h
 exact ⟨B, d, A, c, vals, hh.keep.trans k (fun _ _ h => h.elim), hh.two.keep k, hh.hiB, hh.hiA, fun q val i x h1 h2 h3 => (hh.at_ q val i x h1 h2 h3).stay k⟩
theorem of_obj {D : Nat → Prop} (w : World) (v : Value) (ks : List ByteArray) (l : List JV) (hj : JAt D w v (.obj ks l)) (hkl : ks.length = l.length) (hn : l.length ≤ 1048576)
  (ih : ∀ (D : Nat → Prop) x, x ∈ l → ∀ (W : World) (u : Value), JAt D W u x → Calls Tryz.prog 37 #[.agg #[u]] W (OfPostR D W x)) : Calls Tryz.prog 37 #[.agg #[v]] w (OfPostR D w (.obj ks l)) := by
 have hdd : ∀ k : Nat, (Fence.wide.depth.isSome = true → 1 ≤ k) := fun k h => by cases h
 obtain ⟨T, y, hv⟩ := hj.iface
 subst hv
 have hkw : Keeps (fun _ => False) w (w.alloc (.cells #[.iface T y] 81)) := (Keeps.refl (fun _ => False) w).alloc _
 have HKW := H_ hkw
 have HB0 := H_ (Blk.new w 81 [.iface T y])
 have c0 := HB0.out.cell 0
 have HSO : Hid (∀ W, Calls Tryz.prog 66 #[.agg #[.iface T y]] W fun e w' => e = .returned (.int .i64 6) ∧ Keeps (fun _ => False) W w') := H_ fun W => refsort_any hj W
 have HALL : Hid (∀ W, Calls Tryz.prog 67 #[.agg #[.iface T y]] W fun e w' => e = .returned (.func (.func 107) #[] #[.pointer (some ⟨W.heap.size, 0, none⟩)]) ∧ w' = W.alloc (.cells #[.iface T y] 81)) := H_ fun W => refall_any W T y
 have HJ := H_ hj
 have HIH := H_ ih
 clear hj ih hkw
 refine (callsIn_wide (n := 8)).1 ?_
 refine callsIn_of_wp_marks Tryz.func37 rfl trivial ?_ rfl
 simp only [Tryz.ntmps37, List.size_toArray, List.length_cons, List.length_nil, Nat.reduceAdd, Nat.reduceSub, Array.replicate_succ, Array.replicate_zero, List.push_toArray, List.append_toArray, List.nil_append, List.cons_append]
 gi_wp2_with (first
  | ((try refine ⟨trivial, ?_⟩); (try refine ⟨hdd _, ?_⟩); gi_at_call 66; refine (callsIn_wide.2 (HSO.out _)).mono ?_; rintro e w2 ⟨rfl, hk2⟩; have c2 := (hk2.blk HB0.out (fun h => h)).cell 0; have c3 := (((hk2.blk HB0.out (fun h => h)).alloc (.cells #[.iface T y, .slice none 0 0, .slice none 0 0] 84)).alloc (.cells #[.pointer (some ⟨w2.heap.size, 0, none⟩)] 73)).cell 0; have HK2 := H_ hk2; clear hk2)
  | ((try refine ⟨trivial, ?_⟩); (try refine ⟨hdd _, ?_⟩); gi_at_call 67; refine (callsIn_wide.2 (HALL.out _)).mono ?_; rintro e w5 ⟨rfl, hw5⟩; have HW5 := H_ hw5; clear hw5))
 obtain ⟨b, hb⟩ : ∃ b, b = w2.heap.size := ⟨_, rfl⟩
 have hw5 := HW5.out
 rw [← hb] at hw5
 have k25 : Keeps (fun _ => False) w2 w5 := by rw [hw5]; exact (((Keeps.refl _ w2).alloc _).alloc _).alloc _
 have kw5 : Keeps (fun _ => False) w w5 := (HKW.out.trans HK2.out (fun _ _ h => h)).trans k25 (fun _ _ h => h)
 have hsz : w5.heap.size = b + 3 := by rw [hw5, hb]; simp
 have hwb : w.heap.size < b := by
  have h1 := HB0.out.lt
  have h2 := HK2.out.size
  omega
 have bt : BoxTwo w2 w5 b 84 [.iface T y, .slice none 0 0, .slice none 0 0] 9 1 none 0 0 [] 71 1 none 0 0 [] := by
  have h1 := BoxTwo.start w2 84 9 71 1 1 (Keeps.refl _ w2) [.iface T y, .slice none 0 0, .slice none 0 0]
  rw [hw5, hb]
  exact (h1.keep ((Keeps.refl _ _).alloc _)).keep ((Keeps.refl _ _).alloc _)
 have bp : Blk w5 (b + 1) 73 [.pointer (some ⟨b, 0, none⟩)] := by
  have h1 := Blk.new (w2.alloc (.cells #[.iface T y, .slice none 0 0, .slice none 0 0] 84)) 73 [.pointer (some ⟨b, 0, none⟩)]
  rw [World.size_alloc, ← hb] at h1
  rw [hw5]
  exact h1.alloc _
 have bx : Blk w5 (b + 1 + 1) 81 [.iface T y] := by
  have h1 := Blk.new ((w2.alloc (.cells #[.iface T y, .slice none 0 0, .slice none 0 0] 84)).alloc (.cells #[.pointer (some ⟨b, 0, none⟩)] 73)) 81 [.iface T y]
  rw [World.size_alloc, World.size_alloc, ← hb] at h1
  rw [hw5]
  exact h1
 have hj5 : JAt (fun i => D i ∧ i < w.heap.size) w5 (.iface T y) (.obj ks l) := (HJ.out.mono (C := fun i => D i ∧ i < w.heap.size) fun i h1 h2 => ⟨h1, h2⟩).stay kw5
 obtain ⟨Ai, vs, hit, hseq⟩ := all_next 7 (fun i => i = b ∨ w5.heap.size ≤ i) w5 (b + 1 + 1) (.iface T y) (.obj ks l) bx (by omega) hj5 (fun i hi e => by have := hi.2; omega) (fun i hi => .inr hi) (by show l.length ≤ _; omega)
 have hI0 : OfI D w w2 w5 b (.iface T y) ks l [] w5 := ⟨none, 0, none, 0, [], Keeps.refl _ _, bt, fun g h => (by cases h), fun g h => (by cases h), fun q val i x h => by simp at h⟩
 rw [← hb]
 have HW := H_ (And.intro kw5 (And.intro hsz (And.intro hwb (And.intro k25 hb))))
 have HBP := H_ bp
 have HIT := H_ hit
 clear hw5 HW5 c0 c2 c3 bt bx hb kw5 hsz hwb k25 bp hj5 HSO HALL
 refine wpIn_rangeFunc_ownH rfl (by omega) (gf := 107) (lb := #[.pointer (some ⟨b + 1 + 1, 0, none⟩)]) rfl trivial (enters_of Tryz.func107 (by kernel_rfl) rfl)
  (hseq.stops (N := (JV.obj ks l).items.length) fun pre x h => by rw [← h]; exact x.isLt) (fun h k => h.trans k (fun _ _ h => h)) (fun W l' o o' h1 h2 h3 _ => keeps_put W l' o' (.inr h1)) (Below.refl _ _) (fun _ => rfl)
  (OfI D w w2 w5 b (.iface T y) ks l) (fun _ _ _ => False) (ownFrom_cells _ _ fun pre W W' h k => h.ck k (by have := HW.out.2.2.2.1.size; omega) (Nat.le_refl _)) (fun _ _ _ _ _ h _ _ => h) hI0
  (fun x a' W => ∃ p5, a' = { tmps := #[.agg #[.iface T y], .pointer (some ⟨w.heap.size, 0, none⟩), .nilIface, .pointer (some ⟨b + 1, 0, none⟩), .string (keyAt (.obj ks l) x.val), .pointer (some ⟨p5, 0, none⟩), .agg #[.iface T y], .int .i64 6, .bool false, undef, undef, undef, .agg #[.iface T y], .agg #[.iface T y, .slice none 0 0, .slice none 0 0], .pointer (some ⟨b, 0, none⟩), .agg #[.iface T y], .func (.func 107) #[] #[.pointer (some ⟨b + 1 + 1, 0, none⟩)], .string (keyAt (.obj ks l) x.val), .agg #[vs.getD x.val .nilIface], undef, undef, undef, undef, undef, undef, undef, undef, undef, undef, undef, undef, undef, undef, undef, undef, undef, undef, undef, undef, undef, undef, undef], defers := [] } ∧ Blk W p5 81 [vs.getD x.val .nilIface] ∧ b < p5)
  (fun x a' => ownFrom_cells _ _ fun _ W W' h k => by obtain ⟨p5, h1, h2, h3⟩ := h; exact ⟨p5, h1, k.blk h2, h3⟩) ?assign ?body ?done ?stop
 case assign =>
  intro l' pre x W K hI hK
  obtain ⟨u0, hu0⟩ : ∃ u0, vs[x.val]? = some u0 := ⟨_, List.getElem?_eq_getElem (by rw [HIT.out.rd.1]; exact x.isLt)⟩
  obtain ⟨x0, hx0⟩ : ∃ x0, (JV.obj ks l).items[x.val]? = some x0 := ⟨_, List.getElem?_eq_getElem x.isLt⟩
  obtain ⟨T2, y2, hu⟩ := (HIT.out.at_ _ _ _ hu0 hx0).iface
  have hgd : vs.getD x.val .nilIface = .iface T2 y2 := by rw [List.getD_eq_getElem?_getD, hu0, hu]; rfl
  obtain ⟨ky, hky⟩ : ∃ ky, ky = keyAt (.obj ks l) x.val := ⟨_, rfl⟩
  simp only [encA]
  rw [hgd, ← hky] at hK ⊢
  have HKK := H_ hK
  have HII := H_ hI
  have hz := Blk.new W 81 [.nilIface]
  have f0 := hz.frozen 0
  clear hK hI hu0 hx0 hu hgd hky hz
  gi_wp2
  have hka : Keeps (fun _ => False) W (W.alloc (.cells #[.iface T2 y2] 81)) := (Keeps.refl _ W).alloc _
  have hbW : b < W.heap.size := by
   obtain ⟨B, d, A, c, vals, hh⟩ := HII.out
   exact hh.two.blk.lt
  exact HKK.out _ _ (keepsFrom_of _ hka (fun i hi => hi.elim)) (hka.mono (fun _ _ h => h.elim)) (HII.out.stay hka) ⟨W.heap.size, rfl, Blk.new W 81 [.iface T2 y2], hbW⟩
 case body =>
  rintro l' pre x a' W hl' hloop ⟨B, d, A, c, vals, hh⟩ ⟨p5, rfl, hb5, hbp5⟩ hlen
  obtain ⟨u0, hu0⟩ : ∃ u0, vs[x.val]? = some u0 := ⟨_, List.getElem?_eq_getElem (by rw [HIT.out.rd.1]; exact x.isLt)⟩
  obtain ⟨x0, hx0⟩ : ∃ x0, (JV.obj ks l).items[x.val]? = some x0 := ⟨_, List.getElem?_eq_getElem x.isLt⟩
  obtain ⟨T2, y2, hu⟩ := (HIT.out.at_ _ _ _ hu0 hx0).iface
  have hgd : vs.getD x.val .nilIface = .iface T2 y2 := by rw [List.getD_eq_getElem?_getD, hu0, hu]; rfl
  obtain ⟨ky, hky⟩ : ∃ ky, ky = keyAt (.obj ks l) x.val := ⟨_, rfl⟩
  obtain ⟨n, hnn⟩ : ∃ n, n = pre.length := ⟨_, rfl⟩
  have hw := HW.out
  have hju : JAt (fun i => D i ∧ i < w.heap.size) W (.iface T2 y2) x0 := by
   have h1 := HIT.out.at_ _ _ _ hu0 hx0
   rw [hu] at h1
   exact h1.keep hh.keep (fun i hi e => by have := hi.2; have := hw.2.2.1; omega)
  have HOF : Hid (∀ W2, Keeps (fun i => (Value.slice B n d).ownBlock = some i ∨ (Value.slice A n c).ownBlock = some i) W W2 → Calls Tryz.prog 37 #[.agg #[.iface T2 y2]] W2 (OfPostR (fun i => D i ∧ i < w.heap.size) W2 x0)) := H_ fun W2 hW2 => by
   refine HIH.out _ x0 (List.mem_of_getElem? hx0) W2 _ (hju.keep hW2 (fun i hi e => ?_))
   have h1 := hi.2
   have h2 := hw.2.1
   have h3 := hw.2.2.1
   rcases e with e | e
   ·have := hh.hiB i (by rw [← hnn]; exact e); omega
   have := hh.hiA i (by rw [← hnn]; exact e); omega
  unfold OfPostR at HOF
  have hbp : Blk W (b + 1) 73 [.pointer (some ⟨b, 0, none⟩)] := hh.keep.blk HBP.out (by omega)
  have hnr : ∀ p T' cs, Blk W p T' cs → 9 ≠ T' → 71 ≠ T' → ¬ ((Value.slice B n d).ownBlock = some p ∨ (Value.slice A n c).ownBlock = some p) := fun p T' cs hb h1 h2 e => by
   rcases e with e | e
   ·exact own_blk hh.two.two.a.1 hb h1 (by rw [← hnn]; exact e)
   exact own_blk hh.two.two.b.1 hb h2 (by rw [← hnn]; exact e)
  have HSR : ∀ V, Keeps (fun i => (Value.slice B n d).ownBlock = some i ∨ (Value.slice A n c).ownBlock = some i) W V → Blk V (b + 1) 73 [.pointer (some ⟨b, 0, none⟩)] := fun V hV => hV.blk hbp (hnr _ _ _ hbp (by decide) (by decide))
  have HCE : Hid (∀ V, Keeps (fun i => (Value.slice B n d).ownBlock = some i ∨ (Value.slice A n c).ownBlock = some i) W V → V.cell? ⟨b, 1, none⟩ = some (.slice B n d) ∧ V.cell? ⟨b, 2, none⟩ = some (.slice A n c) ∧ V.cell? ⟨p5, 0, none⟩ = some (.iface T2 y2)) := H_ fun V hV => by
   have h1 := hV.blk hh.two.blk (hnr _ _ _ hh.two.blk (by decide) (by decide))
   have h2 := hV.blk hb5 (hnr _ _ _ hb5 (by decide) (by decide))
   rw [hgd] at h2
   rw [← hnn] at h1
   exact ⟨h1.cell 1, h1.cell 2, h2.cell 0⟩
  have hnb : n ≤ 1048576 := by
   have : (JV.obj ks l).items.length = l.length := rfl
   omega
  have HHH := H_ hh
  have HN := H_ hnn
  have HX := H_ (And.intro hu0 (And.intro hx0 (And.intro hu (And.intro hgd hky))))
  have HT0 : Hid (BoxTwo w2 W b 84 [.iface T y, .slice B n d, .slice A n c] 9 1 B n d ((pre.map fun i => keyAt (.obj ks l) i.val).map .string) 71 1 A n c vals) := H_ (by rw [hnn]; exact hh.two)
  rw [← hky, hgd]
  have HSRH := H_ HSR
  clear hu0 hx0 hu hgd hky hju hbp hnr hh hb5 hnn hw hl' hloop HSR hlen
  refine wpIn_block ?_
  refine wpIn_round_tail2 (S := (fun V => Keeps (fun i => (Value.slice B n d).ownBlock = some i ∨ (Value.slice A n c).ownBlock = some i) W V)) (R := (fun V => Blk V (b + 1) 73 [.pointer (some ⟨b, 0, none⟩)])) 17 (by rintro ⟨_, _, h⟩; exact h) (by kernel_rfl) (by kernel_rfl) (Keeps.refl _ _).drew (fun h_ => ?_)
  refine wpAnyV_takeR (i := 0) (oi := ⟨some 19, _, _, _, _, _⟩) (v := ?_) rfl (by kernel_rfl) (by kernel_rfl) (by kernel_rfl) (fun _ _ _ h => h) (Or.inl ⟨by rfl, ?_⟩) (HSRH.out _ h_) ?_
  rotate_left
  ·intro w' hSw
   have cv := hSw.cell 0
   go_simp
   first | done | rfl
  try simp only [pu]
  refine wpAnyV_takeR (i := 1) (oi := ⟨some 20, _, _, _, _, _⟩) (v := ?_) rfl (by kernel_rfl) (by kernel_rfl) (by kernel_rfl) (fun _ _ _ h => h) (Or.inl ⟨by rfl, ?_⟩) (HSRH.out _ h_) ?_
  rotate_left
  ·intro w' hSw
   have cv := hSw.cell 0
   go_simp
   first | done | rfl
  try simp only [pu]
  refine wpAnyV_takeR (i := 2) (oi := ⟨some 21, _, _, _, _, _⟩) (v := ?_) rfl (by kernel_rfl) (by kernel_rfl) (by kernel_rfl) (fun _ _ _ h => h) (Or.inl ⟨by rfl, ?_⟩) (HSRH.out _ h_) ?_
  rotate_left
  ·intro w' hSw
   have cv := hSw.cell 0
   go_simp
   first | done | rfl
  try simp only [pu]
  refine wpAnyV_pure (i := 3) (oi := ⟨some 22, _, _, _, _, _⟩) (v := ?_) rfl (by kernel_rfl) (by kernel_rfl) (by kernel_rfl) (fun _ _ _ h => h) (Or.inl ⟨by rfl, ?_⟩) ?_
  rotate_left
  ·intro w' hSw
   go_simp
   first | done | rfl
  try simp only [pu]
  refine wpAnyV_pure (i := 4) (oi := ⟨some 23, _, _, _, _, _⟩) (v := ?_) rfl (by kernel_rfl) (by kernel_rfl) (by kernel_rfl) (fun _ _ _ h => h) (Or.inl ⟨by rfl, ?_⟩) ?_
  rotate_left
  ·intro w' hSw
   go_simp
   first | done | rfl
  try simp only [pu]
  refine wpAnyV_take [5] (i := 5) (oi := ⟨some 24, _, _, _, _, _⟩) (v := ?_) rfl (by kernel_rfl) (by kernel_rfl) (by kernel_rfl) (by kernel_rfl) (by kernel_rfl) (fun _ _ _ h => h) (Or.inl ⟨by rfl, ?_⟩) h_ ?_
  rotate_left
  ·intro w' hSw
   have cv := (HCE.out _ hSw).1
   go_simp
   first | done | rfl
  try simp only [pu]
  refine wpAnyV_pure (i := 6) (oi := ⟨some 25, _, _, _, _, _⟩) (v := ?_) rfl (by kernel_rfl) (by kernel_rfl) (by kernel_rfl) (fun _ _ _ h => h) (Or.inl ⟨by rfl, ?_⟩) ?_
  rotate_left
  ·intro w' hSw
   go_simp
   first | done | rfl
  try simp only [pu]
  refine wpAnyV_takeR (i := 9) (oi := ⟨some 28, _, _, _, _, _⟩) (v := ?_) rfl (by kernel_rfl) (by kernel_rfl) (by kernel_rfl) (fun _ _ _ h => h) (Or.inl ⟨by rfl, ?_⟩) (HSRH.out _ h_) ?_
  rotate_left
  ·intro w' hSw
   have cv := hSw.cell 0
   go_simp
   first | done | rfl
  try simp only [pu]
  refine wpAnyV_pure (i := 10) (oi := ⟨some 29, _, _, _, _, _⟩) (v := ?_) rfl (by kernel_rfl) (by kernel_rfl) (by kernel_rfl) (fun _ _ _ h => h) (Or.inl ⟨by rfl, ?_⟩) ?_
  rotate_left
  ·intro w' hSw
   go_simp
   first | done | rfl
  try simp only [pu]
  refine wpAnyV_pure (i := 11) (oi := ⟨some 30, _, _, _, _, _⟩) (v := ?_) rfl (by kernel_rfl) (by kernel_rfl) (by kernel_rfl) (fun _ _ _ h => h) (Or.inl ⟨by rfl, ?_⟩) ?_
  rotate_left
  ·intro w' hSw
   go_simp
   first | done | rfl
  try simp only [pu]
  refine wpAnyV_take [12] (i := 12) (oi := ⟨some 31, _, _, _, _, _⟩) (v := ?_) rfl (by kernel_rfl) (by kernel_rfl) (by kernel_rfl) (by kernel_rfl) (by kernel_rfl) (fun _ _ _ h => h) (Or.inl ⟨by rfl, ?_⟩) h_ ?_
  rotate_left
  ·intro w' hSw
   have cv := (HCE.out _ hSw).2.1
   go_simp
   first | done | rfl
  try simp only [pu]
  refine wpAnyV_take [13, 14] (i := 13) (oi := ⟨some 32, _, _, _, _, _⟩) (v := ?_) rfl (by kernel_rfl) (by kernel_rfl) (by kernel_rfl) (by kernel_rfl) (by kernel_rfl) (fun _ _ _ h => h) (Or.inl ⟨by rfl, ?_⟩) h_ ?_
  rotate_left
  ·intro w' hSw
   have cv := (HCE.out _ hSw).2.2
   go_simp
   first | done | rfl
  try simp only [pu]
  refine wpAnyV_step HSRH.out (i := 7) (o := ⟨some 26, _, _, _, _, _⟩) (by kernel_rfl) rfl (fun K hK => ?_)
  go_simp
  refine hK.out _ _ (h_.alloc _) (fun h_ => ?_)
  clear hK K
  try simp only [pu]
  refine wpAnyV_step HSRH.out (i := 8) (o := ⟨some 27, _, _, _, _, _⟩) (by kernel_rfl) rfl (fun K hK => ?_)
  refine step_append_own rfl (.tmp 24) (.tmp 26) 29 rfl 9 (.string .empty) 1 16 Tryz.underlying29 (by kernel_rfl) rfl (by decide) B n d _ rfl (HT0.out.keep (((Keeps.refl _ W).drew).alloc _)).two.a.1 ⟨W.drew.heap.size, 0, none⟩ 1 1 [.string ky] rfl rfl (cell_one_new _ _ _) (by intro u hu; rw [List.mem_singleton.1 hu]; rfl) (by simp only [maxLen]; omega) (by omega) ?_
  intro B8 d8 w8 ho8 hg8 hb8
  have HT8 := H_ ((HT0.out.keep (((Keeps.refl _ W).drew).alloc _)).app ho8 hg8 hb8)
  have hS8 := h_.grown hg8 (fun g e => .inl (.inl e))
  refine hK.out _ _ hS8 (fun h_ => ?_)
  clear hK K
  try simp only [pu]
  refine wpAnyV_step HSRH.out (i := 14) (o := ⟨some 33, _, _, _, _, _⟩) (by kernel_rfl) rfl (fun K hK => ?_)
  go_simp
  refine (HOF.out _ h_).mono ?_
  rintro e w9 ⟨t9, rfl, ht9, hk9⟩
  have HT9 := H_ (HT8.out.keep hk9)
  obtain ⟨T9, y9, ht9e⟩ := ht9.iface
  subst ht9e
  have HTT9 := H_ (And.intro ht9 hk9)
  have hS9 := h_.trans hk9 (fun _ _ h => h.elim)
  refine hK.out _ _ hS9 (fun h_ => ?_)
  clear hK K
  try simp only [pu]
  refine wpAnyV_step HSRH.out (i := 15) (o := ⟨some 34, _, _, _, _, _⟩) (by kernel_rfl) rfl (fun K hK => ?_)
  go_simp
  refine hK.out _ _ (h_.alloc _) (fun h_ => ?_)
  clear hK K
  try simp only [pu]
  refine wpAnyV_step HSRH.out (i := 16) (o := ⟨some 35, _, _, _, _, _⟩) (by kernel_rfl) rfl (fun K hK => ?_)
  refine step_append_own rfl (.tmp 31) (.tmp 34) 82 rfl 71 .nilIface 1 16 Tryz.underlying82 infoThing rfl (by decide) A n c _ rfl (HT9.out.swap.keep ((Keeps.refl _ w9).alloc _)).two.a.1 ⟨w9.heap.size, 0, none⟩ 1 1 [.iface T9 y9] rfl rfl (cell_one_new _ _ _) (by intro u hu; rw [List.mem_singleton.1 hu]; rfl) (by simp only [maxLen]; omega) (by omega) ?_
  intro A10 c10 w10 ho10 hg10 hb10
  have HT10 := H_ (((HT9.out.swap.keep ((Keeps.refl _ w9).alloc _)).app ho10 hg10 hb10).swap)
  have hS10 := h_.grown hg10 (fun g e => .inl (.inr e))
  refine hK.out _ _ hS10 (fun h_ => ?_)
  clear hK K
  try simp only [pu]
  have hRH := HSRH.out _ h_
  refine wpAnyV_tail (i := 17) (o := ⟨some 36, _, _, _, _, _⟩) (by kernel_rfl) (by kernel_rfl) rfl (fun K hK => ?_)
  go_simp
  refine hK.out _ _ hRH (fun hRH => ?_)
  clear hK K
  try simp only [pu]
  refine wpAnyV_tail (i := 18) (o := ⟨some 37, _, _, _, _, _⟩) (by kernel_rfl) (by kernel_rfl) rfl (fun K hK => ?_)
  go_simp
  refine hK.out _ _ hRH (fun hRH => ?_)
  clear hK K
  try simp only [pu]
  refine wpAnyV_tail (i := 19) (o := ⟨none, _, _, _, _, _⟩) (by kernel_rfl) (by kernel_rfl) rfl (fun K hK => ?_)
  have cv1 := HT10.out.blk.cell 1
  have fz1 := HT10.out.blk.frozen 1
  go_simp
  have HT19 := H_ (HT10.out.set 1 (.slice B8 (n + 1) d8))
  have hR19 := hRH.far (p := ⟨b, 1, none⟩) (by show b + 1 ≠ b; omega) (.slice B8 (n + 1) d8)
  refine hK.out _ _ hR19 (fun hRH => ?_)
  clear hK K
  try simp only [pu]
  refine wpAnyV_tail (i := 20) (o := ⟨some 38, _, _, _, _, _⟩) (by kernel_rfl) (by kernel_rfl) rfl (fun K hK => ?_)
  go_simp
  refine hK.out _ _ hRH (fun hRH => ?_)
  clear hK K
  try simp only [pu]
  refine wpAnyV_tail (i := 21) (o := ⟨some 39, _, _, _, _, _⟩) (by kernel_rfl) (by kernel_rfl) rfl (fun K hK => ?_)
  go_simp
  refine hK.out _ _ hRH (fun hRH => ?_)
  clear hK K
  try simp only [pu]
  refine wpAnyV_tail (i := 22) (o := ⟨none, _, _, _, _, _⟩) (by kernel_rfl) (by kernel_rfl) rfl (fun K hK => ?_)
  have cv2 := HT19.out.blk.cell 2
  have fz2 := HT19.out.blk.frozen 2
  go_simp
  have HT22 := H_ (HT19.out.set 2 (.slice A10 (n + 1) c10))
  have hR22 := hRH.far (p := ⟨b, 2, none⟩) (by show b + 1 ≠ b; omega) (.slice A10 (n + 1) c10)
  refine hK.out _ _ hR22 (fun hRH => ?_)
  clear hK K
  try simp only [pu]
  refine wpAnyV_done (by kernel_rfl) ?_
  obtain ⟨w22, hw22⟩ : ∃ w22, w22 = (w10.setCell ⟨b, 1, none⟩ (.slice B8 (n + 1) d8)).setCell ⟨b, 2, none⟩ (.slice A10 (n + 1) c10) := ⟨_, rfl⟩
  have hT22 : BoxTwo w2 w22 b 84 [.iface T y, .slice B8 (n + 1) d8, .slice A10 (n + 1) c10] 9 1 B8 (n + 1) d8 ((pre.map fun i => keyAt (.obj ks l) i.val).map .string ++ [.string ky]) 71 1 A10 (n + 1) c10 (vals ++ [.iface T9 y9]) := by
   rw [hw22]; exact HT22.out
  have kset : Keeps (fun i => i = b) w10 w22 := by
   rw [hw22]
   exact ((Keeps.refl (fun i => i = b) w10).setCell (p := ⟨b, 1, none⟩) (.inl rfl) _).setCell (p := ⟨b, 2, none⟩) (.inl rfl) _
  rw [← hw22]
  have kF : Keeps (fun i => i = b ∨ (Value.slice B n d).ownBlock = some i ∨ (Value.slice A n c).ownBlock = some i) W w22 := (hS10.mono (fun _ _ h => .inr h)).trans kset (fun _ _ e => .inl e)
  have hw := HW.out
  have hbW := HHH.out.two.blk.lt
  have h28 : W.heap.size ≤ w8.heap.size := hS8.size
  have h89 := HTT9.out.2.size
  have hBn : ∀ g, (Value.slice B8 (n + 1) d8).ownBlock = some g → (Value.slice B n d).ownBlock = some g ∨ W.heap.size ≤ g := fun g e => by
   rcases hb8 with h1 | h1
   ·rw [h1] at e; exact .inl e
   rw [h1] at e; injection e with e; refine .inr ?_; rw [← e]; exact (((Keeps.refl (fun _ => False) W).drew).alloc _).size
  have hAn : ∀ g, (Value.slice A10 (n + 1) c10).ownBlock = some g → (Value.slice A n c).ownBlock = some g ∨ w9.heap.size ≤ g := fun g e => by
   rcases hb10 with h1 | h1
   ·rw [h1] at e; exact .inl e
   rw [h1] at e; injection e with e; refine .inr ?_; rw [← e]; exact ((Keeps.refl (fun _ => False) w9).alloc _).size
  have hwW : w5.heap.size ≤ W.heap.size := HHH.out.keep.size
  have hiB := HHH.out.hiB
  have hiA := HHH.out.hiA
  rw [← HN.out] at hiB hiA
  have hltB : ∀ g, (Value.slice B n d).ownBlock = some g → g < W.heap.size := fun g e => HT0.out.two.a.own_lt e
  have hltA : ∀ g, (Value.slice A n c).ownBlock = some g → g < W.heap.size := fun g e => HT0.out.two.b.own_lt e
  refine ⟨keepsFrom_of _ kF (fun i hi => ?_), kF.mono (fun i _ hi => ?_), B8, d8, A10, c10, vals ++ [.iface T9 y9], ?_⟩
  ·rcases hi with rfl | hi | hi
   ·exact ⟨_, _, _, HHH.out.two.blk⟩
   ·exact own_cells HT0.out.two.a.1 i hi
   exact own_cells HT0.out.two.b.1 i hi
  ·rcases hi with rfl | hi | hi
   ·exact .inl rfl
   ·exact .inr (hiB i hi)
   exact .inr (hiA i hi)
  have hpl : (pre ++ [x]).length = n + 1 := by rw [List.length_append, HN.out]; rfl
  have hvl : vals.length = n := by have := HT0.out.two.b.1.1; simpa using this
  refine ⟨HHH.out.keep.trans kF (fun i hi e => ?_), ?_, ?_, ?_, fun q val i x1 h1 h2 h3 => ?_⟩
  ·rcases e with e | e | e
   ·exact e
   ·have := hiB i e; omega
   have := hiA i e; omega
  ·rw [hpl, List.map_append, List.map_append]
   have h1 := HX.out.2.2.2.2
   simp only [List.map_cons, List.map_nil]
   rw [← h1]
   exact hT22
  ·rw [hpl]
   intro g e
   rcases hBn g e with h1 | h1
   ·exact hiB g h1
   omega
  ·rw [hpl]
   intro g e
   rcases hAn g e with h1 | h1
   ·exact hiA g h1
   omega
  rw [hpl]
  rcases Nat.lt_or_ge q n with hq | hq
  ·rw [List.getElem?_append_left (by omega)] at h1
   rw [List.getElem?_append_left (by rw [← HN.out]; exact hq)] at h2
   have h4 := HHH.out.at_ q val i x1 h1 h2 h3
   rw [← HN.out] at h4
   refine ((h4.mono (C := fun k => Dt D w b (.slice B n d) (.slice A n c) k ∧ k < W.heap.size) fun k h5 h6 => ⟨h5, h6⟩).keep kF (fun k hk e => ?_)).mono fun k hk _ => ⟨hk.1.1, hk.1.2.1, fun e => ?_, fun e => ?_⟩
   ·rcases e with e | e | e
    ·exact hk.1.2.1 e
    ·exact hk.1.2.2.1 e
    exact hk.1.2.2.2 e
   ·rcases hBn k e with h5 | h5
    ·exact hk.1.2.2.1 h5
    have := hk.2; omega
   rcases hAn k e with h5 | h5
   ·exact hk.1.2.2.2 h5
   have := hk.2; omega
  ·have hq2 : q = n := by
    have := (List.getElem?_eq_some_iff.1 h1).1
    rw [List.length_append, hvl] at this
    simp at this
    omega
   subst hq2
   rw [List.getElem?_append_right (by omega), show q - vals.length = 0 by omega] at h1
   rw [List.getElem?_append_right (by rw [← HN.out]; exact Nat.le_refl _), show q - pre.length = 0 by rw [← HN.out]; omega] at h2
   simp at h1 h2
   subst h1 h2
   have hxx : x1 = x0 := by
    have h4 := HX.out.2.1
    have h5 : (JV.obj ks l).items[x.val]? = some x1 := h3
    rw [h4] at h5
    injection h5 with h5
    exact h5.symm
   subst hxx
   have k9 : Keeps (fun i => i = b ∨ (Value.slice A q c).ownBlock = some i) w9 w22 := (((Keeps.refl (fun i => i = b ∨ (Value.slice A q c).ownBlock = some i) w9).alloc _).grown hg10 (fun g e => .inl (.inr e))).trans kset (fun _ _ e => .inl e)
   refine ((HTT9.out.1.mono (C := fun k => ((D k ∧ k < w.heap.size) ∨ w8.heap.size ≤ k) ∧ k < w9.heap.size) fun k h5 h6 => ⟨h5, h6⟩).keep k9 (fun k hk e => ?_)).mono fun k hk _ => ?_
   ·rcases e with e | e
    ·rcases hk.1 with h5 | h5 <;> omega
    have h6 := hltA k e
    have h7 := hiA k e
    rcases hk.1 with h5 | h5 <;> omega
   refine ⟨hk.1.imp id (fun h5 => by omega), fun e => ?_, fun e => ?_, fun e => ?_⟩
   ·rcases hk.1 with h5 | h5 <;> omega
   ·have h6 : k < w8.heap.size := HT8.out.two.a.own_lt e
    rcases hBn k e with h7 | h7
    ·have := hiB k h7
     rcases hk.1 with h5 | h5 <;> omega
    rcases hk.1 with h5 | h5 <;> omega
   rcases hAn k e with h7 | h7
   ·have h8 := hltA k h7
    have := hiA k h7
    rcases hk.1 with h5 | h5 <;> omega
   have := hk.2; omega
 case stop =>
  rintro D' c2 pre W _ _ h _
  exact h.elim
 case done =>
  rintro D' xs W hD' hxs ⟨B, d, A, c, vals, hh⟩ hK
  have cp := (hh.keep.blk HBP.out (by omega)).cell 0
  have HH := H_ hh
  have HXS := H_ hxs
  have HKD := H_ (And.intro hD' hK)
  clear hh hxs hK hD'
  gi_wp2
  refine ⟨by simp, .inl ⟨_, _, rfl, run_takeDeferred HKD.out.2, ?_⟩⟩
  refine ⟨_, results_tmp rfl _ _ _, ?_⟩
  have kp : CK w5.heap.size W (W.putObj D' (.deferred none)) := CK.putObj HKD.out.2 rfl HKD.out.1 _
  have hw := HW.out
  have hlen : xs.length = l.length := by
   have := congrArg List.length HXS.out
   rw [List.length_map, List.length_range] at this
   exact this
  have hval : ∀ q (i : Fin (JV.obj ks l).items.length), xs[q]? = some i → i.val = q := fun q i hq => by
   have h1 : (xs.map (·.val))[q]? = some i.val := by rw [List.getElem?_map, hq]; rfl
   rw [HXS.out] at h1
   have hq2 := (List.getElem?_eq_some_iff.1 h1).1
   rw [List.length_range] at hq2
   rw [List.getElem?_range hq2] at h1
   injection h1 with h1
   exact h1.symm
  have hkeys : xs.map (fun i => keyAt (.obj ks l) i.val) = ks := by
   apply List.ext_getElem?
   intro q
   rw [List.getElem?_map]
   rcases Nat.lt_or_ge q xs.length with hq | hq
   ·rw [List.getElem?_eq_getElem hq]
    have h1 := hval q _ (List.getElem?_eq_getElem hq)
    have hqk : q < ks.length := by omega
    show some (keyAt (.obj ks l) (xs[q]).val) = _
    rw [h1]
    unfold keyAt
    rw [List.getD_eq_getElem?_getD]
    show some (ks[q]?.getD _) = _
    rw [List.getElem?_eq_getElem hqk]
    rfl
   rw [List.getElem?_eq_none hq, List.getElem?_eq_none (by omega)]
   rfl
  have htw := boxTwo_ck HH.out.two kp (by have := hw.2.2.2.1.size; omega)
  have hbl := htw.blk
  have hmk := htw.two.a
  have hmv := htw.two.b
  rw [hkeys] at hmk
  rw [hlen] at hbl hmk hmv
  have hlo : w.heap.size ≤ w2.heap.size := by have := hw.2.2.1; have := hw.2.2.2.2; omega
  refine ⟨_, rfl, TAtR.obj (b := b) (A := A) (B := B) (c := c) (d := d) (vs := vals) (.inr (by omega)) (by rw [hkl]; exact hbl) ?_ ?_ ?_ (MineS.rd hmv) ((MineS.inB hmv).mono fun i hi => .inr (by omega)) fun q val x h1 h2 => ?_, ?_⟩
  ·have hkk := kp.keeps (HH.out.keep) (Nat.le_refl _)
   have h1 : JAt (fun i => D i ∧ i < w.heap.size) w5 (.iface T y) (.obj ks l) := (HJ.out.mono (C := fun i => D i ∧ i < w.heap.size) fun i h1 h2 => ⟨h1, h2⟩).stay hw.1
   exact (h1.keep hkk (fun i hi e => by have := hi.2; have := hw.2.2.1; omega)).mono fun i hi _ => .inl hi.1
  ·rw [hkl]; exact MineS.rd hmk
  ·rw [hkl]; exact (MineS.inB hmk).mono fun i hi => .inr (by omega)
  ·have hq : q < xs.length := by
    have := (List.getElem?_eq_some_iff.1 h1).1
    rw [(MineS.rd HH.out.two.two.b).1] at this
    exact this
   have h3 := hval q _ (List.getElem?_eq_getElem hq)
   exact ((HH.out.at_ q val (xs[q]) x h1 (List.getElem?_eq_getElem hq) (by rw [h3]; exact h2)).ck kp).mono fun i hi _ => hi.1.imp (fun h => h.1) id
  have hkk := kp.keeps (HH.out.keep) (Nat.le_refl _)
  exact hw.1.trans hkk (fun i hi e => by have := hw.2.2.1; omega)
theorem ofR_any : ∀ (j : JV), JOk j → j.nodes ≤ 1048576 → ∀ (D : Nat → Prop) (w : World) (v : Value), JAt D w v j → Calls Tryz.prog 37 #[.agg #[v]] w (OfPostR D w j) := by
 intro j hok
 induction hok with
 | mk j h1 h2 hp hr ht h ih =>
  intro hn D w v hv
  by_cases hs : j.sort = 6
  ·have hio := items_nodes j
   match j, hs, h2, ih, hn, hv, hio with
   | .obj ks l, _, h2, ih, hn, hv, hio =>
    exact of_obj w v ks l hv (h2 rfl) (by have : (JV.obj ks l).items.length = l.length := rfl; omega) fun D' x hx W u hu => ih x hx (Nat.le_trans (item_nodes (j := .obj ks l) hx) hn) D' W u hu
  exact of_whole w v j hv hs
theorem of_any (j : JV) (hj : JOk j) (hn : j.nodes ≤ 1048576) (D : Nat → Prop) (w : World) (v : Value) (h : JAt D w v j) : Calls Tryz.prog 37 #[.agg #[v]] w (OfPost D w j) :=
 (ofR_any j hj hn D w v h).mono fun _ _ ⟨t, he, ht, hk⟩ => ⟨t, he, ht.loose, hk⟩
end Go.Proofs.YtdmcioghdindfaaGreatDoor
