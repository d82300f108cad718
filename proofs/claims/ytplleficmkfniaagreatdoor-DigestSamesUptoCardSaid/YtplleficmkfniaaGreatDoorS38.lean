/- Texts. -/
import Derived.Test.YtplleficmkfniaaGreatDoorS30
set_option linter.unusedSimpArgs false
set_option maxRecDepth 100000
set_option maxHeartbeats 4000000
namespace Go.Proofs.YtplleficmkfniaaGreatDoor
open Go Go.RowKit Go.Aff Go.Json Go.Shelf
theorem str_same (s t : ByteArray) : (s.toList == t.toList) = decide (s = t) := by
 rw [Bool.eq_iff_iff, beq_iff_eq, decide_eq_true_iff, ByteArray.toList_eq, ByteArray.toList_eq]
 constructor
 ·intro h
  cases s; cases t
  congr
  exact Array.toList_inj.1 h
 ·rintro rfl; rfl
theorem text_at {w : World} {A : Option Addr} {n : Nat} {ks : List ByteArray} (h : Rd w A n (ks.map .string)) {j : Nat} (hj : j < n) : ∃ g o s, A = some ⟨g, o, none⟩ ∧ ks[j]? = some s ∧ w.cell? ⟨g, o + j, none⟩ = some (.string s) := by
 obtain ⟨g, o, e, q⟩ := h.2 (by omega)
 have hl : ks.length = n := by simpa using h.1
 obtain ⟨s, hs⟩ : ∃ s, ks[j]? = some s := ⟨_, List.getElem?_eq_getElem (by omega)⟩
 refine ⟨g, o, s, e, hs, ?_⟩
 rw [q j hj, List.getElem?_map, hs]; rfl
theorem take_grow {α : Type} {l m : List α} {j : Nat} {a b : α} (h : l.take j = m.take j) (ha : l[j]? = some a) (hb : m[j]? = some b) (e : a = b) : l.take (j + 1) = m.take (j + 1) := by
 rw [List.take_add_one, List.take_add_one, h, ha, hb, e]
theorem seq_any (w : World) (A B : Option Addr) (n m c d : Nat) (ks ls : List ByteArray) (h1 : Rd w A n (ks.map .string)) (h2 : Rd w B m (ls.map .string)) (hb : n ≤ 1099511627776) :
  Calls Tryz.prog 82 #[.slice A n c, .slice B m d] w fun e w' => e = .returned (.bool (decide (ks = ls))) ∧ Keeps (fun _ => False) w w' := by
 have hk : ks.length = n := by simpa using h1.1
 have hl : ls.length = m := by simpa using h2.1
 by_cases hnm : n = m
 ·subst hnm
  have HAT := H_ fun j (hj : j < n) => text_at h1 hj
  have HBT := H_ fun j (hj : j < n) => text_at h2 hj
  have HL := H_ (And.intro hk hl)
  clear h1 h2 hk hl
  go_enter Tryz.func82, Tryz.ntmps82
  go_upto_block 0 with fail
  go_wp2
  go_loopg [13] n (fun g2 i w3 => ∃ j, j ≤ n ∧ i = .int .i64 j ∧ g2 = n - j ∧ Hid (Keeps (fun _ => False) w w3 ∧ ks.take j = ls.take j))
  case atStart => exact ⟨0, by omega, rfl, rfl, H_ ⟨Keeps.refl _ w, by simp⟩⟩
  case round =>
   obtain ⟨j, hj, rfl, hg2, HA⟩ := hrel
   have HG2 := H_ hg2
   clear hg2
   by_cases hlt : j < n
   ·obtain ⟨g, o, s, rfl, hs, c1⟩ := HAT.out j hlt
    obtain ⟨g3, o3, t, rfl, ht, c3⟩ := HBT.out j hlt
    have HC1 := H_ (cell_keep HA.out.1 c1)
    have HC2 := H_ (cell_keep HA.out.1 c3)
    obtain ⟨q, hq⟩ : ∃ q, q = decide (s = t) := ⟨_, rfl⟩
    have hse := (str_same s t).trans hq.symm
    have HQ := H_ hq
    have HST := H_ (And.intro hs ht)
    clear c1 c3 hs ht hq
    go_wp2
    refine wp_region_held_drew (S := Keeps (fun _ => False) wr) (by kernel_rfl) (Keeps.refl (fun _ => False) _).drew (fun h_ => ?_)
    refine tI 0 16 h_ ?_
    try simp only [pu]
    refine tI 1 17 h_ ?_
    try simp only [pu]
    refine tI 2 18 h_ ?_
    try simp only [pu]
    refine tI 3 19 h_ ?_ (hy := .inl ⟨by rfl, by intro w' hSw; have cv := cell_keep hSw HC1.out; go_simp; first | done | rfl⟩)
    try simp only [pu]
    refine tI 4 20 h_ ?_
    try simp only [pu]
    refine tI 5 21 h_ ?_
    try simp only [pu]
    refine tI 6 22 h_ ?_
    try simp only [pu]
    refine tI 7 23 h_ ?_ (hy := .inl ⟨by rfl, by intro w' hSw; have cv := cell_keep hSw HC2.out; go_simp; first | done | rfl⟩)
    try simp only [pu]
    refine tI 8 24 h_ ?_
    try simp only [pu]
    refine wpAnyH_done (by kernel_rfl) ?_ _
    rcases q with _ | _
    ·have HN : Hid (decide (ks = ls) = false) := H_ (by
      rw [decide_eq_false_iff_not]
      rintro rfl
      have h1 := HST.out.1.symm.trans HST.out.2
      injection h1 with h1
      have := HQ.out
      rw [h1] at this
      simp at this)
     go_wp2
     go_ret
     exact ⟨by rw [HN.out]; rfl, HA.out.1.drew⟩
    ·have HN : Hid (ks.take (j + 1) = ls.take (j + 1)) := H_ (take_grow HA.out.2 HST.out.1 HST.out.2 (of_decide_eq_true HQ.out.symm))
     go_wp2
     go_roundg (n - (j + 1))
     case measure => rw [HG2.out]; omega
     case rel => exact ⟨j + 1, by omega, by go_num, rfl, H_ ⟨HA.out.1.drew, HN.out⟩⟩
   ·obtain rfl : j = n := by omega
    have HN : Hid (decide (ks = ls) = true) := H_ (by
     rw [decide_eq_true_iff]
     have h := HA.out.2
     rwa [List.take_of_length_le (by rw [HL.out.1]; exact Nat.le_refl _), List.take_of_length_le (by rw [HL.out.2]; exact Nat.le_refl _)] at h)
    go_wp2
    go_ret
    exact ⟨by rw [HN.out]; rfl, HA.out.1⟩
 ·have HN : Hid (decide (ks = ls) = false) := H_ (by
   rw [decide_eq_false_iff_not]
   rintro rfl
   omega)
  clear h1 h2 hk hl
  go_enter Tryz.func82, Tryz.ntmps82
  go_wp2
  go_ret
  exact ⟨by rw [HN.out]; rfl, Keeps.refl _ w⟩
structure Boxes (w W : World) (v v2 : Value) : Prop where
 keep : Keeps (fun _ => False) w W
 b1 : Blk W w.heap.size 95 [v]
 b2 : Blk W (w.heap.size + 1) 95 [v2]
theorem Boxes.made (w : World) (v v2 : Value) : Boxes w ((w.alloc (.cells #[v] 95)).alloc (.cells #[v2] 95)) v v2 := by
 have hb2 := Blk.new (w.alloc (.cells #[v] 95)) 95 [v2]
 rw [World.size_alloc] at hb2
 exact ⟨((Keeps.refl _ w).alloc _).alloc _, (Blk.new w 95 [v]).alloc _, hb2⟩
theorem Boxes.stay {w W W' : World} {v v2 : Value} (h : Boxes w W v v2) (k : Keeps (fun _ => False) W W') : Boxes w W' v v2 := ⟨h.keep.trans k (fun _ _ h => h), k.blk h.b1 (fun h => h), k.blk h.b2 (fun h => h)⟩
theorem Boxes.c1 {w W : World} {v v2 : Value} (h : Boxes w W v v2) : W.cell? ⟨w.heap.size, 0, none⟩ = some v := h.b1.cell 0
theorem Boxes.c2 {w W : World} {v v2 : Value} (h : Boxes w W v v2) : W.cell? ⟨w.heap.size + 1, 0, none⟩ = some v2 := h.b2.cell 0
structure SameQ (w : World) (T : TypeId) (x : Value) (T2 : TypeId) (x2 : Value) (j k : JV) (A : Option Addr) (c : Nat) (A2 : Option Addr) (c2 : Nat) : Prop where
 s1 : ∀ W, Calls Tryz.prog 47 #[.agg #[.iface T x]] W fun e w' => e = .returned (.int .i64 j.sort) ∧ Keeps (fun _ => False) W w'
 s2 : ∀ W, Calls Tryz.prog 47 #[.agg #[.iface T2 x2]] W fun e w' => e = .returned (.int .i64 k.sort) ∧ Keeps (fun _ => False) W w'
 l1 : ∀ W, Keeps (fun _ => False) w W → Calls Tryz.prog 81 #[.agg #[.iface T x]] W fun e w' => e = .returned (.int .i64 j.items.length) ∧ Keeps (fun _ => False) W w'
 l2 : ∀ W, Keeps (fun _ => False) w W → Calls Tryz.prog 81 #[.agg #[.iface T2 x2]] W fun e w' => e = .returned (.int .i64 k.items.length) ∧ Keeps (fun _ => False) W w'
 k1 : ∀ W, Keeps (fun _ => False) w W → Calls Tryz.prog 83 #[.agg #[.iface T x]] W fun e w' => e = .returned (.slice A j.keys.length c) ∧ Keeps (fun _ => False) W w'
 k2 : ∀ W, Keeps (fun _ => False) w W → Calls Tryz.prog 83 #[.agg #[.iface T2 x2]] W fun e w' => e = .returned (.slice A2 k.keys.length c2) ∧ Keeps (fun _ => False) W w'
 q : ∀ W, Keeps (fun _ => False) w W → Calls Tryz.prog 82 #[.slice A j.keys.length c, .slice A2 k.keys.length c2] W fun e w' => e = .returned (.bool (decide (j.keys = k.keys))) ∧ Keeps (fun _ => False) W w'
theorem sameQ {D E : Nat → Prop} {w : World} {v v2 : Value} {j k : JV} (h : JAt D w v j) (h2 : JAt E w v2 k) (hb : j.keys.length ≤ 1099511627776) : ∃ T x T2 x2 A c A2 c2, v = .iface T x ∧ v2 = .iface T2 x2 ∧ SameQ w T x T2 x2 j k A c A2 c2 := by
 obtain ⟨T, x, rfl⟩ := h.iface
 obtain ⟨T2, x2, rfl⟩ := h2.iface
 obtain ⟨A, c, hr, _, hk⟩ := keys_inv h
 obtain ⟨A2, c2, hr2, _, hk2⟩ := keys_inv h2
 exact ⟨T, x, T2, x2, A, c, A2, c2, rfl, rfl, ⟨refsort_any h, refsort_any h2, len_any h, len_any h2, hk, hk2, fun W hW => seq_any W _ _ _ _ _ _ _ _ (hr.keep hW (fun _ _ _ h => h)) (hr2.keep hW (fun _ _ _ h => h)) hb⟩⟩
theorem same_sorts (w : World) (T : TypeId) (x : Value) (T2 : TypeId) (x2 : Value) (j k : JV) (A : Option Addr) (c : Nat) (A2 : Option Addr) (c2 : Nat) (hQ : SameQ w T x T2 x2 j k A c A2 c2) (hs : (j.sort != k.sort) = true) :
  Calls Tryz.prog 41 #[.agg #[.iface T x], .agg #[.iface T2 x2]] w fun e w' => e = .returned (.bool false) ∧ Keeps (fun _ => False) w w' := by
 have HQ := H_ hQ
 clear hQ
 go_enter Tryz.func41, Tryz.ntmps41
 go_upto_region 1 with fail
 refine wp_region_held_drew (S := fun W => Boxes w W (.iface T x) (.iface T2 x2)) (by kernel_rfl) ((Boxes.made w _ _).stay (Keeps.refl _ _).drew) (fun h_ => ?_)
 refine tI 0 10 h_ ?_ (hy := .inl ⟨by rfl, by intro w' hSw; have cv := hSw.c1; go_simp; first | done | rfl⟩)
 try simp only [pu]
 refine tI 2 12 h_ ?_ (hy := .inl ⟨by rfl, by intro w' hSw; have cv := hSw.c2; go_simp; first | done | rfl⟩)
 try simp only [pu]
 refine rH 1 (some 11) fun K hK => ?_
 go_simp
 refine (HQ.out.s1 _).mono ?_
 rintro e vv ⟨rfl, hkk⟩
 have hqq := h_.stay hkk
 refine hK.out _ _ hqq (fun h_ => ?_)
 clear hK K
 try simp only [pu]
 refine rH 3 (some 13) fun K hK => ?_
 go_simp
 refine (HQ.out.s2 _).mono ?_
 rintro e vv ⟨rfl, hkk⟩
 have hqq := h_.stay hkk
 refine hK.out _ _ hqq (fun h_ => ?_)
 clear hK K
 try simp only [pu]
 refine tI 4 14 h_ ?_
 try simp only [pu]
 refine tI 5 15 h_ ?_
 try simp only [pu]
 refine tH (i := 6) (oi := ⟨some 16, _, _, _, _, _⟩) (v := undef) rfl (Or.inr ⟨by rfl, rfl⟩) h_ ?_
 try simp only [pu]
 refine tH (i := 7) (oi := ⟨some 17, _, _, _, _, _⟩) (v := undef) rfl (Or.inr ⟨by rfl, rfl⟩) h_ ?_
 try simp only [pu]
 refine tH (i := 8) (oi := ⟨some 18, _, _, _, _, _⟩) (v := undef) rfl (Or.inr ⟨by rfl, rfl⟩) h_ ?_
 try simp only [pu]
 refine tH (i := 9) (oi := ⟨some 19, _, _, _, _, _⟩) (v := undef) rfl (Or.inr ⟨by rfl, rfl⟩) h_ ?_
 try simp only [pu]
 refine tH (i := 10) (oi := ⟨some 20, _, _, _, _, _⟩) (v := undef) rfl (Or.inr ⟨by rfl, rfl⟩) h_ ?_
 try simp only [pu]
 refine tI 11 21 h_ ?_
 try simp only [pu]
 refine tI 12 22 h_ ?_
 try simp only [pu]
 refine tH (i := 13) (oi := ⟨some 23, _, _, _, _, _⟩) (v := undef) rfl (Or.inr ⟨by rfl, rfl⟩) h_ ?_
 try simp only [pu]
 refine tH (i := 14) (oi := ⟨some 24, _, _, _, _, _⟩) (v := undef) rfl (Or.inr ⟨by rfl, rfl⟩) h_ ?_
 try simp only [pu]
 refine tH (i := 15) (oi := ⟨some 25, _, _, _, _, _⟩) (v := undef) rfl (Or.inr ⟨by rfl, rfl⟩) h_ ?_
 try simp only [pu]
 refine tH (i := 16) (oi := ⟨some 26, _, _, _, _, _⟩) (v := undef) rfl (Or.inr ⟨by rfl, rfl⟩) h_ ?_
 try simp only [pu]
 refine tH (i := 17) (oi := ⟨some 27, _, _, _, _, _⟩) (v := undef) rfl (Or.inr ⟨by rfl, rfl⟩) h_ ?_
 try simp only [pu]
 refine tH (i := 18) (oi := ⟨some 28, _, _, _, _, _⟩) (v := undef) rfl (Or.inr ⟨by rfl, rfl⟩) h_ ?_
 try simp only [pu]
 refine tI 19 29 h_ ?_
 try simp only [pu]
 refine wpAnyH_done (by kernel_rfl) ?_ _
 have HB := H_ h_
 clear h_
 go_wp2
 go_ret
 exact ⟨rfl, HB.out.keep⟩
theorem same_lens (w : World) (T : TypeId) (x : Value) (T2 : TypeId) (x2 : Value) (j k : JV) (A : Option Addr) (c : Nat) (A2 : Option Addr) (c2 : Nat) (hQ : SameQ w T x T2 x2 j k A c A2 c2) (hs : (j.sort != k.sort) = false) (hl : ((j.items.length : Int) != (k.items.length : Int)) = true) :
  Calls Tryz.prog 41 #[.agg #[.iface T x], .agg #[.iface T2 x2]] w fun e w' => e = .returned (.bool false) ∧ Keeps (fun _ => False) w w' := by
 have HQ := H_ hQ
 clear hQ
 go_enter Tryz.func41, Tryz.ntmps41
 go_upto_region 1 with fail
 refine wp_region_held_drew (S := fun W => Boxes w W (.iface T x) (.iface T2 x2)) (by kernel_rfl) ((Boxes.made w _ _).stay (Keeps.refl _ _).drew) (fun h_ => ?_)
 refine tI 0 10 h_ ?_ (hy := .inl ⟨by rfl, by intro w' hSw; have cv := hSw.c1; go_simp; first | done | rfl⟩)
 try simp only [pu]
 refine tI 2 12 h_ ?_ (hy := .inl ⟨by rfl, by intro w' hSw; have cv := hSw.c2; go_simp; first | done | rfl⟩)
 try simp only [pu]
 refine rH 1 (some 11) fun K hK => ?_
 go_simp
 refine (HQ.out.s1 _).mono ?_
 rintro e vv ⟨rfl, hkk⟩
 have hqq := h_.stay hkk
 refine hK.out _ _ hqq (fun h_ => ?_)
 clear hK K
 try simp only [pu]
 refine rH 3 (some 13) fun K hK => ?_
 go_simp
 refine (HQ.out.s2 _).mono ?_
 rintro e vv ⟨rfl, hkk⟩
 have hqq := h_.stay hkk
 refine hK.out _ _ hqq (fun h_ => ?_)
 clear hK K
 try simp only [pu]
 refine tI 4 14 h_ ?_
 try simp only [pu]
 refine tI 5 15 h_ ?_
 try simp only [pu]
 refine tI 6 16 h_ ?_ (hy := .inl ⟨by rfl, by intro w' hSw; have cv := hSw.c1; go_simp; first | done | rfl⟩)
 try simp only [pu]
 refine tI 8 18 h_ ?_ (hy := .inl ⟨by rfl, by intro w' hSw; have cv := hSw.c2; go_simp; first | done | rfl⟩)
 try simp only [pu]
 refine rH 7 (some 17) fun K hK => ?_
 go_simp
 refine (HQ.out.l1 _ (h_.keep)).mono ?_
 rintro e vv ⟨rfl, hkk⟩
 have hqq := h_.stay hkk
 refine hK.out _ _ hqq (fun h_ => ?_)
 clear hK K
 try simp only [pu]
 refine rH 9 (some 19) fun K hK => ?_
 go_simp
 refine (HQ.out.l2 _ (h_.keep)).mono ?_
 rintro e vv ⟨rfl, hkk⟩
 have hqq := h_.stay hkk
 refine hK.out _ _ hqq (fun h_ => ?_)
 clear hK K
 try simp only [pu]
 refine tI 10 20 h_ ?_
 try simp only [pu]
 refine tI 11 21 h_ ?_
 try simp only [pu]
 refine tI 12 22 h_ ?_
 try simp only [pu]
 refine tH (i := 13) (oi := ⟨some 23, _, _, _, _, _⟩) (v := undef) rfl (Or.inr ⟨by rfl, rfl⟩) h_ ?_
 try simp only [pu]
 refine tH (i := 14) (oi := ⟨some 24, _, _, _, _, _⟩) (v := undef) rfl (Or.inr ⟨by rfl, rfl⟩) h_ ?_
 try simp only [pu]
 refine tH (i := 15) (oi := ⟨some 25, _, _, _, _, _⟩) (v := undef) rfl (Or.inr ⟨by rfl, rfl⟩) h_ ?_
 try simp only [pu]
 refine tH (i := 16) (oi := ⟨some 26, _, _, _, _, _⟩) (v := undef) rfl (Or.inr ⟨by rfl, rfl⟩) h_ ?_
 try simp only [pu]
 refine tH (i := 17) (oi := ⟨some 27, _, _, _, _, _⟩) (v := undef) rfl (Or.inr ⟨by rfl, rfl⟩) h_ ?_
 try simp only [pu]
 refine tH (i := 18) (oi := ⟨some 28, _, _, _, _, _⟩) (v := undef) rfl (Or.inr ⟨by rfl, rfl⟩) h_ ?_
 try simp only [pu]
 refine tI 19 29 h_ ?_
 try simp only [pu]
 refine wpAnyH_done (by kernel_rfl) ?_ _
 have HB := H_ h_
 clear h_
 go_wp2
 go_ret
 exact ⟨rfl, HB.out.keep⟩
theorem same_keys (w : World) (T : TypeId) (x : Value) (T2 : TypeId) (x2 : Value) (j k : JV) (A : Option Addr) (c : Nat) (A2 : Option Addr) (c2 : Nat) (hQ : SameQ w T x T2 x2 j k A c A2 c2) (hs : (j.sort != k.sort) = false) (hl : ((j.items.length : Int) != (k.items.length : Int)) = false) (hk : decide (j.keys = k.keys) = false) :
  Calls Tryz.prog 41 #[.agg #[.iface T x], .agg #[.iface T2 x2]] w fun e w' => e = .returned (.bool false) ∧ Keeps (fun _ => False) w w' := by
 have HQ := H_ hQ
 clear hQ
 go_enter Tryz.func41, Tryz.ntmps41
 go_upto_region 1 with fail
 refine wp_region_held_drew (S := fun W => Boxes w W (.iface T x) (.iface T2 x2)) (by kernel_rfl) ((Boxes.made w _ _).stay (Keeps.refl _ _).drew) (fun h_ => ?_)
 refine tI 0 10 h_ ?_ (hy := .inl ⟨by rfl, by intro w' hSw; have cv := hSw.c1; go_simp; first | done | rfl⟩)
 try simp only [pu]
 refine tI 2 12 h_ ?_ (hy := .inl ⟨by rfl, by intro w' hSw; have cv := hSw.c2; go_simp; first | done | rfl⟩)
 try simp only [pu]
 refine rH 1 (some 11) fun K hK => ?_
 go_simp
 refine (HQ.out.s1 _).mono ?_
 rintro e vv ⟨rfl, hkk⟩
 have hqq := h_.stay hkk
 refine hK.out _ _ hqq (fun h_ => ?_)
 clear hK K
 try simp only [pu]
 refine rH 3 (some 13) fun K hK => ?_
 go_simp
 refine (HQ.out.s2 _).mono ?_
 rintro e vv ⟨rfl, hkk⟩
 have hqq := h_.stay hkk
 refine hK.out _ _ hqq (fun h_ => ?_)
 clear hK K
 try simp only [pu]
 refine tI 4 14 h_ ?_
 try simp only [pu]
 refine tI 5 15 h_ ?_
 try simp only [pu]
 refine tI 6 16 h_ ?_ (hy := .inl ⟨by rfl, by intro w' hSw; have cv := hSw.c1; go_simp; first | done | rfl⟩)
 try simp only [pu]
 refine tI 8 18 h_ ?_ (hy := .inl ⟨by rfl, by intro w' hSw; have cv := hSw.c2; go_simp; first | done | rfl⟩)
 try simp only [pu]
 refine rH 7 (some 17) fun K hK => ?_
 go_simp
 refine (HQ.out.l1 _ (h_.keep)).mono ?_
 rintro e vv ⟨rfl, hkk⟩
 have hqq := h_.stay hkk
 refine hK.out _ _ hqq (fun h_ => ?_)
 clear hK K
 try simp only [pu]
 refine rH 9 (some 19) fun K hK => ?_
 go_simp
 refine (HQ.out.l2 _ (h_.keep)).mono ?_
 rintro e vv ⟨rfl, hkk⟩
 have hqq := h_.stay hkk
 refine hK.out _ _ hqq (fun h_ => ?_)
 clear hK K
 try simp only [pu]
 refine tI 10 20 h_ ?_
 try simp only [pu]
 refine tI 11 21 h_ ?_
 try simp only [pu]
 refine tI 12 22 h_ ?_
 try simp only [pu]
 refine tI 13 23 h_ ?_ (hy := .inl ⟨by rfl, by intro w' hSw; have cv := hSw.c1; go_simp; first | done | rfl⟩)
 try simp only [pu]
 refine tI 15 25 h_ ?_ (hy := .inl ⟨by rfl, by intro w' hSw; have cv := hSw.c2; go_simp; first | done | rfl⟩)
 try simp only [pu]
 refine rH 14 (some 24) fun K hK => ?_
 go_simp
 refine (HQ.out.k1 _ (h_.keep)).mono ?_
 rintro e vv ⟨rfl, hkk⟩
 have hqq := h_.stay hkk
 refine hK.out _ _ hqq (fun h_ => ?_)
 clear hK K
 try simp only [pu]
 refine rH 16 (some 26) fun K hK => ?_
 go_simp
 refine (HQ.out.k2 _ (h_.keep)).mono ?_
 rintro e vv ⟨rfl, hkk⟩
 have hqq := h_.stay hkk
 refine hK.out _ _ hqq (fun h_ => ?_)
 clear hK K
 try simp only [pu]
 refine rH 17 (some 27) fun K hK => ?_
 go_simp
 refine (HQ.out.q _ (h_.keep)).mono ?_
 rintro e vv ⟨rfl, hkk⟩
 have hqq := h_.stay hkk
 refine hK.out _ _ hqq (fun h_ => ?_)
 clear hK K
 try simp only [pu]
 refine tI 18 28 h_ ?_
 try simp only [pu]
 refine tI 19 29 h_ ?_
 try simp only [pu]
 refine wpAnyH_done (by kernel_rfl) ?_ _
 have HB := H_ h_
 clear h_
 go_wp2
 go_ret
 exact ⟨rfl, HB.out.keep⟩
theorem same_scalar (w : World) (T : TypeId) (x : Value) (T2 : TypeId) (x2 : Value) (j k : JV) (A : Option Addr) (c : Nat) (A2 : Option Addr) (c2 : Nat) (hQ : SameQ w T x T2 x2 j k A c A2 c2) (hs : (j.sort != k.sort) = false) (hl : ((j.items.length : Int) != (k.items.length : Int)) = false) (hk : decide (j.keys = k.keys) = true) (a1 : ∀ W, (Instr.typeAssert (.iface T x) 93 186 true).run Tryz.prog W = .ok (.tuple #[.pointer none, .bool false]) W) (a2 : ∀ W, (Instr.typeAssert (.iface T x) 93 187 true).run Tryz.prog W = .ok (.tuple #[.pointer none, .bool false]) W) (b : Bool) (hb : ∀ W, (binOp .eql 93 (.iface T x) (.iface T2 x2)).run Tryz.prog W = .ok (.bool b) W) :
  Calls Tryz.prog 41 #[.agg #[.iface T x], .agg #[.iface T2 x2]] w fun e w' => e = .returned (.bool b) ∧ Keeps (fun _ => False) w w' := by
 have HQ := H_ hQ
 clear hQ
 go_enter Tryz.func41, Tryz.ntmps41
 go_upto_region 1 with fail
 refine wp_region_held_drew (S := fun W => Boxes w W (.iface T x) (.iface T2 x2)) (by kernel_rfl) ((Boxes.made w _ _).stay (Keeps.refl _ _).drew) (fun h_ => ?_)
 refine tI 0 10 h_ ?_ (hy := .inl ⟨by rfl, by intro w' hSw; have cv := hSw.c1; go_simp; first | done | rfl⟩)
 try simp only [pu]
 refine tI 2 12 h_ ?_ (hy := .inl ⟨by rfl, by intro w' hSw; have cv := hSw.c2; go_simp; first | done | rfl⟩)
 try simp only [pu]
 refine rH 1 (some 11) fun K hK => ?_
 go_simp
 refine (HQ.out.s1 _).mono ?_
 rintro e vv ⟨rfl, hkk⟩
 have hqq := h_.stay hkk
 refine hK.out _ _ hqq (fun h_ => ?_)
 clear hK K
 try simp only [pu]
 refine rH 3 (some 13) fun K hK => ?_
 go_simp
 refine (HQ.out.s2 _).mono ?_
 rintro e vv ⟨rfl, hkk⟩
 have hqq := h_.stay hkk
 refine hK.out _ _ hqq (fun h_ => ?_)
 clear hK K
 try simp only [pu]
 refine tI 4 14 h_ ?_
 try simp only [pu]
 refine tI 5 15 h_ ?_
 try simp only [pu]
 refine tI 6 16 h_ ?_ (hy := .inl ⟨by rfl, by intro w' hSw; have cv := hSw.c1; go_simp; first | done | rfl⟩)
 try simp only [pu]
 refine tI 8 18 h_ ?_ (hy := .inl ⟨by rfl, by intro w' hSw; have cv := hSw.c2; go_simp; first | done | rfl⟩)
 try simp only [pu]
 refine rH 7 (some 17) fun K hK => ?_
 go_simp
 refine (HQ.out.l1 _ (h_.keep)).mono ?_
 rintro e vv ⟨rfl, hkk⟩
 have hqq := h_.stay hkk
 refine hK.out _ _ hqq (fun h_ => ?_)
 clear hK K
 try simp only [pu]
 refine rH 9 (some 19) fun K hK => ?_
 go_simp
 refine (HQ.out.l2 _ (h_.keep)).mono ?_
 rintro e vv ⟨rfl, hkk⟩
 have hqq := h_.stay hkk
 refine hK.out _ _ hqq (fun h_ => ?_)
 clear hK K
 try simp only [pu]
 refine tI 10 20 h_ ?_
 try simp only [pu]
 refine tI 11 21 h_ ?_
 try simp only [pu]
 refine tI 12 22 h_ ?_
 try simp only [pu]
 refine tI 13 23 h_ ?_ (hy := .inl ⟨by rfl, by intro w' hSw; have cv := hSw.c1; go_simp; first | done | rfl⟩)
 try simp only [pu]
 refine tI 15 25 h_ ?_ (hy := .inl ⟨by rfl, by intro w' hSw; have cv := hSw.c2; go_simp; first | done | rfl⟩)
 try simp only [pu]
 refine rH 14 (some 24) fun K hK => ?_
 go_simp
 refine (HQ.out.k1 _ (h_.keep)).mono ?_
 rintro e vv ⟨rfl, hkk⟩
 have hqq := h_.stay hkk
 refine hK.out _ _ hqq (fun h_ => ?_)
 clear hK K
 try simp only [pu]
 refine rH 16 (some 26) fun K hK => ?_
 go_simp
 refine (HQ.out.k2 _ (h_.keep)).mono ?_
 rintro e vv ⟨rfl, hkk⟩
 have hqq := h_.stay hkk
 refine hK.out _ _ hqq (fun h_ => ?_)
 clear hK K
 try simp only [pu]
 refine rH 17 (some 27) fun K hK => ?_
 go_simp
 refine (HQ.out.q _ (h_.keep)).mono ?_
 rintro e vv ⟨rfl, hkk⟩
 have hqq := h_.stay hkk
 refine hK.out _ _ hqq (fun h_ => ?_)
 clear hK K
 try simp only [pu]
 refine tI 18 28 h_ ?_
 try simp only [pu]
 refine tI 19 29 h_ ?_
 try simp only [pu]
 refine wpAnyH_done (by kernel_rfl) ?_ _
 have c1 := h_.c1
 have c2 := h_.c2
 have HB := H_ h_
 clear h_
 go_wp2
 go_ret
 exact ⟨rfl, HB.out.keep⟩
theorem same_list (w : World) (T : TypeId) (x : Value) (T2 : TypeId) (x2 : Value) (j k : JV) (A : Option Addr) (c : Nat) (A2 : Option Addr) (c2 : Nat) (hQ : SameQ w T x T2 x2 j k A c A2 c2) (hs : (j.sort != k.sort) = false) (hl : ((j.items.length : Int) != (k.items.length : Int)) = false) (hk : decide (j.keys = k.keys) = true)
  (a1 : ∀ W, (Instr.typeAssert (.iface T x) 93 186 true).run Tryz.prog W = .ok (.tuple #[x, .bool true]) W) (a2 : ∀ W, (Instr.typeAssert (.iface T x) 93 187 true).run Tryz.prog W = .ok (.tuple #[.pointer none, .bool false]) W) (n : Nat) (hn : j.items.length = n) (hn2 : k.items.length = n) (hnb : n ≤ 1099511627776)
  (I : Option Addr) (ci : Nat) (I2 : Option Addr) (ci2 : Nat) (i1 : ∀ W, Keeps (fun _ => False) w W → Calls Tryz.prog 84 #[.agg #[.iface T x]] W fun e w' => e = .returned (.slice I n ci) ∧ Keeps (fun _ => False) W w')
  (i2 : ∀ W, Keeps (fun _ => False) w W → Calls Tryz.prog 84 #[.agg #[.iface T2 x2]] W fun e w' => e = .returned (.slice I2 n ci2) ∧ Keeps (fun _ => False) W w')
  (hI : ∀ i, i < n → ∃ g o U y g2 o2 U2 y2 b, I = some ⟨g, o, none⟩ ∧ w.cell? ⟨g, o + i, none⟩ = some (.iface U y) ∧ I2 = some ⟨g2, o2, none⟩ ∧ w.cell? ⟨g2, o2 + i, none⟩ = some (.iface U2 y2) ∧ (b = true ↔ j.items[i]? = k.items[i]?) ∧
   ∀ W, Keeps (fun _ => False) w W → Calls Tryz.prog 41 #[.agg #[.iface U y], .agg #[.iface U2 y2]] W fun e w' => e = .returned (.bool b) ∧ Keeps (fun _ => False) W w') :
  Calls Tryz.prog 41 #[.agg #[.iface T x], .agg #[.iface T2 x2]] w fun e w' => (∃ b, e = .returned (.bool b) ∧ (b = true ↔ j.items = k.items)) ∧ Keeps (fun _ => False) w w' := by
 have HQ := H_ hQ
 clear hQ
 have HI := H_ hI
 have HI1 := H_ i1
 have HI2 := H_ i2
 have HN := H_ (And.intro hn hn2)
 clear hI i1 i2 hn hn2
 go_enter Tryz.func41, Tryz.ntmps41
 go_upto_region 1 with fail
 refine wp_region_held_drew (S := fun W => Boxes w W (.iface T x) (.iface T2 x2)) (by kernel_rfl) ((Boxes.made w _ _).stay (Keeps.refl _ _).drew) (fun h_ => ?_)
 refine tI 0 10 h_ ?_ (hy := .inl ⟨by rfl, by intro w' hSw; have cv := hSw.c1; go_simp; first | done | rfl⟩)
 try simp only [pu]
 refine tI 2 12 h_ ?_ (hy := .inl ⟨by rfl, by intro w' hSw; have cv := hSw.c2; go_simp; first | done | rfl⟩)
 try simp only [pu]
 refine rH 1 (some 11) fun K hK => ?_
 go_simp
 refine (HQ.out.s1 _).mono ?_
 rintro e vv ⟨rfl, hkk⟩
 have hqq := h_.stay hkk
 refine hK.out _ _ hqq (fun h_ => ?_)
 clear hK K
 try simp only [pu]
 refine rH 3 (some 13) fun K hK => ?_
 go_simp
 refine (HQ.out.s2 _).mono ?_
 rintro e vv ⟨rfl, hkk⟩
 have hqq := h_.stay hkk
 refine hK.out _ _ hqq (fun h_ => ?_)
 clear hK K
 try simp only [pu]
 refine tI 4 14 h_ ?_
 try simp only [pu]
 refine tI 5 15 h_ ?_
 try simp only [pu]
 refine tI 6 16 h_ ?_ (hy := .inl ⟨by rfl, by intro w' hSw; have cv := hSw.c1; go_simp; first | done | rfl⟩)
 try simp only [pu]
 refine tI 8 18 h_ ?_ (hy := .inl ⟨by rfl, by intro w' hSw; have cv := hSw.c2; go_simp; first | done | rfl⟩)
 try simp only [pu]
 refine rH 7 (some 17) fun K hK => ?_
 go_simp
 refine (HQ.out.l1 _ (h_.keep)).mono ?_
 rintro e vv ⟨rfl, hkk⟩
 have hqq := h_.stay hkk
 refine hK.out _ _ hqq (fun h_ => ?_)
 clear hK K
 try simp only [pu]
 refine rH 9 (some 19) fun K hK => ?_
 go_simp
 refine (HQ.out.l2 _ (h_.keep)).mono ?_
 rintro e vv ⟨rfl, hkk⟩
 have hqq := h_.stay hkk
 refine hK.out _ _ hqq (fun h_ => ?_)
 clear hK K
 try simp only [pu]
 refine tI 10 20 h_ ?_
 try simp only [pu]
 refine tI 11 21 h_ ?_
 try simp only [pu]
 refine tI 12 22 h_ ?_
 try simp only [pu]
 refine tI 13 23 h_ ?_ (hy := .inl ⟨by rfl, by intro w' hSw; have cv := hSw.c1; go_simp; first | done | rfl⟩)
 try simp only [pu]
 refine tI 15 25 h_ ?_ (hy := .inl ⟨by rfl, by intro w' hSw; have cv := hSw.c2; go_simp; first | done | rfl⟩)
 try simp only [pu]
 refine rH 14 (some 24) fun K hK => ?_
 go_simp
 refine (HQ.out.k1 _ (h_.keep)).mono ?_
 rintro e vv ⟨rfl, hkk⟩
 have hqq := h_.stay hkk
 refine hK.out _ _ hqq (fun h_ => ?_)
 clear hK K
 try simp only [pu]
 refine rH 16 (some 26) fun K hK => ?_
 go_simp
 refine (HQ.out.k2 _ (h_.keep)).mono ?_
 rintro e vv ⟨rfl, hkk⟩
 have hqq := h_.stay hkk
 refine hK.out _ _ hqq (fun h_ => ?_)
 clear hK K
 try simp only [pu]
 refine rH 17 (some 27) fun K hK => ?_
 go_simp
 refine (HQ.out.q _ (h_.keep)).mono ?_
 rintro e vv ⟨rfl, hkk⟩
 have hqq := h_.stay hkk
 refine hK.out _ _ hqq (fun h_ => ?_)
 clear hK K
 try simp only [pu]
 refine tI 18 28 h_ ?_
 try simp only [pu]
 refine tI 19 29 h_ ?_
 try simp only [pu]
 refine wpAnyH_done (by kernel_rfl) ?_ _
 have c1 := h_.c1
 have HB := H_ h_
 clear h_
 go_upto_region 8 with fail
 refine wp_region_held_drew (S := fun W => Boxes w W (.iface T x) (.iface T2 x2)) (by kernel_rfl) (HB.out.stay (Keeps.refl _ _).drew) (fun h_ => ?_)
 refine tI 0 43 h_ ?_ (hy := .inl ⟨by rfl, by intro w' hSw; have cv := hSw.c1; go_simp; first | done | rfl⟩)
 try simp only [pu]
 refine tI 2 45 h_ ?_ (hy := .inl ⟨by rfl, by intro w' hSw; have cv := hSw.c2; go_simp; first | done | rfl⟩)
 try simp only [pu]
 refine rH 1 (some 44) fun K hK => ?_
 go_simp
 refine (HI1.out _ (h_.keep)).mono ?_
 rintro e vv ⟨rfl, hkk⟩
 have hqq := h_.stay hkk
 refine hK.out _ _ hqq (fun h_ => ?_)
 clear hK K
 try simp only [pu]
 refine rH 3 (some 46) fun K hK => ?_
 go_simp
 refine (HI2.out _ (h_.keep)).mono ?_
 rintro e vv ⟨rfl, hkk⟩
 have hqq := h_.stay hkk
 refine hK.out _ _ hqq (fun h_ => ?_)
 clear hK K
 try simp only [pu]
 refine tI 4 7 h_ ?_
 try simp only [pu]
 refine tI 5 8 h_ ?_
 try simp only [pu]
 refine wpAnyH_done (by kernel_rfl) ?_ _
 have HB2 := H_ h_.keep
 clear h_
 go_upto_block 1 with fail
 go_wp2
 go_loopg [49] n (fun g2 i w3 => ∃ q, q ≤ n ∧ i = .int .i64 q ∧ g2 = n - q ∧ Hid (Keeps (fun _ => False) w w3 ∧ j.items.take q = k.items.take q))
 case atStart => exact ⟨0, by omega, rfl, rfl, H_ ⟨HB2.out, by simp⟩⟩
 case round =>
  obtain ⟨q, hq, rfl, hg2, HA⟩ := hrel
  have HG2 := H_ hg2
  clear hg2
  by_cases hlt : q < n
  ·obtain ⟨g, o, U, y, g3, o3, U3, y3, b, rfl, d1, rfl, d3, hbe, hc⟩ := HI.out q hlt
   have HC1 := H_ (cell_keep HA.out.1 d1)
   have HC2 := H_ (cell_keep HA.out.1 d3)
   have HC := H_ hc
   have HBE := H_ hbe
   clear d1 d3 hc hbe
   go_upto_region 12 with fail
   refine wp_region_held_drew (S := Keeps (fun _ => False) wr) (by kernel_rfl) (Keeps.refl (fun _ => False) _).drew (fun h_ => ?_)
   refine tI 0 52 h_ ?_
   try simp only [pu]
   refine tI 1 53 h_ ?_
   try simp only [pu]
   refine tI 2 54 h_ ?_
   try simp only [pu]
   refine tI 3 55 h_ ?_ (hy := .inl ⟨by rfl, by intro w' hSw; have cv := cell_keep hSw HC1.out; go_simp; first | done | rfl⟩)
   try simp only [pu]
   refine tI 4 56 h_ ?_
   try simp only [pu]
   refine tI 5 57 h_ ?_
   try simp only [pu]
   refine tI 6 58 h_ ?_
   try simp only [pu]
   refine tI 7 59 h_ ?_
   try simp only [pu]
   refine tI 8 60 h_ ?_ (hy := .inl ⟨by rfl, by intro w' hSw; have cv := cell_keep hSw HC2.out; go_simp; first | done | rfl⟩)
   try simp only [pu]
   refine tI 9 61 h_ ?_
   try simp only [pu]
   refine rH 10 (some 62) fun K hK => ?_
   go_simp
   refine (HC.out _ (HA.out.1.trans h_ (fun _ _ h => h))).mono ?_
   rintro e vv ⟨rfl, hkk⟩
   have hqq := h_.trans hkk (fun _ _ h => h)
   refine hK.out _ _ hqq (fun h_ => ?_)
   clear hK K
   try simp only [pu]
   refine tI 11 63 h_ ?_
   try simp only [pu]
   refine wpAnyH_done (by kernel_rfl) ?_ _
   have HW := H_ (HA.out.1.trans h_ (fun _ _ h => h))
   clear h_
   rcases b with _ | _
   ·have HF : Hid (j.items ≠ k.items) := H_ fun e => by
     have := HBE.out.2 (by rw [e])
     cases this
    go_wp2
    go_ret
    exact ⟨⟨false, rfl, by simp [HF.out]⟩, HW.out⟩
   ·have HT : Hid (j.items.take (q + 1) = k.items.take (q + 1)) := H_ (by
     rw [List.take_add_one, List.take_add_one, HA.out.2, HBE.out.1 rfl])
    go_wp2
    go_roundg (n - (q + 1))
    case measure => rw [HG2.out]; omega
    case rel => exact ⟨q + 1, by omega, by go_num, rfl, H_ ⟨HW.out, HT.out⟩⟩
  ·obtain rfl : q = n := by omega
   have HT : Hid (j.items = k.items) := H_ (by
    have h := HA.out.2
    rwa [List.take_of_length_le (by rw [HN.out.1]; exact Nat.le_refl _), List.take_of_length_le (by rw [HN.out.2]; exact Nat.le_refl _)] at h)
   go_wp2
   go_ret
   exact ⟨⟨true, rfl, by simp [HT.out]⟩, HA.out.1⟩
theorem same_object (w : World) (T : TypeId) (x : Value) (T2 : TypeId) (x2 : Value) (j k : JV) (A : Option Addr) (c : Nat) (A2 : Option Addr) (c2 : Nat) (hQ : SameQ w T x T2 x2 j k A c A2 c2) (hs : (j.sort != k.sort) = false) (hl : ((j.items.length : Int) != (k.items.length : Int)) = false) (hk : decide (j.keys = k.keys) = true)
  (a1 : ∀ W, (Instr.typeAssert (.iface T x) 93 186 true).run Tryz.prog W = .ok (.tuple #[.pointer none, .bool false]) W) (a2 : ∀ W, (Instr.typeAssert (.iface T x) 93 187 true).run Tryz.prog W = .ok (.tuple #[x, .bool true]) W) (n : Nat) (hn : j.items.length = n) (hn2 : k.items.length = n) (hnb : n ≤ 1099511627776)
  (I : Option Addr) (ci : Nat) (I2 : Option Addr) (ci2 : Nat) (i1 : ∀ W, Keeps (fun _ => False) w W → Calls Tryz.prog 84 #[.agg #[.iface T x]] W fun e w' => e = .returned (.slice I n ci) ∧ Keeps (fun _ => False) W w')
  (i2 : ∀ W, Keeps (fun _ => False) w W → Calls Tryz.prog 84 #[.agg #[.iface T2 x2]] W fun e w' => e = .returned (.slice I2 n ci2) ∧ Keeps (fun _ => False) W w')
  (hI : ∀ i, i < n → ∃ g o U y g2 o2 U2 y2 b, I = some ⟨g, o, none⟩ ∧ w.cell? ⟨g, o + i, none⟩ = some (.iface U y) ∧ I2 = some ⟨g2, o2, none⟩ ∧ w.cell? ⟨g2, o2 + i, none⟩ = some (.iface U2 y2) ∧ (b = true ↔ j.items[i]? = k.items[i]?) ∧
   ∀ W, Keeps (fun _ => False) w W → Calls Tryz.prog 41 #[.agg #[.iface U y], .agg #[.iface U2 y2]] W fun e w' => e = .returned (.bool b) ∧ Keeps (fun _ => False) W w') :
  Calls Tryz.prog 41 #[.agg #[.iface T x], .agg #[.iface T2 x2]] w fun e w' => (∃ b, e = .returned (.bool b) ∧ (b = true ↔ j.items = k.items)) ∧ Keeps (fun _ => False) w w' := by
 have HQ := H_ hQ
 clear hQ
 have HI := H_ hI
 have HI1 := H_ i1
 have HI2 := H_ i2
 have HN := H_ (And.intro hn hn2)
 clear hI i1 i2 hn hn2
 go_enter Tryz.func41, Tryz.ntmps41
 go_upto_region 1 with fail
 refine wp_region_held_drew (S := fun W => Boxes w W (.iface T x) (.iface T2 x2)) (by kernel_rfl) ((Boxes.made w _ _).stay (Keeps.refl _ _).drew) (fun h_ => ?_)
 refine tI 0 10 h_ ?_ (hy := .inl ⟨by rfl, by intro w' hSw; have cv := hSw.c1; go_simp; first | done | rfl⟩)
 try simp only [pu]
 refine tI 2 12 h_ ?_ (hy := .inl ⟨by rfl, by intro w' hSw; have cv := hSw.c2; go_simp; first | done | rfl⟩)
 try simp only [pu]
 refine rH 1 (some 11) fun K hK => ?_
 go_simp
 refine (HQ.out.s1 _).mono ?_
 rintro e vv ⟨rfl, hkk⟩
 have hqq := h_.stay hkk
 refine hK.out _ _ hqq (fun h_ => ?_)
 clear hK K
 try simp only [pu]
 refine rH 3 (some 13) fun K hK => ?_
 go_simp
 refine (HQ.out.s2 _).mono ?_
 rintro e vv ⟨rfl, hkk⟩
 have hqq := h_.stay hkk
 refine hK.out _ _ hqq (fun h_ => ?_)
 clear hK K
 try simp only [pu]
 refine tI 4 14 h_ ?_
 try simp only [pu]
 refine tI 5 15 h_ ?_
 try simp only [pu]
 refine tI 6 16 h_ ?_ (hy := .inl ⟨by rfl, by intro w' hSw; have cv := hSw.c1; go_simp; first | done | rfl⟩)
 try simp only [pu]
 refine tI 8 18 h_ ?_ (hy := .inl ⟨by rfl, by intro w' hSw; have cv := hSw.c2; go_simp; first | done | rfl⟩)
 try simp only [pu]
 refine rH 7 (some 17) fun K hK => ?_
 go_simp
 refine (HQ.out.l1 _ (h_.keep)).mono ?_
 rintro e vv ⟨rfl, hkk⟩
 have hqq := h_.stay hkk
 refine hK.out _ _ hqq (fun h_ => ?_)
 clear hK K
 try simp only [pu]
 refine rH 9 (some 19) fun K hK => ?_
 go_simp
 refine (HQ.out.l2 _ (h_.keep)).mono ?_
 rintro e vv ⟨rfl, hkk⟩
 have hqq := h_.stay hkk
 refine hK.out _ _ hqq (fun h_ => ?_)
 clear hK K
 try simp only [pu]
 refine tI 10 20 h_ ?_
 try simp only [pu]
 refine tI 11 21 h_ ?_
 try simp only [pu]
 refine tI 12 22 h_ ?_
 try simp only [pu]
 refine tI 13 23 h_ ?_ (hy := .inl ⟨by rfl, by intro w' hSw; have cv := hSw.c1; go_simp; first | done | rfl⟩)
 try simp only [pu]
 refine tI 15 25 h_ ?_ (hy := .inl ⟨by rfl, by intro w' hSw; have cv := hSw.c2; go_simp; first | done | rfl⟩)
 try simp only [pu]
 refine rH 14 (some 24) fun K hK => ?_
 go_simp
 refine (HQ.out.k1 _ (h_.keep)).mono ?_
 rintro e vv ⟨rfl, hkk⟩
 have hqq := h_.stay hkk
 refine hK.out _ _ hqq (fun h_ => ?_)
 clear hK K
 try simp only [pu]
 refine rH 16 (some 26) fun K hK => ?_
 go_simp
 refine (HQ.out.k2 _ (h_.keep)).mono ?_
 rintro e vv ⟨rfl, hkk⟩
 have hqq := h_.stay hkk
 refine hK.out _ _ hqq (fun h_ => ?_)
 clear hK K
 try simp only [pu]
 refine rH 17 (some 27) fun K hK => ?_
 go_simp
 refine (HQ.out.q _ (h_.keep)).mono ?_
 rintro e vv ⟨rfl, hkk⟩
 have hqq := h_.stay hkk
 refine hK.out _ _ hqq (fun h_ => ?_)
 clear hK K
 try simp only [pu]
 refine tI 18 28 h_ ?_
 try simp only [pu]
 refine tI 19 29 h_ ?_
 try simp only [pu]
 refine wpAnyH_done (by kernel_rfl) ?_ _
 have c1 := h_.c1
 have HB := H_ h_
 clear h_
 go_upto_region 8 with fail
 refine wp_region_held_drew (S := fun W => Boxes w W (.iface T x) (.iface T2 x2)) (by kernel_rfl) (HB.out.stay (Keeps.refl _ _).drew) (fun h_ => ?_)
 refine tI 0 43 h_ ?_ (hy := .inl ⟨by rfl, by intro w' hSw; have cv := hSw.c1; go_simp; first | done | rfl⟩)
 try simp only [pu]
 refine tI 2 45 h_ ?_ (hy := .inl ⟨by rfl, by intro w' hSw; have cv := hSw.c2; go_simp; first | done | rfl⟩)
 try simp only [pu]
 refine rH 1 (some 44) fun K hK => ?_
 go_simp
 refine (HI1.out _ (h_.keep)).mono ?_
 rintro e vv ⟨rfl, hkk⟩
 have hqq := h_.stay hkk
 refine hK.out _ _ hqq (fun h_ => ?_)
 clear hK K
 try simp only [pu]
 refine rH 3 (some 46) fun K hK => ?_
 go_simp
 refine (HI2.out _ (h_.keep)).mono ?_
 rintro e vv ⟨rfl, hkk⟩
 have hqq := h_.stay hkk
 refine hK.out _ _ hqq (fun h_ => ?_)
 clear hK K
 try simp only [pu]
 refine tI 4 7 h_ ?_
 try simp only [pu]
 refine tI 5 8 h_ ?_
 try simp only [pu]
 refine wpAnyH_done (by kernel_rfl) ?_ _
 have HB2 := H_ h_.keep
 clear h_
 go_upto_block 1 with fail
 go_wp2
 go_loopg [49] n (fun g2 i w3 => ∃ q, q ≤ n ∧ i = .int .i64 q ∧ g2 = n - q ∧ Hid (Keeps (fun _ => False) w w3 ∧ j.items.take q = k.items.take q))
 case atStart => exact ⟨0, by omega, rfl, rfl, H_ ⟨HB2.out, by simp⟩⟩
 case round =>
  obtain ⟨q, hq, rfl, hg2, HA⟩ := hrel
  have HG2 := H_ hg2
  clear hg2
  by_cases hlt : q < n
  ·obtain ⟨g, o, U, y, g3, o3, U3, y3, b, rfl, d1, rfl, d3, hbe, hc⟩ := HI.out q hlt
   have HC1 := H_ (cell_keep HA.out.1 d1)
   have HC2 := H_ (cell_keep HA.out.1 d3)
   have HC := H_ hc
   have HBE := H_ hbe
   clear d1 d3 hc hbe
   go_upto_region 12 with fail
   refine wp_region_held_drew (S := Keeps (fun _ => False) wr) (by kernel_rfl) (Keeps.refl (fun _ => False) _).drew (fun h_ => ?_)
   refine tI 0 52 h_ ?_
   try simp only [pu]
   refine tI 1 53 h_ ?_
   try simp only [pu]
   refine tI 2 54 h_ ?_
   try simp only [pu]
   refine tI 3 55 h_ ?_ (hy := .inl ⟨by rfl, by intro w' hSw; have cv := cell_keep hSw HC1.out; go_simp; first | done | rfl⟩)
   try simp only [pu]
   refine tI 4 56 h_ ?_
   try simp only [pu]
   refine tI 5 57 h_ ?_
   try simp only [pu]
   refine tI 6 58 h_ ?_
   try simp only [pu]
   refine tI 7 59 h_ ?_
   try simp only [pu]
   refine tI 8 60 h_ ?_ (hy := .inl ⟨by rfl, by intro w' hSw; have cv := cell_keep hSw HC2.out; go_simp; first | done | rfl⟩)
   try simp only [pu]
   refine tI 9 61 h_ ?_
   try simp only [pu]
   refine rH 10 (some 62) fun K hK => ?_
   go_simp
   refine (HC.out _ (HA.out.1.trans h_ (fun _ _ h => h))).mono ?_
   rintro e vv ⟨rfl, hkk⟩
   have hqq := h_.trans hkk (fun _ _ h => h)
   refine hK.out _ _ hqq (fun h_ => ?_)
   clear hK K
   try simp only [pu]
   refine tI 11 63 h_ ?_
   try simp only [pu]
   refine wpAnyH_done (by kernel_rfl) ?_ _
   have HW := H_ (HA.out.1.trans h_ (fun _ _ h => h))
   clear h_
   rcases b with _ | _
   ·have HF : Hid (j.items ≠ k.items) := H_ fun e => by
     have := HBE.out.2 (by rw [e])
     cases this
    go_wp2
    go_ret
    exact ⟨⟨false, rfl, by simp [HF.out]⟩, HW.out⟩
   ·have HT : Hid (j.items.take (q + 1) = k.items.take (q + 1)) := H_ (by
     rw [List.take_add_one, List.take_add_one, HA.out.2, HBE.out.1 rfl])
    go_wp2
    go_roundg (n - (q + 1))
    case measure => rw [HG2.out]; omega
    case rel => exact ⟨q + 1, by omega, by go_num, rfl, H_ ⟨HW.out, HT.out⟩⟩
  ·obtain rfl : q = n := by omega
   have HT : Hid (j.items = k.items) := H_ (by
    have h := HA.out.2
    rwa [List.take_of_length_le (by rw [HN.out.1]; exact Nat.le_refl _), List.take_of_length_le (by rw [HN.out.2]; exact Nat.le_refl _)] at h)
   go_wp2
   go_ret
   exact ⟨⟨true, rfl, by simp [HT.out]⟩, HA.out.1⟩
end Go.Proofs.YtplleficmkfniaaGreatDoor
