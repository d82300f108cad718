/- Texts. -/
import Derived.Test.YtdmcioghdindfaaGreatDoorT06
import Derived.Sort.Grow
import Derived.Lib.ConvBytes
set_option linter.unusedSimpArgs false
set_option maxRecDepth 100000
set_option maxHeartbeats 4000000
namespace Go.Json
theorem sumN_perm {a b : List Nat} (h : a.Perm b) : sumN a = sumN b := by
 induction h with
 | nil => rfl
 | cons x _ ih => simp [sumN, ih]
 | swap x y l => simp only [sumN]; omega
 | trans _ _ h1 h2 => exact h1.trans h2
theorem maxN_perm {a b : List Nat} (h : a.Perm b) : maxN a = maxN b := by
 induction h with
 | nil => rfl
 | cons x _ ih => simp [maxN, ih]
 | swap x y l => simp only [maxN]; omega
 | trans _ _ h1 h2 => exact h1.trans h2
theorem keys_rise {ks : List ByteArray} (h : ks.Pairwise fun a b => ¬ ltS b a) (hn : ks.Nodup) (hr : ∀ s ∈ ks, rightS s = true) : ks.Pairwise ltS := by
 induction ks with
 | nil => exact .nil
 | cons a ks ih =>
  have h' := List.pairwise_cons.1 h
  rw [List.nodup_cons] at hn
  refine List.pairwise_cons.2 ⟨fun b hb => ?_, ih h'.2 hn.2 fun s hs => hr s (List.mem_cons_of_mem _ hs)⟩
  rcases ltS_tri (hr a List.mem_cons_self) (hr b (List.mem_cons_of_mem _ hb)) with h1 | h1 | h1
  ·exact h1
  ·exact absurd (h1 ▸ hb) hn.1
  exact absurd h1 (h'.1 b hb)
theorem rising_map {l : List (ByteArray × JV)} (h : Rising l) : (l.map (·.1)).Pairwise ltS := List.pairwise_map.2 h
section
variable {ks : List ByteArray} {L : List JV}
theorem zip_fst (hl : ks.length = L.length) : (ks.zip L).map (·.1) = ks := List.map_fst_zip (by omega)
theorem zip_snd (hl : ks.length = L.length) : (ks.zip L).map (·.2) = L := List.map_snd_zip (by omega)
theorem sorted_rising (hl : ks.length = L.length) (hn : ks.Nodup) (hr : ∀ s ∈ ks, rightS s = true) : Rising (sortM (ks.zip L)) :=
 sortM_rising _ (by rw [zip_fst hl]; exact hn) fun p hp => hr p.1 (by rw [← zip_fst hl]; exact List.mem_map.2 ⟨p, hp, rfl⟩)
theorem keys_sorted {ks' : List ByteArray} (hl : ks.length = L.length) (hn : ks.Nodup) (hr : ∀ s ∈ ks, rightS s = true) (hp : ks'.Perm ks) (hs : ks'.Pairwise fun a b => ¬ ltS b a) : ks' = (sortM (ks.zip L)).map (·.1) := by
 refine rising_keys (keys_rise hs (hp.nodup_iff.2 hn) fun s h => hr s (hp.mem_iff.1 h)) (rising_map (sorted_rising hl hn hr)) fun x => ?_
 have h2 : ((sortM (ks.zip L)).map (·.1)).Perm ks := by
  have := (sortM_perm (ks.zip L)).map (·.1)
  rwa [zip_fst hl] at this
 rw [hp.mem_iff, h2.mem_iff]
theorem snd_perm (hl : ks.length = L.length) : ((sortM (ks.zip L)).map (·.2)).Perm L := by
 have := (sortM_perm (ks.zip L)).map (·.2)
 rwa [zip_snd hl] at this
theorem fst_perm (hl : ks.length = L.length) : ((sortM (ks.zip L)).map (·.1)).Perm ks := by
 have := (sortM_perm (ks.zip L)).map (·.1)
 rwa [zip_fst hl] at this
end
end Go.Json
namespace Go.Proofs.YtdmcioghdindfaaGreatDoor
open Go Go.RowKit Go.Aff Go.Json
theorem sums_perm {a b : List JV} (h : a.Perm b) : sums a = sums b := by
 unfold sums
 rw [sumN_perm (h.map _), sumN_perm (h.map _), maxN_perm (h.map _)]
theorem obj_sizes {ks : List ByteArray} {L : List JV} (hl : ks.length = L.length) : sizeV (mkObj ks L) = [.int .i64 (1 + (sums L).1 : Nat), .int .i64 (sumN (ks.map fun k => k.size) + (sums L).2.1 : Nat), .int .i64 ((sums L).2.2 + 1 : Nat)] := by
 have h1 := sums_perm (snd_perm hl)
 have h2 : sumN (((sortM (ks.zip L)).map (·.1)).map fun k => k.size) = sumN (ks.map fun k => k.size) := sumN_perm ((fst_perm hl).map _)
 rw [← h1, ← h2]
 unfold sizeV
 rw [JV.nodes_eq, JV.bytes_eq, JV.deep_eq]
 rfl
theorem doF_obj_wrong {P : List JV} {s : StepV} (hu : usedF s = true) (hs : s.sort = 6) (hr : s.keys.all rightS = false) : doF P s = .inl 100 := by
 unfold doF
 rw [if_neg (by rw [hu]; decide), if_neg (by omega), if_pos (.inr hr)]
theorem doF_obj {P : List JV} {s : StepV} (hu : usedF s = true) (hs : s.sort = 6) (hr : s.keys.all rightS = true) :
  doF P s = if ¬ s.keys.Nodup then .inl 101 else if P.length < s.keys.length then .inl 102 else if ¬ (mkObj s.keys (P.drop (P.length - s.keys.length))).within then .inl 3
   else .inr (P.take (P.length - s.keys.length) ++ [mkObj s.keys (P.drop (P.length - s.keys.length))]) := by
 obtain ⟨u1, u2, _, _, _, _⟩ := used_parts hu
 have ht := right_empty (u1 (by omega))
 have hc := u2 (by omega)
 have hz : s.count.toNat + s.keys.length = s.keys.length := by rw [hc]; simp
 have hm : ∀ L, mkV s L = mkObj s.keys L := fun L => by simp [mkV, hs]
 unfold doF
 rw [if_neg (by rw [hu]; decide), if_neg (by omega), if_neg (by rw [ht, hr]; simp), hz, hm]
theorem textAt {w : World} {A : Option Addr} {n : Nat} {ks : List ByteArray} (h : Rd w A n (ks.map .string)) {j : Nat} (hj : j < n) : ∃ g o s, A = some ⟨g, o, none⟩ ∧ ks[j]? = some s ∧ w.cell? ⟨g, o + j, none⟩ = some (.string s) := by
 obtain ⟨g, o, e, q⟩ := h.2 (by omega)
 have hl : ks.length = n := by simpa using h.1
 obtain ⟨s, hs⟩ : ∃ s, ks[j]? = some s := ⟨_, List.getElem?_eq_getElem (by omega)⟩
 refine ⟨g, o, s, e, hs, ?_⟩
 rw [q j hj, List.getElem?_map, hs]; rfl
def byF (ks : List ByteArray) : Nat := sumN (ks.map fun k => k.size)
theorem byF_take {ks : List ByteArray} {i : Nat} {s : ByteArray} (h : ks[i]? = some s) : byF (ks.take (i + 1)) = byF (ks.take i) + s.size := by
 unfold byF
 rw [List.take_add_one, h]
 simp [sumN_append, sumN]
theorem byF_le (ks : List ByteArray) (i : Nat) : byF (ks.take i) ≤ byF ks := by
 have : byF ks = byF (ks.take i) + byF (ks.drop i) := by
  unfold byF
  rw [← sumN_append, ← List.map_append, List.take_append_drop]
 omega
theorem size_le {ks : List ByteArray} {s : ByteArray} (h : s ∈ ks) : s.size ≤ byF ks := by
 induction ks with
 | nil => cases h
 | cons a ks ih =>
  have e : byF (a :: ks) = a.size + byF ks := rfl
  rcases List.mem_cons.1 h with rfl | h
  ·omega
  have := ih h; omega
end Go.Proofs.YtdmcioghdindfaaGreatDoor
namespace Go.Aff
open Go Go.RowKit
structure Kp (F : Nat → Prop) (w w' : World) : Prop where
 keeps : Keeps F w w'
 drawn : w.drawn ≤ w'.drawn
section
variable {F G : Nat → Prop} {w w1 w2 : World}
theorem Kp.refl (F : Nat → Prop) (w : World) : Kp F w w := ⟨Keeps.refl F w, Nat.le_refl _⟩
theorem Kp.trans (h : Kp F w w1) (k : Kp G w1 w2) (hG : ∀ i, i < w.heap.size → G i → F i) : Kp F w w2 := ⟨h.keeps.trans k.keeps hG, Nat.le_trans h.drawn k.drawn⟩
theorem Kp.mono (h : Kp F w w1) (hG : ∀ i, i < w.heap.size → F i → G i) : Kp G w w1 := ⟨h.keeps.mono hG, h.drawn⟩
theorem Kp.drewN (h : Kp F w w1) (n : Nat) : Kp F w (w1.drewN n) := ⟨h.keeps.drewN n, Nat.le_trans h.drawn (Nat.le_add_right _ _)⟩
theorem Kp.drew (h : Kp F w w1) : Kp F w w1.drew := ⟨h.keeps.drew, Nat.le_trans h.drawn (Nat.le_add_right _ 1)⟩
theorem Kp.alloc (h : Kp F w w1) (o : Obj) : Kp F w (w1.alloc o) := ⟨h.keeps.alloc o, h.drawn⟩
theorem Kp.setCell (h : Kp F w w1) {p : Addr} (hp : F p.block ∨ w.heap.size ≤ p.block) (u : Value) : Kp F w (w1.setCell p u) := ⟨h.keeps.setCell hp u, h.drawn⟩
theorem Kp.size (h : Kp F w w1) : w.heap.size ≤ w1.heap.size := h.keeps.size
theorem Kp.blk {g : Nat} {t : TypeId} {cs : List Value} (h : Kp F w w1) (hb : Blk w g t cs) (hn : ¬ F g) : Blk w1 g t cs := h.keeps.blk hb hn
theorem Rd.keepK {A : Option Addr} {n : Nat} {xs : List Value} (h : Rd w A n xs) (hk : Kp F w w1) (ho : Out F A n) : Rd w1 A n xs := h.keep hk.keeps ho
theorem bytesWorld_kp (w : World) (e : TypeId) (s : ByteArray) : Kp (fun _ => False) w (Lib.bytesWorld w e s) :=
 ⟨⟨rfl, rfl, rfl, by rw [Lib.bytesWorld_size]; omega, fun i hi _ => Lib.bytesWorld_at_old w e s i hi⟩, Nat.le_succ _⟩
theorem Kp.grows (h : Kp (fun _ => False) w w1) : ∃ q os, w1 = Go.Sort.grow (w.drewN q) os := by
 refine ⟨w1.drawn - w.drawn, w1.heap.extract w.heap.size w1.heap.size, ?_⟩
 have hs := h.keeps.size
 have hh : w1.heap = w.heap ++ w1.heap.extract w.heap.size w1.heap.size := by
  apply Array.ext_getElem?
  intro i
  rw [Array.getElem?_append]
  by_cases hi : i < w.heap.size
  ·rw [if_pos hi]; exact h.keeps.block i hi (fun h => h)
  rw [if_neg hi, Array.getElem?_extract]
  by_cases h2 : i - w.heap.size < min w1.heap.size w1.heap.size - w.heap.size
  ·rw [if_pos h2]; congr 1; omega
  rw [if_neg h2]; exact Array.getElem?_eq_none (by omega)
 have hd : w.drawn + (w1.drawn - w.drawn) = w1.drawn := by have := h.drawn; omega
 have e1 := h.keeps.os
 have e2 := h.keeps.tape
 have e3 := h.keeps.output
 cases w1 with
 | mk heap1 tape1 drawn1 os1 output1 =>
 cases w with
 | mk heap tape drawn os output =>
 simp only at hh hd e1 e2 e3
 subst e1 e2 e3
 show World.mk _ _ _ _ _ = World.mk (heap ++ _) _ _ _ _
 congr 1
 exact hd.symm
end
end Go.Aff
namespace Go.Proofs.YtdmcioghdindfaaGreatDoor
open Go Go.RowKit Go.Aff Go.Utf
def formV (f : Int × Int × Int) : List Value := [.int .i64 f.1, .int .u8 f.2.1, .int .u8 f.2.2]
theorem form_any (w : World) (c : Int) : Calls Tryz.prog 155 #[.int .u8 c] w fun e w' => e = .returned (.agg (formV (formF c)).toArray) ∧ Kp (fun _ => False) w w' := by
 have hb := Blk.new w 269 [.int .i64 0, .int .u8 0, .int .u8 0]
 have f0 := hb.frozen 0
 have f1 := hb.frozen 1
 have f2 := hb.frozen 2
 have HK := H_ fun vs => (Kp.refl (fun _ => False) w).alloc (.cells vs 269)
 have HR := H_ fun x y z => Blk.new w 269 [.int .i64 x, .int .u8 y, .int .u8 z]
 clear hb
 by_cases h0 : c < 128
 ·have HF : Hid (formF c = (1, 0, 0)) := H_ (by simp [formF, h0])
  go_enter Tryz.func155, Tryz.ntmps155
  go_wp2
  rw [HF.out]
  exact bodyPost_ret (results_blk rfl _ _ rfl (HR.out 1 0 0) Tryz.underlying269 rfl (by kernel_rfl)) rfl ⟨rfl, HK.out _⟩
 skip
 by_cases h1 : c < 194
 ·have HF : Hid (formF c = (0, 0, 0)) := H_ (by simp [formF, h0, h1])
  go_enter Tryz.func155, Tryz.ntmps155
  go_wp2
  rw [HF.out]
  exact bodyPost_ret (results_blk rfl _ _ rfl (HR.out 0 0 0) Tryz.underlying269 rfl (by kernel_rfl)) rfl ⟨rfl, HK.out _⟩
 skip
 by_cases h2 : c < 224
 ·have HF : Hid (formF c = (2, 128, 191)) := H_ (by simp [formF, h0, h1, h2])
  go_enter Tryz.func155, Tryz.ntmps155
  go_wp2
  rw [HF.out]
  exact bodyPost_ret (results_blk rfl _ _ rfl (HR.out 2 128 191) Tryz.underlying269 rfl (by kernel_rfl)) rfl ⟨rfl, HK.out _⟩
 skip
 by_cases h3 : c = 224
 ·subst h3
  have HF : Hid (formF 224 = (3, 160, 191)) := H_ (by decide)
  go_enter Tryz.func155, Tryz.ntmps155
  go_wp2
  rw [HF.out]
  exact bodyPost_ret (results_blk rfl _ _ rfl (HR.out 3 160 191) Tryz.underlying269 rfl (by kernel_rfl)) rfl ⟨rfl, HK.out _⟩
 have e3 : (c == 224) = false := by simp [h3]
 by_cases h4 : c = 237
 ·subst h4
  have HF : Hid (formF 237 = (3, 128, 159)) := H_ (by decide)
  go_enter Tryz.func155, Tryz.ntmps155
  go_wp2
  rw [HF.out]
  exact bodyPost_ret (results_blk rfl _ _ rfl (HR.out 3 128 159) Tryz.underlying269 rfl (by kernel_rfl)) rfl ⟨rfl, HK.out _⟩
 have e4 : (c == 237) = false := by simp [h4]
 by_cases h5 : c < 240
 ·have HF : Hid (formF c = (3, 128, 191)) := H_ (by simp [formF, h0, h1, h2, h3, h4, h5])
  go_enter Tryz.func155, Tryz.ntmps155
  go_wp2
  rw [HF.out]
  exact bodyPost_ret (results_blk rfl _ _ rfl (HR.out 3 128 191) Tryz.underlying269 rfl (by kernel_rfl)) rfl ⟨rfl, HK.out _⟩
 skip
 by_cases h6 : c = 240
 ·subst h6
  have HF : Hid (formF 240 = (4, 144, 191)) := H_ (by decide)
  go_enter Tryz.func155, Tryz.ntmps155
  go_wp2
  rw [HF.out]
  exact bodyPost_ret (results_blk rfl _ _ rfl (HR.out 4 144 191) Tryz.underlying269 rfl (by kernel_rfl)) rfl ⟨rfl, HK.out _⟩
 have e6 : (c == 240) = false := by simp [h6]
 by_cases h7 : c < 244
 ·have HF : Hid (formF c = (4, 128, 191)) := H_ (by simp [formF, h0, h1, h2, h3, h4, h5, h6, h7])
  go_enter Tryz.func155, Tryz.ntmps155
  go_wp2
  rw [HF.out]
  exact bodyPost_ret (results_blk rfl _ _ rfl (HR.out 4 128 191) Tryz.underlying269 rfl (by kernel_rfl)) rfl ⟨rfl, HK.out _⟩
 skip
 by_cases h8 : c = 244
 ·subst h8
  have HF : Hid (formF 244 = (4, 128, 143)) := H_ (by decide)
  go_enter Tryz.func155, Tryz.ntmps155
  go_wp2
  rw [HF.out]
  exact bodyPost_ret (results_blk rfl _ _ rfl (HR.out 4 128 143) Tryz.underlying269 rfl (by kernel_rfl)) rfl ⟨rfl, HK.out _⟩
 have e8 : (c == 244) = false := by simp [h8]
 have HF : Hid (formF c = (0, 0, 0)) := H_ (by simp [formF, h0, h1, h2, h3, h4, h5, h6, h7, h8])
 go_enter Tryz.func155, Tryz.ntmps155
 go_wp2
 rw [HF.out]
 exact bodyPost_ret (results_blk rfl _ _ rfl (HR.out 0 0 0) Tryz.underlying269 rfl (by kernel_rfl)) rfl ⟨rfl, HK.out _⟩
theorem may_any (w : World) (f : Int × Int × Int) (i c : Int) : Calls Tryz.prog 156 #[.agg (formV f).toArray, .int .i64 i, .int .u8 c] w fun e w' => e = .returned (.bool (mayF f i c)) ∧ Kp (fun _ => False) w w' := by
 obtain ⟨n, lo, hi⟩ := f
 have hb := Blk.new w 269 [.int .i64 n, .int .u8 lo, .int .u8 hi]
 have c1 := hb.cell 1
 have c2 := hb.cell 2
 have HK := H_ ((Kp.refl (fun _ => False) w).alloc (.cells #[.int .i64 n, .int .u8 lo, .int .u8 hi] 269))
 clear hb
 show Calls _ _ #[.agg #[.int .i64 n, .int .u8 lo, .int .u8 hi], .int .i64 i, .int .u8 c] w _
 by_cases h0 : i = 1
 ·subst h0
  by_cases h1 : lo ≤ c
  ·have h1d : decide (lo ≤ c) = true := by simp [h1]
   by_cases h2 : c ≤ hi
   ·have h2d : decide (c ≤ hi) = true := by simp [h2]
    have HF : Hid (mayF (n, lo, hi) 1 c = true) := H_ (by simp [mayF, if_true, h1, h2])
    go_enter Tryz.func156, Tryz.ntmps156
    go_wp2
    go_ret
    exact ⟨by rw [HF.out]; rfl, HK.out⟩
   have h2d : decide (c ≤ hi) = false := by simp [h2]
   have HF : Hid (mayF (n, lo, hi) 1 c = false) := H_ (by simp [mayF, if_true, h2])
   go_enter Tryz.func156, Tryz.ntmps156
   go_wp2
   go_ret
   exact ⟨by rw [HF.out]; rfl, HK.out⟩
  have h1d : decide (lo ≤ c) = false := by simp [h1]
  have HF : Hid (mayF (n, lo, hi) 1 c = false) := H_ (by simp [mayF, if_true, h1])
  go_enter Tryz.func156, Tryz.ntmps156
  go_wp2
  go_ret
  exact ⟨by rw [HF.out]; rfl, HK.out⟩
 have e0 : (i == 1) = false := by simp [h0]
 by_cases h1 : 128 ≤ c
 ·have h1d : decide (128 ≤ c) = true := by simp [h1]
  by_cases h2 : c ≤ 191
  ·have h2d : decide (c ≤ 191) = true := by simp [h2]
   have HF : Hid (mayF (n, lo, hi) i c = true) := H_ (by simp [mayF, h0, h1, h2])
   go_enter Tryz.func156, Tryz.ntmps156
   go_wp2
   go_ret
   exact ⟨by rw [HF.out]; rfl, HK.out⟩
  have h2d : decide (c ≤ 191) = false := by simp [h2]
  have HF : Hid (mayF (n, lo, hi) i c = false) := H_ (by simp [mayF, h0, h2])
  go_enter Tryz.func156, Tryz.ntmps156
  go_wp2
  go_ret
  exact ⟨by rw [HF.out]; rfl, HK.out⟩
 have h1d : decide (128 ≤ c) = false := by simp [h1]
 have HF : Hid (mayF (n, lo, hi) i c = false) := H_ (by simp [mayF, h0, h1])
 go_enter Tryz.func156, Tryz.ntmps156
 go_wp2
 go_ret
 exact ⟨by rw [HF.out]; rfl, HK.out⟩
end Go.Proofs.YtdmcioghdindfaaGreatDoor
namespace Go.Utf
def HeldOK (H : List Int) : Prop := H = [] ∨ ∃ x r, H = x :: r ∧ ((r.length : Int) + 1) < (formF x).1
theorem form_le (c : Int) : (formF c).1 ≤ 4 := by
 unfold formF
 repeat' split
 all_goals simp
theorem HeldOK.short {H : List Int} (h : HeldOK H) : H.length ≤ 3 := by
 rcases h with rfl | ⟨x, r, rfl, h⟩
 ·simp
 have := form_le x
 rw [List.length_cons]
 omega
theorem HeldOK.take {H H' : List Int} (h : HeldOK H) {c : Int} (e : takeF H c = some H') : HeldOK H' := by
 rcases h with rfl | ⟨x, r, rfl, h⟩
 ·unfold takeF at e
  simp only at e
  split at e
  ·cases e
  split at e
  ·injection e with e; subst e
   exact .inr ⟨c, [], rfl, by rename_i h1; simp; omega⟩
  injection e with e; subst e; exact .inl rfl
 unfold takeF at e
 simp only at e
 split at e
 ·split at e
  ·injection e with e; subst e; exact .inl rfl
  injection e with e; subst e
  exact .inr ⟨x, r ++ [c], rfl, by rename_i h1; rw [List.length_append]; simp; omega⟩
 cases e
end Go.Utf
namespace Go.Proofs.YtdmcioghdindfaaGreatDoor
open Go Go.RowKit Go.Aff Go.Utf
structure FeedAt (w : World) (q : Nat) (pl : Int) (H : List Int) (wr : Bool) : Prop where
 ok : HeldOK H
 blk : ∃ a b c d : Int, Blk w q 253 [.int .i64 pl, .int .u8 a, .int .u8 b, .int .u8 c, .int .u8 d, .int .i64 H.length, .bool wr] ∧ [a, b, c, d].take H.length = H
theorem FeedAt.stay {w w' : World} {q : Nat} {pl : Int} {H : List Int} {wr : Bool} (h : FeedAt w q pl H wr) (hk : Kp (fun _ => False) w w') : FeedAt w' q pl H wr := by
 obtain ⟨ok, a, b, c, d, hb, e⟩ := h
 exact ⟨ok, a, b, c, d, hk.blk hb (fun h => h), e⟩
theorem take_nothing (w : World) (q : Nat) (pl : Int) (wr : Bool) (x : Int) (h : FeedAt w q pl [] wr) :
  Calls Tryz.prog 140 #[.pointer (some ⟨q, 0, none⟩), .int .u8 x] w fun e w' => e = .returned (.bool (takeF [] x).isSome) ∧ FeedAt w' q pl ((takeF [] x).getD []) wr ∧ Kp (fun i => i = q) w w' := by
 obtain ⟨ok, a, b, c, d, hb, e⟩ := h
 clear e ok
 have hlt := hb.lt
 obtain ⟨F, hF⟩ : ∃ F, F = formF x := ⟨_, rfl⟩
 have HFO : Hid (∀ W, Calls Tryz.prog 155 #[.int .u8 x] W fun e w' => e = .returned (.agg (formV F).toArray) ∧ Kp (fun _ => False) W w') := H_ fun W => by rw [hF]; exact form_any W x
 have HT : Hid (takeF [] x = if F.1 = 0 then none else if F.1 > 1 then some [x] else some []) := H_ (by rw [hF]; rfl)
 have HOK : Hid (∀ H', takeF [] x = some H' → HeldOK H') := H_ fun H' e => HeldOK.take (.inl rfl) e
 clear hF
 obtain ⟨n, lo, hi⟩ := F
 have HB := H_ hb
 have c5 : w.cell? ⟨q, 5, none⟩ = some (.int .i64 0) := hb.cell 5
 clear hb
 replace HFO : Hid (∀ W, Calls Tryz.prog 155 #[.int .u8 x] W fun e w' => e = .returned (.agg #[.int .i64 n, .int .u8 lo, .int .u8 hi]) ∧ Kp (fun _ => False) W w') := HFO
 replace HT : Hid (takeF [] x = if n = 0 then none else if n > 1 then some [x] else some []) := HT
 have HBW : Hid (∀ W, Kp (fun _ => False) w W → Blk (W.alloc (.cells #[.int .i64 n, .int .u8 lo, .int .u8 hi] 269)) q 253 [.int .i64 pl, .int .u8 a, .int .u8 b, .int .u8 c, .int .u8 d, .int .i64 0, .bool wr]) := H_ fun W hW => (hW.blk HB.out (fun h => h)).alloc _
 have HKW : Hid (∀ W, Kp (fun _ => False) w W → Kp (fun i => i = q) w (W.alloc (.cells #[.int .i64 n, .int .u8 lo, .int .u8 hi] 269))) := H_ fun W hW => (hW.mono (fun _ _ h => h.elim)).alloc _
 clear HB
 by_cases h0 : n = 0
 ·subst h0
  have HR : Hid (takeF [] x = none) := H_ (by rw [HT.out]; simp)
  clear HT
  go_enter Tryz.func140, Tryz.ntmps140
  go_wp2_with (first
   | (go_at_call 155; refine (HFO.out _).mono ?_; rintro e w2 ⟨rfl, hk2⟩; have HK2 := H_ hk2; have fz := (Blk.new w2 269 [.int .i64 0, .int .u8 0, .int .u8 0]).frozen; have z0 := fz 0; have z1 := fz 1; have z2 := fz 2; have fy := HBW.out w2 hk2; have y1 := fy.frozen 1; have x1 := fy.cell 1; have y5 := (fy.set_ 1 (.int .u8 x)).frozen 5; have x5 := (fy.set_ 1 (.int .u8 x)).cell 5; clear hk2 fz fy))
  go_ret
  rw [HR.out]
  exact ⟨rfl, ⟨.inl rfl, a, b, c, d, HBW.out w2 HK2.out, rfl⟩, HKW.out w2 HK2.out⟩
 have e0 : (n == 0) = false := by simp [h0]
 by_cases h1 : 1 < n
 ·have e1 : decide (1 < n) = true := by simp [h1]
  have HR : Hid (takeF [] x = some [x]) := H_ (by rw [HT.out]; simp [h0, h1])
  clear HT h0 h1
  go_enter Tryz.func140, Tryz.ntmps140
  go_wp2_with (first
   | (go_at_call 155; refine (HFO.out _).mono ?_; rintro e w2 ⟨rfl, hk2⟩; have HK2 := H_ hk2; have fz := (Blk.new w2 269 [.int .i64 0, .int .u8 0, .int .u8 0]).frozen; have z0 := fz 0; have z1 := fz 1; have z2 := fz 2; have fy := HBW.out w2 hk2; have y1 := fy.frozen 1; have x1 := fy.cell 1; have y5 := (fy.set_ 1 (.int .u8 x)).frozen 5; have x5 := (fy.set_ 1 (.int .u8 x)).cell 5; clear hk2 fz fy))
  go_ret
  rw [HR.out]
  exact ⟨rfl, ⟨HOK.out _ HR.out, x, b, c, d, ((HBW.out w2 HK2.out).set_ 1 _).set_ 5 _, rfl⟩, ((HKW.out w2 HK2.out).setCell (p := ⟨q, 1, none⟩) (.inl rfl) _).setCell (p := ⟨q, 5, none⟩) (.inl rfl) _⟩
 have e1 : decide (1 < n) = false := by simp [h1]
 have HR : Hid (takeF [] x = some []) := H_ (by rw [HT.out]; simp [h0, h1])
 clear HT h0 h1
 go_enter Tryz.func140, Tryz.ntmps140
 go_wp2_with (first
  | (go_at_call 155; refine (HFO.out _).mono ?_; rintro e w2 ⟨rfl, hk2⟩; have HK2 := H_ hk2; have fz := (Blk.new w2 269 [.int .i64 0, .int .u8 0, .int .u8 0]).frozen; have z0 := fz 0; have z1 := fz 1; have z2 := fz 2; have fy := HBW.out w2 hk2; have y1 := fy.frozen 1; have x1 := fy.cell 1; have y5 := (fy.set_ 1 (.int .u8 x)).frozen 5; have x5 := (fy.set_ 1 (.int .u8 x)).cell 5; clear hk2 fz fy))
 go_ret
 rw [HR.out]
 exact ⟨rfl, ⟨.inl rfl, a, b, c, d, HBW.out w2 HK2.out, rfl⟩, HKW.out w2 HK2.out⟩
theorem take_held1 (w : World) (q : Nat) (pl : Int) (wr : Bool) (y x z2 z3 z4 : Int) (hok : HeldOK [x]) (hb : Blk w q 253 [.int .i64 pl, .int .u8 x, .int .u8 z2, .int .u8 z3, .int .u8 z4, .int .i64 1, .bool wr]) :
  Calls Tryz.prog 140 #[.pointer (some ⟨q, 0, none⟩), .int .u8 y] w fun e w' => e = .returned (.bool (takeF [x] y).isSome) ∧ FeedAt w' q pl ((takeF [x] y).getD [x]) wr ∧ Kp (fun i => i = q) w w' := by
 obtain ⟨F, hF⟩ : ∃ F, F = formF x := ⟨_, rfl⟩
 have HFO : Hid (∀ W, Calls Tryz.prog 155 #[.int .u8 x] W fun e w' => e = .returned (.agg (formV F).toArray) ∧ Kp (fun _ => False) W w') := H_ fun W => by rw [hF]; exact form_any W x
 obtain ⟨m, hm⟩ : ∃ m, m = mayF F 1 y := ⟨_, rfl⟩
 have HMA : Hid (∀ W, Calls Tryz.prog 156 #[.agg (formV F).toArray, .int .i64 1, .int .u8 y] W fun e w' => e = .returned (.bool m) ∧ Kp (fun _ => False) W w') := H_ fun W => by rw [hm]; exact may_any W F 1 y
 have HT : Hid (takeF [x] y = if m = true then (if (2 : Int) = F.1 then some [] else some [x, y]) else none) := H_ (by rw [hm, hF]; rfl)
 have HOK : Hid (∀ H', takeF [x] y = some H' → HeldOK H') := H_ fun H' e => HeldOK.take hok e
 have HO := H_ hok
 clear hF hm hok
 obtain ⟨n, lo, hi⟩ := F
 obtain ⟨FV, hFV⟩ : ∃ FV : List Value, FV = [.int .i64 n, .int .u8 lo, .int .u8 hi] := ⟨_, rfl⟩
 replace HFO : Hid (∀ W, Calls Tryz.prog 155 #[.int .u8 x] W fun e w' => e = .returned (.agg #[.int .i64 n, .int .u8 lo, .int .u8 hi]) ∧ Kp (fun _ => False) W w') := HFO
 replace HMA : Hid (∀ W, Calls Tryz.prog 156 #[.agg FV.toArray, .int .i64 1, .int .u8 y] W fun e w' => e = .returned (.bool m) ∧ Kp (fun _ => False) W w') := H_ fun W => by rw [hFV]; exact HMA.out W
 replace HT : Hid (takeF [x] y = if m = true then (if (2 : Int) = n then some [] else some [x, y]) else none) := HT
 have HFI : Hid ((Tryz.prog.info? 269).map (·.size) = some FV.length) := H_ (by rw [hFV]; kernel_rfl)
 have HFB : Hid (∀ W : World, Blk (W.alloc (.cells #[.int .i64 n, .int .u8 lo, .int .u8 hi] 269)) W.heap.size 269 FV) := H_ fun W => by rw [hFV]; exact Blk.new W _ _
 have HFC : Hid (∀ W g, Blk W g 269 FV → W.cell? ⟨g, 0, none⟩ = some (.int .i64 n) ∧ W.rangeAt g 0 FV) := H_ fun W g h => ⟨by rw [h.cell, hFV]; rfl, fun j v hj => by rw [Nat.zero_add, h.cell, hj]⟩
 have HB := H_ hb
 have hq := hb.lt
 have c5 : w.cell? ⟨q, 5, none⟩ = some (.int .i64 1) := hb.cell 5
 have c1 : w.cell? ⟨q, 1, none⟩ = some (.int .u8 x) := hb.cell 1
 clear hb hFV
 go_enter Tryz.func140, Tryz.ntmps140
 go_upto_region 9 with (first
  | (go_at_call 155; refine (HFO.out _).mono ?_; rintro e w2 ⟨rfl, hk2⟩; have HK2 := H_ hk2; have fz := (Blk.new w2 269 [.int .i64 0, .int .u8 0, .int .u8 0]).frozen; have z0 := fz 0; have z1 := fz 1; have z2 := fz 2; clear hk2 fz))
 have hk3 := HK2.out.alloc (.cells #[.int .i64 n, .int .u8 lo, .int .u8 hi] 269)
 have hg3 := HFB.out w2
 have hqg : q ≠ w2.heap.size := by have := HK2.out.size; omega
 obtain ⟨g, hg⟩ : ∃ g, g = w2.heap.size := ⟨_, rfl⟩
 rw [← hg] at hg3 hqg ⊢
 have HG := H_ hg
 clear z0 z1 z2 hg
 refine gen_codeF (fun W => Blk W q 253 [.int .i64 pl, .int .u8 x, .int .u8 z2, .int .u8 z3, .int .u8 z4, .int .i64 1, .bool wr] ∧ Blk W g 269 FV ∧ Kp (fun _ => False) w W) ⟨hk3.blk HB.out (fun h => h), hg3, hk3⟩ ?_
 rintro w3 ⟨hb3, hf3, hk3'⟩
 have HB3 := H_ hb3
 have HF3 := H_ hf3
 have HK3 := H_ hk3'
 clear hk3 hg3 hb3 hf3 hk3' HG HK2 c5 c1 hq
 refine wp_region_held_drew (S := Kp (fun _ => False) w3) (by kernel_rfl) (Kp.refl (fun _ => False) _).drew (fun h_ => ?_)
 refine tI 0 34 h_ ?_ (hy := (yieldsIf_load_mid (by rfl) _ _ rfl _ _ rfl FV _ (fun w' h => (HFC.out _ _ (h.blk HF3.out (fun h => h))).2) Tryz.underlying269 rfl HFI.out))
 try simp only [pu]
 refine tI 1 35 h_ ?_
 try simp only [pu]
 refine tI 2 36 h_ ?_
 try simp only [pu]
 refine tI 3 37 h_ ?_
 try simp only [pu]
 refine tI 4 38 h_ ?_ (hy := .inl ⟨by rfl, by intro w' hSw; have cv := (hSw.blk HB3.out (fun h => h)).cell 5; go_simp; first | done | rfl⟩)
 try simp only [pu]
 refine tI 5 39 h_ ?_
 try simp only [pu]
 refine rH 6 (some 40) fun K hK => ?_
 go_simp
 refine (HMA.out _).mono ?_
 rintro e vv ⟨rfl, hkk⟩
 have hqq := h_.trans hkk (fun _ _ h => h)
 refine hK.out _ _ hqq (fun h_ => ?_)
 clear hK K
 try simp only [pu]
 refine tI 7 41 h_ ?_
 try simp only [pu]
 refine wpAnyH_done (by kernel_rfl) ?_ _
 have hb4 := h_.blk HB3.out (fun h => h)
 have hf4 := h_.blk HF3.out (fun h => h)
 have hk4 := HK3.out.trans h_ (fun _ _ h => h)
 have HB4 := H_ hb4
 have HF4 := H_ hf4
 have HK4 := H_ hk4
 clear h_ hb4 hf4 hk4
 rcases m with _ | _
 ·have HR : Hid (takeF [x] y = none) := H_ (by rw [HT.out]; simp)
  go_wp2
  go_ret
  rw [HR.out]
  exact ⟨rfl, ⟨HO.out, x, z2, z3, z4, HB4.out, rfl⟩, HK4.out.mono (fun _ _ h => h.elim)⟩
 go_upto_region 11 with fail
 refine wp_region_tail (S := Kp (fun _ => False) vv) 9 (by kernel_rfl) (Kp.refl (fun _ => False) _).drew (fun h_ => ?_)
 refine tJ 0 42 ?_
 try simp only [pu]
 refine tJ 1 43 ?_
 try simp only [pu]
 refine tJ 2 44 ?_
 try simp only [pu]
 refine tJ 3 45 ?_
 try simp only [pu]
 refine tT [4] (i := 4) (oi := ⟨some 46, _, _, _, _, _⟩) (v := ?_) rfl (Or.inl ⟨by rfl, ?_⟩) h_ ?_
 rotate_left
 ·intro w' hSw
  have cv := (hSw.blk HB4.out (fun h => h)).cell 5
  go_simp
  first | done | rfl
 try simp only [pu]
 refine tJ 5 47 ?_
 try simp only [pu]
 refine tJ 6 48 ?_
 try simp only [pu]
 refine tJ 7 49 ?_
 try simp only [pu]
 refine tJ 8 50 ?_
 try simp only [pu]
 refine wpAnyT_tail (i := 9) (o := ⟨none, _, _, _, _, _⟩) (by kernel_rfl) (by kernel_rfl) rfl (fun K hK => ?_)
 have hb5 := h_.blk HB4.out (fun h => h)
 have fz := hb5.frozen 2
 have fx := hb5.cell 2
 go_simp
 refine hK.out _ _ ?_
 clear hK K
 try simp only [pu]
 refine wpAnyT_done (by kernel_rfl) ?_
 have hb6 := HB4.out.set_ 2 (.int .u8 y)
 have hf6 := HF4.out.far (p := ⟨q, 2, none⟩) (Ne.symm hqg) (.int .u8 y)
 have hk6 := (HK4.out.mono (G := fun i => i = q) (fun _ _ h => h.elim)).setCell (p := ⟨q, 2, none⟩) (.inl rfl) (.int .u8 y)
 have HX := H_ (And.intro hb6.drew (And.intro hf6.drew hk6.drew))
 clear h_ hb5 fz fx hb6 hf6 hk6
 go_upto_region 12 with fail
 refine gen_codeF (fun W => Blk W q 253 [.int .i64 pl, .int .u8 x, .int .u8 y, .int .u8 z3, .int .u8 z4, .int .i64 1, .bool wr] ∧ Blk W g 269 FV ∧ Kp (fun i => i = q) w W) HX.out ?_
 clear HX
 rintro w6 ⟨hb6, hf6, hk6⟩
 have c5 := hb6.cell 5
 have fz := hb6.frozen 5
 have hb7 := hb6.set_ 5 (.int .i64 2)
 have hf7 := hf6.far (p := ⟨q, 5, none⟩) (Ne.symm hqg) (.int .i64 2)
 have hk7 := hk6.setCell (p := ⟨q, 5, none⟩) (.inl rfl) (.int .i64 2)
 have HB7 : Hid (Blk (w6.setCell ⟨q, 5, none⟩ (.int .i64 2)) q 253 [.int .i64 pl, .int .u8 x, .int .u8 y, .int .u8 z3, .int .u8 z4, .int .i64 2, .bool wr]) := H_ hb7
 have HF7 := H_ hf7
 have HK7 := H_ hk7
 clear hb6 hf6 hk6 hb7 hf7 hk7
 go_upto_region 13 with fail
 refine gen_codeF (fun W => Blk W q 253 [.int .i64 pl, .int .u8 x, .int .u8 y, .int .u8 z3, .int .u8 z4, .int .i64 2, .bool wr] ∧ Blk W g 269 FV ∧ Kp (fun i => i = q) w W) ⟨HB7.out, HF7.out, HK7.out⟩ ?_
 clear HB7 HF7 HK7 c5 fz
 rintro w8 ⟨hb8, hf8, hk8⟩
 have HB8 := H_ hb8
 have HF8 := H_ hf8
 have HK8 := H_ hk8
 clear hb8 hf8 hk8
 obtain ⟨b, hbe⟩ : ∃ b, b = ((2 : Int) == n) := ⟨_, rfl⟩
 have hbs := hbe.symm
 have HBE : Hid (b = true ↔ (2 : Int) = n) := H_ (by rw [hbe]; simp)
 clear hbe
 refine wp_region_held_drew (S := Kp (fun _ => False) w8) (by kernel_rfl) (Kp.refl (fun _ => False) _).drew (fun h_ => ?_)
 refine tI 0 58 h_ ?_
 try simp only [pu]
 refine tI 1 59 h_ ?_
 try simp only [pu]
 refine tI 2 60 h_ ?_
 try simp only [pu]
 refine tI 3 61 h_ ?_ (hy := .inl ⟨by rfl, by intro w' hSw; have cv := (hSw.blk HB8.out (fun h => h)).cell 5; go_simp; first | done | rfl⟩)
 try simp only [pu]
 refine tI 4 62 h_ ?_
 try simp only [pu]
 refine tI 5 63 h_ ?_ (hy := .inl ⟨by rfl, by intro w' hSw; have cv := (HFC.out _ _ (hSw.blk HF8.out (fun h => h))).1; go_simp; first | done | rfl⟩)
 try simp only [pu]
 refine tI 6 64 h_ ?_
 try simp only [pu]
 refine wpAnyH_done (by kernel_rfl) ?_ _
 have hb9 := h_.blk HB8.out (fun h => h)
 have hk9 := HK8.out.trans h_ (fun _ _ h => h.elim)
 have HB9 := H_ hb9
 have HK9 := H_ hk9
 clear h_ hb9 hk9 hbs
 rcases b with _ | _
 ·have HR : Hid (takeF [x] y = some [x, y]) := H_ (by rw [HT.out, if_pos rfl, if_neg (fun e => by have := HBE.out.2 e; cases this)])
  go_wp2
  go_ret
  rw [HR.out]
  exact ⟨rfl, ⟨HOK.out _ HR.out, x, y, z3, z4, HB9.out, rfl⟩, HK9.out⟩
 have HR : Hid (takeF [x] y = some []) := H_ (by rw [HT.out, if_pos rfl, if_pos (HBE.out.1 rfl)])
 have c5 := HB9.out.cell 5
 have fz := HB9.out.frozen 5
 go_wp2
 go_ret
 rw [HR.out]
 exact ⟨rfl, ⟨.inl rfl, x, y, z3, z4, HB9.out.set_ 5 _, rfl⟩, HK9.out.setCell (p := ⟨q, 5, none⟩) (.inl rfl) _⟩
theorem take_held2 (w : World) (q : Nat) (pl : Int) (wr : Bool) (y x h2 z3 z4 : Int) (hok : HeldOK [x, h2]) (hb : Blk w q 253 [.int .i64 pl, .int .u8 x, .int .u8 h2, .int .u8 z3, .int .u8 z4, .int .i64 2, .bool wr]) :
  Calls Tryz.prog 140 #[.pointer (some ⟨q, 0, none⟩), .int .u8 y] w fun e w' => e = .returned (.bool (takeF [x, h2] y).isSome) ∧ FeedAt w' q pl ((takeF [x, h2] y).getD [x, h2]) wr ∧ Kp (fun i => i = q) w w' := by
 obtain ⟨F, hF⟩ : ∃ F, F = formF x := ⟨_, rfl⟩
 have HFO : Hid (∀ W, Calls Tryz.prog 155 #[.int .u8 x] W fun e w' => e = .returned (.agg (formV F).toArray) ∧ Kp (fun _ => False) W w') := H_ fun W => by rw [hF]; exact form_any W x
 obtain ⟨m, hm⟩ : ∃ m, m = mayF F 2 y := ⟨_, rfl⟩
 have HMA : Hid (∀ W, Calls Tryz.prog 156 #[.agg (formV F).toArray, .int .i64 2, .int .u8 y] W fun e w' => e = .returned (.bool m) ∧ Kp (fun _ => False) W w') := H_ fun W => by rw [hm]; exact may_any W F 2 y
 have HT : Hid (takeF [x, h2] y = if m = true then (if (3 : Int) = F.1 then some [] else some [x, h2, y]) else none) := H_ (by rw [hm, hF]; rfl)
 have HOK : Hid (∀ H', takeF [x, h2] y = some H' → HeldOK H') := H_ fun H' e => HeldOK.take hok e
 have HO := H_ hok
 clear hF hm hok
 obtain ⟨n, lo, hi⟩ := F
 obtain ⟨FV, hFV⟩ : ∃ FV : List Value, FV = [.int .i64 n, .int .u8 lo, .int .u8 hi] := ⟨_, rfl⟩
 replace HFO : Hid (∀ W, Calls Tryz.prog 155 #[.int .u8 x] W fun e w' => e = .returned (.agg #[.int .i64 n, .int .u8 lo, .int .u8 hi]) ∧ Kp (fun _ => False) W w') := HFO
 replace HMA : Hid (∀ W, Calls Tryz.prog 156 #[.agg FV.toArray, .int .i64 2, .int .u8 y] W fun e w' => e = .returned (.bool m) ∧ Kp (fun _ => False) W w') := H_ fun W => by rw [hFV]; exact HMA.out W
 replace HT : Hid (takeF [x, h2] y = if m = true then (if (3 : Int) = n then some [] else some [x, h2, y]) else none) := HT
 have HFI : Hid ((Tryz.prog.info? 269).map (·.size) = some FV.length) := H_ (by rw [hFV]; kernel_rfl)
 have HFB : Hid (∀ W : World, Blk (W.alloc (.cells #[.int .i64 n, .int .u8 lo, .int .u8 hi] 269)) W.heap.size 269 FV) := H_ fun W => by rw [hFV]; exact Blk.new W _ _
 have HFC : Hid (∀ W g, Blk W g 269 FV → W.cell? ⟨g, 0, none⟩ = some (.int .i64 n) ∧ W.rangeAt g 0 FV) := H_ fun W g h => ⟨by rw [h.cell, hFV]; rfl, fun j v hj => by rw [Nat.zero_add, h.cell, hj]⟩
 have HB := H_ hb
 have hq := hb.lt
 have c5 : w.cell? ⟨q, 5, none⟩ = some (.int .i64 2) := hb.cell 5
 have c1 : w.cell? ⟨q, 1, none⟩ = some (.int .u8 x) := hb.cell 1
 clear hb hFV
 go_enter Tryz.func140, Tryz.ntmps140
 go_upto_region 9 with (first
  | (go_at_call 155; refine (HFO.out _).mono ?_; rintro e w2 ⟨rfl, hk2⟩; have HK2 := H_ hk2; have fz := (Blk.new w2 269 [.int .i64 0, .int .u8 0, .int .u8 0]).frozen; have z0 := fz 0; have z1 := fz 1; have z2 := fz 2; clear hk2 fz))
 have hk3 := HK2.out.alloc (.cells #[.int .i64 n, .int .u8 lo, .int .u8 hi] 269)
 have hg3 := HFB.out w2
 have hqg : q ≠ w2.heap.size := by have := HK2.out.size; omega
 obtain ⟨g, hg⟩ : ∃ g, g = w2.heap.size := ⟨_, rfl⟩
 rw [← hg] at hg3 hqg ⊢
 have HG := H_ hg
 clear z0 z1 z2 hg
 refine gen_codeF (fun W => Blk W q 253 [.int .i64 pl, .int .u8 x, .int .u8 h2, .int .u8 z3, .int .u8 z4, .int .i64 2, .bool wr] ∧ Blk W g 269 FV ∧ Kp (fun _ => False) w W) ⟨hk3.blk HB.out (fun h => h), hg3, hk3⟩ ?_
 rintro w3 ⟨hb3, hf3, hk3'⟩
 have HB3 := H_ hb3
 have HF3 := H_ hf3
 have HK3 := H_ hk3'
 clear hk3 hg3 hb3 hf3 hk3' HG HK2 c5 c1 hq
 refine wp_region_held_drew (S := Kp (fun _ => False) w3) (by kernel_rfl) (Kp.refl (fun _ => False) _).drew (fun h_ => ?_)
 refine tI 0 34 h_ ?_ (hy := (yieldsIf_load_mid (by rfl) _ _ rfl _ _ rfl FV _ (fun w' h => (HFC.out _ _ (h.blk HF3.out (fun h => h))).2) Tryz.underlying269 rfl HFI.out))
 try simp only [pu]
 refine tI 1 35 h_ ?_
 try simp only [pu]
 refine tI 2 36 h_ ?_
 try simp only [pu]
 refine tI 3 37 h_ ?_
 try simp only [pu]
 refine tI 4 38 h_ ?_ (hy := .inl ⟨by rfl, by intro w' hSw; have cv := (hSw.blk HB3.out (fun h => h)).cell 5; go_simp; first | done | rfl⟩)
 try simp only [pu]
 refine tI 5 39 h_ ?_
 try simp only [pu]
 refine rH 6 (some 40) fun K hK => ?_
 go_simp
 refine (HMA.out _).mono ?_
 rintro e vv ⟨rfl, hkk⟩
 have hqq := h_.trans hkk (fun _ _ h => h)
 refine hK.out _ _ hqq (fun h_ => ?_)
 clear hK K
 try simp only [pu]
 refine tI 7 41 h_ ?_
 try simp only [pu]
 refine wpAnyH_done (by kernel_rfl) ?_ _
 have hb4 := h_.blk HB3.out (fun h => h)
 have hf4 := h_.blk HF3.out (fun h => h)
 have hk4 := HK3.out.trans h_ (fun _ _ h => h)
 have HB4 := H_ hb4
 have HF4 := H_ hf4
 have HK4 := H_ hk4
 clear h_ hb4 hf4 hk4
 rcases m with _ | _
 ·have HR : Hid (takeF [x, h2] y = none) := H_ (by rw [HT.out]; simp)
  go_wp2
  go_ret
  rw [HR.out]
  exact ⟨rfl, ⟨HO.out, x, h2, z3, z4, HB4.out, rfl⟩, HK4.out.mono (fun _ _ h => h.elim)⟩
 go_upto_region 11 with fail
 refine wp_region_tail (S := Kp (fun _ => False) vv) 9 (by kernel_rfl) (Kp.refl (fun _ => False) _).drew (fun h_ => ?_)
 refine tJ 0 42 ?_
 try simp only [pu]
 refine tJ 1 43 ?_
 try simp only [pu]
 refine tJ 2 44 ?_
 try simp only [pu]
 refine tJ 3 45 ?_
 try simp only [pu]
 refine tT [4] (i := 4) (oi := ⟨some 46, _, _, _, _, _⟩) (v := ?_) rfl (Or.inl ⟨by rfl, ?_⟩) h_ ?_
 rotate_left
 ·intro w' hSw
  have cv := (hSw.blk HB4.out (fun h => h)).cell 5
  go_simp
  first | done | rfl
 try simp only [pu]
 refine tJ 5 47 ?_
 try simp only [pu]
 refine tJ 6 48 ?_
 try simp only [pu]
 refine tJ 7 49 ?_
 try simp only [pu]
 refine tJ 8 50 ?_
 try simp only [pu]
 refine wpAnyT_tail (i := 9) (o := ⟨none, _, _, _, _, _⟩) (by kernel_rfl) (by kernel_rfl) rfl (fun K hK => ?_)
 have hb5 := h_.blk HB4.out (fun h => h)
 have fz := hb5.frozen 3
 have fx := hb5.cell 3
 go_simp
 refine hK.out _ _ ?_
 clear hK K
 try simp only [pu]
 refine wpAnyT_done (by kernel_rfl) ?_
 have hb6 := HB4.out.set_ 3 (.int .u8 y)
 have hf6 := HF4.out.far (p := ⟨q, 3, none⟩) (Ne.symm hqg) (.int .u8 y)
 have hk6 := (HK4.out.mono (G := fun i => i = q) (fun _ _ h => h.elim)).setCell (p := ⟨q, 3, none⟩) (.inl rfl) (.int .u8 y)
 have HX := H_ (And.intro hb6.drew (And.intro hf6.drew hk6.drew))
 clear h_ hb5 fz fx hb6 hf6 hk6
 go_upto_region 12 with fail
 refine gen_codeF (fun W => Blk W q 253 [.int .i64 pl, .int .u8 x, .int .u8 h2, .int .u8 y, .int .u8 z4, .int .i64 2, .bool wr] ∧ Blk W g 269 FV ∧ Kp (fun i => i = q) w W) HX.out ?_
 clear HX
 rintro w6 ⟨hb6, hf6, hk6⟩
 have c5 := hb6.cell 5
 have fz := hb6.frozen 5
 have hb7 := hb6.set_ 5 (.int .i64 3)
 have hf7 := hf6.far (p := ⟨q, 5, none⟩) (Ne.symm hqg) (.int .i64 3)
 have hk7 := hk6.setCell (p := ⟨q, 5, none⟩) (.inl rfl) (.int .i64 3)
 have HB7 : Hid (Blk (w6.setCell ⟨q, 5, none⟩ (.int .i64 3)) q 253 [.int .i64 pl, .int .u8 x, .int .u8 h2, .int .u8 y, .int .u8 z4, .int .i64 3, .bool wr]) := H_ hb7
 have HF7 := H_ hf7
 have HK7 := H_ hk7
 clear hb6 hf6 hk6 hb7 hf7 hk7
 go_upto_region 13 with fail
 refine gen_codeF (fun W => Blk W q 253 [.int .i64 pl, .int .u8 x, .int .u8 h2, .int .u8 y, .int .u8 z4, .int .i64 3, .bool wr] ∧ Blk W g 269 FV ∧ Kp (fun i => i = q) w W) ⟨HB7.out, HF7.out, HK7.out⟩ ?_
 clear HB7 HF7 HK7 c5 fz
 rintro w8 ⟨hb8, hf8, hk8⟩
 have HB8 := H_ hb8
 have HF8 := H_ hf8
 have HK8 := H_ hk8
 clear hb8 hf8 hk8
 obtain ⟨b, hbe⟩ : ∃ b, b = ((3 : Int) == n) := ⟨_, rfl⟩
 have hbs := hbe.symm
 have HBE : Hid (b = true ↔ (3 : Int) = n) := H_ (by rw [hbe]; simp)
 clear hbe
 refine wp_region_held_drew (S := Kp (fun _ => False) w8) (by kernel_rfl) (Kp.refl (fun _ => False) _).drew (fun h_ => ?_)
 refine tI 0 58 h_ ?_
 try simp only [pu]
 refine tI 1 59 h_ ?_
 try simp only [pu]
 refine tI 2 60 h_ ?_
 try simp only [pu]
 refine tI 3 61 h_ ?_ (hy := .inl ⟨by rfl, by intro w' hSw; have cv := (hSw.blk HB8.out (fun h => h)).cell 5; go_simp; first | done | rfl⟩)
 try simp only [pu]
 refine tI 4 62 h_ ?_
 try simp only [pu]
 refine tI 5 63 h_ ?_ (hy := .inl ⟨by rfl, by intro w' hSw; have cv := (HFC.out _ _ (hSw.blk HF8.out (fun h => h))).1; go_simp; first | done | rfl⟩)
 try simp only [pu]
 refine tI 6 64 h_ ?_
 try simp only [pu]
 refine wpAnyH_done (by kernel_rfl) ?_ _
 have hb9 := h_.blk HB8.out (fun h => h)
 have hk9 := HK8.out.trans h_ (fun _ _ h => h.elim)
 have HB9 := H_ hb9
 have HK9 := H_ hk9
 clear h_ hb9 hk9 hbs
 rcases b with _ | _
 ·have HR : Hid (takeF [x, h2] y = some [x, h2, y]) := H_ (by rw [HT.out, if_pos rfl, if_neg (fun e => by have := HBE.out.2 e; cases this)])
  go_wp2
  go_ret
  rw [HR.out]
  exact ⟨rfl, ⟨HOK.out _ HR.out, x, h2, y, z4, HB9.out, rfl⟩, HK9.out⟩
 have HR : Hid (takeF [x, h2] y = some []) := H_ (by rw [HT.out, if_pos rfl, if_pos (HBE.out.1 rfl)])
 have c5 := HB9.out.cell 5
 have fz := HB9.out.frozen 5
 go_wp2
 go_ret
 rw [HR.out]
 exact ⟨rfl, ⟨.inl rfl, x, h2, y, z4, HB9.out.set_ 5 _, rfl⟩, HK9.out.setCell (p := ⟨q, 5, none⟩) (.inl rfl) _⟩
theorem take_held3 (w : World) (q : Nat) (pl : Int) (wr : Bool) (y x h2 h3 z4 : Int) (hok : HeldOK [x, h2, h3]) (hb : Blk w q 253 [.int .i64 pl, .int .u8 x, .int .u8 h2, .int .u8 h3, .int .u8 z4, .int .i64 3, .bool wr]) :
  Calls Tryz.prog 140 #[.pointer (some ⟨q, 0, none⟩), .int .u8 y] w fun e w' => e = .returned (.bool (takeF [x, h2, h3] y).isSome) ∧ FeedAt w' q pl ((takeF [x, h2, h3] y).getD [x, h2, h3]) wr ∧ Kp (fun i => i = q) w w' := by
 obtain ⟨F, hF⟩ : ∃ F, F = formF x := ⟨_, rfl⟩
 have HFO : Hid (∀ W, Calls Tryz.prog 155 #[.int .u8 x] W fun e w' => e = .returned (.agg (formV F).toArray) ∧ Kp (fun _ => False) W w') := H_ fun W => by rw [hF]; exact form_any W x
 obtain ⟨m, hm⟩ : ∃ m, m = mayF F 3 y := ⟨_, rfl⟩
 have HMA : Hid (∀ W, Calls Tryz.prog 156 #[.agg (formV F).toArray, .int .i64 3, .int .u8 y] W fun e w' => e = .returned (.bool m) ∧ Kp (fun _ => False) W w') := H_ fun W => by rw [hm]; exact may_any W F 3 y
 have HT : Hid (takeF [x, h2, h3] y = if m = true then (if (4 : Int) = F.1 then some [] else some [x, h2, h3, y]) else none) := H_ (by rw [hm, hF]; rfl)
 have HOK : Hid (∀ H', takeF [x, h2, h3] y = some H' → HeldOK H') := H_ fun H' e => HeldOK.take hok e
 have HO := H_ hok
 clear hF hm hok
 obtain ⟨n, lo, hi⟩ := F
 obtain ⟨FV, hFV⟩ : ∃ FV : List Value, FV = [.int .i64 n, .int .u8 lo, .int .u8 hi] := ⟨_, rfl⟩
 replace HFO : Hid (∀ W, Calls Tryz.prog 155 #[.int .u8 x] W fun e w' => e = .returned (.agg #[.int .i64 n, .int .u8 lo, .int .u8 hi]) ∧ Kp (fun _ => False) W w') := HFO
 replace HMA : Hid (∀ W, Calls Tryz.prog 156 #[.agg FV.toArray, .int .i64 3, .int .u8 y] W fun e w' => e = .returned (.bool m) ∧ Kp (fun _ => False) W w') := H_ fun W => by rw [hFV]; exact HMA.out W
 replace HT : Hid (takeF [x, h2, h3] y = if m = true then (if (4 : Int) = n then some [] else some [x, h2, h3, y]) else none) := HT
 have HFI : Hid ((Tryz.prog.info? 269).map (·.size) = some FV.length) := H_ (by rw [hFV]; kernel_rfl)
 have HFB : Hid (∀ W : World, Blk (W.alloc (.cells #[.int .i64 n, .int .u8 lo, .int .u8 hi] 269)) W.heap.size 269 FV) := H_ fun W => by rw [hFV]; exact Blk.new W _ _
 have HFC : Hid (∀ W g, Blk W g 269 FV → W.cell? ⟨g, 0, none⟩ = some (.int .i64 n) ∧ W.rangeAt g 0 FV) := H_ fun W g h => ⟨by rw [h.cell, hFV]; rfl, fun j v hj => by rw [Nat.zero_add, h.cell, hj]⟩
 have HB := H_ hb
 have hq := hb.lt
 have c5 : w.cell? ⟨q, 5, none⟩ = some (.int .i64 3) := hb.cell 5
 have c1 : w.cell? ⟨q, 1, none⟩ = some (.int .u8 x) := hb.cell 1
 clear hb hFV
 go_enter Tryz.func140, Tryz.ntmps140
 go_upto_region 9 with (first
  | (go_at_call 155; refine (HFO.out _).mono ?_; rintro e w2 ⟨rfl, hk2⟩; have HK2 := H_ hk2; have fz := (Blk.new w2 269 [.int .i64 0, .int .u8 0, .int .u8 0]).frozen; have z0 := fz 0; have z1 := fz 1; have z2 := fz 2; clear hk2 fz))
 have hk3 := HK2.out.alloc (.cells #[.int .i64 n, .int .u8 lo, .int .u8 hi] 269)
 have hg3 := HFB.out w2
 have hqg : q ≠ w2.heap.size := by have := HK2.out.size; omega
 obtain ⟨g, hg⟩ : ∃ g, g = w2.heap.size := ⟨_, rfl⟩
 rw [← hg] at hg3 hqg ⊢
 have HG := H_ hg
 clear z0 z1 z2 hg
 refine gen_codeF (fun W => Blk W q 253 [.int .i64 pl, .int .u8 x, .int .u8 h2, .int .u8 h3, .int .u8 z4, .int .i64 3, .bool wr] ∧ Blk W g 269 FV ∧ Kp (fun _ => False) w W) ⟨hk3.blk HB.out (fun h => h), hg3, hk3⟩ ?_
 rintro w3 ⟨hb3, hf3, hk3'⟩
 have HB3 := H_ hb3
 have HF3 := H_ hf3
 have HK3 := H_ hk3'
 clear hk3 hg3 hb3 hf3 hk3' HG HK2 c5 c1 hq
 refine wp_region_held_drew (S := Kp (fun _ => False) w3) (by kernel_rfl) (Kp.refl (fun _ => False) _).drew (fun h_ => ?_)
 refine tI 0 34 h_ ?_ (hy := (yieldsIf_load_mid (by rfl) _ _ rfl _ _ rfl FV _ (fun w' h => (HFC.out _ _ (h.blk HF3.out (fun h => h))).2) Tryz.underlying269 rfl HFI.out))
 try simp only [pu]
 refine tI 1 35 h_ ?_
 try simp only [pu]
 refine tI 2 36 h_ ?_
 try simp only [pu]
 refine tI 3 37 h_ ?_
 try simp only [pu]
 refine tI 4 38 h_ ?_ (hy := .inl ⟨by rfl, by intro w' hSw; have cv := (hSw.blk HB3.out (fun h => h)).cell 5; go_simp; first | done | rfl⟩)
 try simp only [pu]
 refine tI 5 39 h_ ?_
 try simp only [pu]
 refine rH 6 (some 40) fun K hK => ?_
 go_simp
 refine (HMA.out _).mono ?_
 rintro e vv ⟨rfl, hkk⟩
 have hqq := h_.trans hkk (fun _ _ h => h)
 refine hK.out _ _ hqq (fun h_ => ?_)
 clear hK K
 try simp only [pu]
 refine tI 7 41 h_ ?_
 try simp only [pu]
 refine wpAnyH_done (by kernel_rfl) ?_ _
 have hb4 := h_.blk HB3.out (fun h => h)
 have hf4 := h_.blk HF3.out (fun h => h)
 have hk4 := HK3.out.trans h_ (fun _ _ h => h)
 have HB4 := H_ hb4
 have HF4 := H_ hf4
 have HK4 := H_ hk4
 clear h_ hb4 hf4 hk4
 rcases m with _ | _
 ·have HR : Hid (takeF [x, h2, h3] y = none) := H_ (by rw [HT.out]; simp)
  go_wp2
  go_ret
  rw [HR.out]
  exact ⟨rfl, ⟨HO.out, x, h2, h3, z4, HB4.out, rfl⟩, HK4.out.mono (fun _ _ h => h.elim)⟩
 go_upto_region 11 with fail
 refine wp_region_tail (S := Kp (fun _ => False) vv) 9 (by kernel_rfl) (Kp.refl (fun _ => False) _).drew (fun h_ => ?_)
 refine tJ 0 42 ?_
 try simp only [pu]
 refine tJ 1 43 ?_
 try simp only [pu]
 refine tJ 2 44 ?_
 try simp only [pu]
 refine tJ 3 45 ?_
 try simp only [pu]
 refine tT [4] (i := 4) (oi := ⟨some 46, _, _, _, _, _⟩) (v := ?_) rfl (Or.inl ⟨by rfl, ?_⟩) h_ ?_
 rotate_left
 ·intro w' hSw
  have cv := (hSw.blk HB4.out (fun h => h)).cell 5
  go_simp
  first | done | rfl
 try simp only [pu]
 refine tJ 5 47 ?_
 try simp only [pu]
 refine tJ 6 48 ?_
 try simp only [pu]
 refine tJ 7 49 ?_
 try simp only [pu]
 refine tJ 8 50 ?_
 try simp only [pu]
 refine wpAnyT_tail (i := 9) (o := ⟨none, _, _, _, _, _⟩) (by kernel_rfl) (by kernel_rfl) rfl (fun K hK => ?_)
 have hb5 := h_.blk HB4.out (fun h => h)
 have fz := hb5.frozen 4
 have fx := hb5.cell 4
 go_simp
 refine hK.out _ _ ?_
 clear hK K
 try simp only [pu]
 refine wpAnyT_done (by kernel_rfl) ?_
 have hb6 := HB4.out.set_ 4 (.int .u8 y)
 have hf6 := HF4.out.far (p := ⟨q, 4, none⟩) (Ne.symm hqg) (.int .u8 y)
 have hk6 := (HK4.out.mono (G := fun i => i = q) (fun _ _ h => h.elim)).setCell (p := ⟨q, 4, none⟩) (.inl rfl) (.int .u8 y)
 have HX := H_ (And.intro hb6.drew (And.intro hf6.drew hk6.drew))
 clear h_ hb5 fz fx hb6 hf6 hk6
 go_upto_region 12 with fail
 refine gen_codeF (fun W => Blk W q 253 [.int .i64 pl, .int .u8 x, .int .u8 h2, .int .u8 h3, .int .u8 y, .int .i64 3, .bool wr] ∧ Blk W g 269 FV ∧ Kp (fun i => i = q) w W) HX.out ?_
 clear HX
 rintro w6 ⟨hb6, hf6, hk6⟩
 have c5 := hb6.cell 5
 have fz := hb6.frozen 5
 have hb7 := hb6.set_ 5 (.int .i64 4)
 have hf7 := hf6.far (p := ⟨q, 5, none⟩) (Ne.symm hqg) (.int .i64 4)
 have hk7 := hk6.setCell (p := ⟨q, 5, none⟩) (.inl rfl) (.int .i64 4)
 have HB7 : Hid (Blk (w6.setCell ⟨q, 5, none⟩ (.int .i64 4)) q 253 [.int .i64 pl, .int .u8 x, .int .u8 h2, .int .u8 h3, .int .u8 y, .int .i64 4, .bool wr]) := H_ hb7
 have HF7 := H_ hf7
 have HK7 := H_ hk7
 clear hb6 hf6 hk6 hb7 hf7 hk7
 go_upto_region 13 with fail
 refine gen_codeF (fun W => Blk W q 253 [.int .i64 pl, .int .u8 x, .int .u8 h2, .int .u8 h3, .int .u8 y, .int .i64 4, .bool wr] ∧ Blk W g 269 FV ∧ Kp (fun i => i = q) w W) ⟨HB7.out, HF7.out, HK7.out⟩ ?_
 clear HB7 HF7 HK7 c5 fz
 rintro w8 ⟨hb8, hf8, hk8⟩
 have HB8 := H_ hb8
 have HF8 := H_ hf8
 have HK8 := H_ hk8
 clear hb8 hf8 hk8
 obtain ⟨b, hbe⟩ : ∃ b, b = ((4 : Int) == n) := ⟨_, rfl⟩
 have hbs := hbe.symm
 have HBE : Hid (b = true ↔ (4 : Int) = n) := H_ (by rw [hbe]; simp)
 clear hbe
 refine wp_region_held_drew (S := Kp (fun _ => False) w8) (by kernel_rfl) (Kp.refl (fun _ => False) _).drew (fun h_ => ?_)
 refine tI 0 58 h_ ?_
 try simp only [pu]
 refine tI 1 59 h_ ?_
 try simp only [pu]
 refine tI 2 60 h_ ?_
 try simp only [pu]
 refine tI 3 61 h_ ?_ (hy := .inl ⟨by rfl, by intro w' hSw; have cv := (hSw.blk HB8.out (fun h => h)).cell 5; go_simp; first | done | rfl⟩)
 try simp only [pu]
 refine tI 4 62 h_ ?_
 try simp only [pu]
 refine tI 5 63 h_ ?_ (hy := .inl ⟨by rfl, by intro w' hSw; have cv := (HFC.out _ _ (hSw.blk HF8.out (fun h => h))).1; go_simp; first | done | rfl⟩)
 try simp only [pu]
 refine tI 6 64 h_ ?_
 try simp only [pu]
 refine wpAnyH_done (by kernel_rfl) ?_ _
 have hb9 := h_.blk HB8.out (fun h => h)
 have hk9 := HK8.out.trans h_ (fun _ _ h => h.elim)
 have HB9 := H_ hb9
 have HK9 := H_ hk9
 clear h_ hb9 hk9 hbs
 rcases b with _ | _
 ·have HR : Hid (takeF [x, h2, h3] y = some [x, h2, h3, y]) := H_ (by rw [HT.out, if_pos rfl, if_neg (fun e => by have := HBE.out.2 e; cases this)])
  go_wp2
  go_ret
  rw [HR.out]
  exact ⟨rfl, ⟨HOK.out _ HR.out, x, h2, h3, y, HB9.out, rfl⟩, HK9.out⟩
 have HR : Hid (takeF [x, h2, h3] y = some []) := H_ (by rw [HT.out, if_pos rfl, if_pos (HBE.out.1 rfl)])
 have c5 := HB9.out.cell 5
 have fz := HB9.out.frozen 5
 go_wp2
 go_ret
 rw [HR.out]
 exact ⟨rfl, ⟨.inl rfl, x, h2, h3, y, HB9.out.set_ 5 _, rfl⟩, HK9.out.setCell (p := ⟨q, 5, none⟩) (.inl rfl) _⟩
end Go.Proofs.YtdmcioghdindfaaGreatDoor
