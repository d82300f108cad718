/- Texts. -/
import Derived.Test.YtdmcioghdindfaaGreatDoorL06
import Derived.Sort.Grow
import Derived.Lib.ConvBytes
set_option linter.unusedSimpArgs false
set_option maxRecDepth 100000
set_option maxHeartbeats 4000000
namespace Go.Json
theorem sumN_perm {a b : List Nat} (h : a.Perm b) : sumN a = sumN b := by
 induction h with
 | nil => rfl
 | cons x _ ih => simp [sumN, ih]
 | swap x y l => simp only [sumN]; omega
 | trans _ _ h1 h2 => exact h1.trans h2
theorem maxN_perm {a b : List Nat} (h : a.Perm b) : maxN a = maxN b := by
 induction h with
 | nil => rfl
 | cons x _ ih => simp [maxN, ih]
 | swap x y l => simp only [maxN]; omega
 | trans _ _ h1 h2 => exact h1.trans h2
theorem keys_rise {ks : List ByteArray} (h : ks.Pairwise fun a b => ¬ ltS b a) (hn : ks.Nodup) (hr : ∀ s ∈ ks, rightS s = true) : ks.Pairwise ltS := by
 induction ks with
 | nil => exact .nil
 | cons a ks ih =>
  have h' := List.pairwise_cons.1 h
  rw [List.nodup_cons] at hn
  refine List.pairwise_cons.2 ⟨fun b hb => ?_, ih h'.2 hn.2 fun s hs => hr s (List.mem_cons_of_mem _ hs)⟩
  rcases ltS_tri (hr a List.mem_cons_self) (hr b (List.mem_cons_of_mem _ hb)) with h1 | h1 | h1
  ·exact h1
  ·exact absurd (h1 ▸ hb) hn.1
  exact absurd h1 (h'.1 b hb)
theorem rising_map {l : List (ByteArray × JV)} (h : Rising l) : (l.map (·.1)).Pairwise ltS := List.pairwise_map.2 h
section
variable {ks : List ByteArray} {L : List JV}
theorem zip_fst (hl : ks.length = L.length) : (ks.zip L).map (·.1) = ks := List.map_fst_zip (by omega)
theorem zip_snd (hl : ks.length = L.length) : (ks.zip L).map (·.2) = L := List.map_snd_zip (by omega)
theorem sorted_rising (hl : ks.length = L.length) (hn : ks.Nodup) (hr : ∀ s ∈ ks, rightS s = true) : Rising (sortM (ks.zip L)) :=
 sortM_rising _ (by rw [zip_fst hl]; exact hn) fun p hp => hr p.1 (by rw [← zip_fst hl]; exact List.mem_map.2 ⟨p, hp, rfl⟩)
theorem keys_sorted {ks' : List ByteArray} (hl : ks.length = L.length) (hn : ks.Nodup) (hr : ∀ s ∈ ks, rightS s = true) (hp : ks'.Perm ks) (hs : ks'.Pairwise fun a b => ¬ ltS b a) : ks' = (sortM (ks.zip L)).map (·.1) := by
 refine rising_keys (keys_rise hs (hp.nodup_iff.2 hn) fun s h => hr s (hp.mem_iff.1 h)) (rising_map (sorted_rising hl hn hr)) fun x => ?_
 have h2 : ((sortM (ks.zip L)).map (·.1)).Perm ks := by
  have := (sortM_perm (ks.zip L)).map (·.1)
  rwa [zip_fst hl] at this
 rw [hp.mem_iff, h2.mem_iff]
theorem snd_perm (hl : ks.length = L.length) : ((sortM (ks.zip L)).map (·.2)).Perm L := by
 have := (sortM_perm (ks.zip L)).map (·.2)
 rwa [zip_snd hl] at this
theorem fst_perm (hl : ks.length = L.length) : ((sortM (ks.zip L)).map (·.1)).Perm ks := by
 have := (sortM_perm (ks.zip L)).map (·.1)
 rwa [zip_fst hl] at this
end
end Go.Json
namespace Go.Proofs.YtdmcioghdindfaaGreatDoor
open Go Go.RowKit Go.Aff Go.Json
theorem sums_perm {a b : List JV} (h : a.Perm b) : sums a = sums b := by
 unfold sums
 rw [sumN_perm (h.map _), sumN_perm (h.map _), maxN_perm (h.map _)]
theorem obj_sizes {ks : List ByteArray} {L : List JV} (hl : ks.length = L.length) : sizeV (mkObj ks L) = [.int .i64 (1 + (sums L).1 : Nat), .int .i64 (sumN (ks.map fun k => k.size) + (sums L).2.1 : Nat), .int .i64 ((sums L).2.2 + 1 : Nat)] := by
 have h1 := sums_perm (snd_perm hl)
 have h2 : sumN (((sortM (ks.zip L)).map (·.1)).map fun k => k.size) = sumN (ks.map fun k => k.size) := sumN_perm ((fst_perm hl).map _)
 rw [← h1, ← h2]
 unfold sizeV
 rw [JV.nodes_eq, JV.bytes_eq, JV.deep_eq]
 rfl
theorem doF_obj_wrong {P : List JV} {s : StepV} (hu : usedF s = true) (hs : s.sort = 6) (hr : s.keys.all rightS = false) : doF P s = .inl 100 := by
 unfold doF
 rw [if_neg (by rw [hu]; decide), if_neg (by omega), if_pos (.inr hr)]
theorem doF_obj {P : List JV} {s : StepV} (hu : usedF s = true) (hs : s.sort = 6) (hr : s.keys.all rightS = true) :
  doF P s = if ¬ s.keys.Nodup then .inl 101 else if P.length < s.keys.length then .inl 102 else if ¬ (mkObj s.keys (P.drop (P.length - s.keys.length))).within then .inl 3
   else .inr (P.take (P.length - s.keys.length) ++ [mkObj s.keys (P.drop (P.length - s.keys.length))]) := by
 obtain ⟨u1, u2, _, _, _, _⟩ := used_parts hu
 have ht := right_empty (u1 (by omega))
 have hc := u2 (by omega)
 have hz : s.count.toNat + s.keys.length = s.keys.length := by rw [hc]; simp
 have hm : ∀ L, mkV s L = mkObj s.keys L := fun L => by simp [mkV, hs]
 unfold doF
 rw [if_neg (by rw [hu]; decide), if_neg (by omega), if_neg (by rw [ht, hr]; simp), hz, hm]
theorem textAt {w : World} {A : Option Addr} {n : Nat} {ks : List ByteArray} (h : Rd w A n (ks.map .string)) {j : Nat} (hj : j < n) : ∃ g o s, A = some ⟨g, o, none⟩ ∧ ks[j]? = some s ∧ w.cell? ⟨g, o + j, none⟩ = some (.string s) := by
 obtain ⟨g, o, e, q⟩ := h.2 (by omega)
 have hl : ks.length = n := by simpa using h.1
 obtain ⟨s, hs⟩ : ∃ s, ks[j]? = some s := ⟨_, List.getElem?_eq_getElem (by omega)⟩
 refine ⟨g, o, s, e, hs, ?_⟩
 rw [q j hj, List.getElem?_map, hs]; rfl
def byF (ks : List ByteArray) : Nat := sumN (ks.map fun k => k.size)
theorem byF_take {ks : List ByteArray} {i : Nat} {s : ByteArray} (h : ks[i]? = some s) : byF (ks.take (i + 1)) = byF (ks.take i) + s.size := by
 unfold byF
 rw [List.take_add_one, h]
 simp [sumN_append, sumN]
theorem byF_le (ks : List ByteArray) (i : Nat) : byF (ks.take i) ≤ byF ks := by
 have : byF ks = byF (ks.take i) + byF (ks.drop i) := by
  unfold byF
  rw [← sumN_append, ← List.map_append, List.take_append_drop]
 omega
theorem size_le {ks : List ByteArray} {s : ByteArray} (h : s ∈ ks) : s.size ≤ byF ks := by
 induction ks with
 | nil => cases h
 | cons a ks ih =>
  have e : byF (a :: ks) = a.size + byF ks := rfl
  rcases List.mem_cons.1 h with rfl | h
  ·omega
  have := ih h; omega
end Go.Proofs.YtdmcioghdindfaaGreatDoor
namespace Go.Aff
open Go Go.RowKit
structure Kp (F : Nat → Prop) (w w' : World) : Prop where
 keeps : Keeps F w w'
 drawn : w.drawn ≤ w'.drawn
section
variable {F G : Nat → Prop} {w w1 w2 : World}
theorem Kp.refl (F : Nat → Prop) (w : World) : Kp F w w := ⟨Keeps.refl F w, Nat.le_refl _⟩
theorem Kp.trans (h : Kp F w w1) (k : Kp G w1 w2) (hG : ∀ i, i < w.heap.size → G i → F i) : Kp F w w2 := ⟨h.keeps.trans k.keeps hG, Nat.le_trans h.drawn k.drawn⟩
theorem Kp.mono (h : Kp F w w1) (hG : ∀ i, i < w.heap.size → F i → G i) : Kp G w w1 := ⟨h.keeps.mono hG, h.drawn⟩
theorem Kp.drewN (h : Kp F w w1) (n : Nat) : Kp F w (w1.drewN n) := ⟨h.keeps.drewN n, Nat.le_trans h.drawn (Nat.le_add_right _ _)⟩
theorem Kp.drew (h : Kp F w w1) : Kp F w w1.drew := ⟨h.keeps.drew, Nat.le_trans h.drawn (Nat.le_add_right _ 1)⟩
theorem Kp.alloc (h : Kp F w w1) (o : Obj) : Kp F w (w1.alloc o) := ⟨h.keeps.alloc o, h.drawn⟩
theorem Kp.setCell (h : Kp F w w1) {p : Addr} (hp : F p.block ∨ w.heap.size ≤ p.block) (u : Value) : Kp F w (w1.setCell p u) := ⟨h.keeps.setCell hp u, h.drawn⟩
theorem Kp.size (h : Kp F w w1) : w.heap.size ≤ w1.heap.size := h.keeps.size
theorem Kp.blk {g : Nat} {t : TypeId} {cs : List Value} (h : Kp F w w1) (hb : Blk w g t cs) (hn : ¬ F g) : Blk w1 g t cs := h.keeps.blk hb hn
theorem Rd.keepK {A : Option Addr} {n : Nat} {xs : List Value} (h : Rd w A n xs) (hk : Kp F w w1) (ho : Out F A n) : Rd w1 A n xs := h.keep hk.keeps ho
theorem bytesWorld_kp (w : World) (e : TypeId) (s : ByteArray) : Kp (fun _ => False) w (Lib.bytesWorld w e s) :=
 ⟨⟨rfl, rfl, rfl, by rw [Lib.bytesWorld_size]; omega, fun i hi _ => Lib.bytesWorld_at_old w e s i hi⟩, Nat.le_succ _⟩
theorem Kp.grows (h : Kp (fun _ => False) w w1) : ∃ q os, w1 = Go.Sort.grow (w.drewN q) os := by
 refine ⟨w1.drawn - w.drawn, w1.heap.extract w.heap.size w1.heap.size, ?_⟩
 have hs := h.keeps.size
 have hh : w1.heap = w.heap ++ w1.heap.extract w.heap.size w1.heap.size := by
  apply Array.ext_getElem?
  intro i
  rw [Array.getElem?_append]
  by_cases hi : i < w.heap.size
  ·rw [if_pos hi]; exact h.keeps.block i hi (fun h => h)
  rw [if_neg hi, Array.getElem?_extract]
  by_cases h2 : i - w.heap.size < min w1.heap.size w1.heap.size - w.heap.size
  ·rw [if_pos h2]; congr 1; omega
  rw [if_neg h2]; exact Array.getElem?_eq_none (by omega)
 have hd : w.drawn + (w1.drawn - w.drawn) = w1.drawn := by have := h.drawn; omega
 have e1 := h.keeps.os
 have e2 := h.keeps.tape
 have e3 := h.keeps.output
 cases w1 with
 | mk heap1 tape1 drawn1 os1 output1 =>
 cases w with
 | mk heap tape drawn os output =>
 simp only at hh hd e1 e2 e3
 subst e1 e2 e3
 show World.mk _ _ _ _ _ = World.mk (heap ++ _) _ _ _ _
 congr 1
 exact hd.symm
end
end Go.Aff
namespace Go.Proofs.YtdmcioghdindfaaGreatDoor
open Go Go.RowKit Go.Aff Go.Utf
def formV (f : Int × Int × Int) : List Value := [.int .i64 f.1, .int .u8 f.2.1, .int .u8 f.2.2]
theorem form_any (w : World) (c : Int) : Calls Tryz.prog 155 #[.int .u8 c] w fun e w' => e = .returned (.agg (formV (formF c)).toArray) ∧ Kp (fun _ => False) w w' := by
 have hb := Blk.new w 269 [.int .i64 0, .int .u8 0, .int .u8 0]
 have f0 := hb.frozen 0
 have f1 := hb.frozen 1
 have f2 := hb.frozen 2
 have HK := H_ fun vs => (Kp.refl (fun _ => False) w).alloc (.cells vs 269)
 have HR := H_ fun x y z => Blk.new w 269 [.int .i64 x, .int .u8 y, .int .u8 z]
 clear hb
 by_cases h0 : c < 128
 ·have HF : Hid (formF c = (1, 0, 0)) := H_ (by simp [formF, h0])
  go_enter Tryz.func155, Tryz.ntmps155
  go_wp2
  rw [HF.out]
  exact bodyPost_ret (results_blk rfl _ _ rfl (HR.out 1 0 0) Tryz.underlying269 rfl (by kernel_rfl)) rfl ⟨rfl, HK.out _⟩
 skip
 by_cases h1 : c < 194
 ·have HF : Hid (formF c = (0, 0, 0)) := H_ (by simp [formF, h0, h1])
  go_enter Tryz.func155, Tryz.ntmps155
  go_wp2
  rw [HF.out]
  exact bodyPost_ret (results_blk rfl _ _ rfl (HR.out 0 0 0) Tryz.underlying269 rfl (by kernel_rfl)) rfl ⟨rfl, HK.out _⟩
 skip
 by_cases h2 : c < 224
 ·have HF : Hid (formF c = (2, 128, 191)) := H_ (by simp [formF, h0, h1, h2])
  go_enter Tryz.func155, Tryz.ntmps155
  go_wp2
  rw [HF.out]
  exact bodyPost_ret (results_blk rfl _ _ rfl (HR.out 2 128 191) Tryz.underlying269 rfl (by kernel_rfl)) rfl ⟨rfl, HK.out _⟩
 skip
 by_cases h3 : c = 224
 ·subst h3
  have HF : Hid (formF 224 = (3, 160, 191)) := H_ (by decide)
  go_enter Tryz.func155, Tryz.ntmps155
  go_wp2
  rw [HF.out]
  exact bodyPost_ret (results_blk rfl _ _ rfl (HR.out 3 160 191) Tryz.underlying269 rfl (by kernel_rfl)) rfl ⟨rfl, HK.out _⟩
 have e3 : (c == 224) = false := by simp [h3]
 by_cases h4 : c = 237
 ·subst h4
  have HF : Hid (formF 237 = (3, 128, 159)) := H_ (by decide)
  go_enter Tryz.func155, Tryz.ntmps155
  go_wp2
  rw [HF.out]
  exact bodyPost_ret (results_blk rfl _ _ rfl (HR.out 3 128 159) Tryz.underlying269 rfl (by kernel_rfl)) rfl ⟨rfl, HK.out _⟩
 have e4 : (c == 237) = false := by simp [h4]
 by_cases h5 : c < 240
 ·have HF : Hid (formF c = (3, 128, 191)) := H_ (by simp [formF, h0, h1, h2, h3, h4, h5])
  go_enter Tryz.func155, Tryz.ntmps155
  go_wp2
  rw [HF.out]
  exact bodyPost_ret (results_blk rfl _ _ rfl (HR.out 3 128 191) Tryz.underlying269 rfl (by kernel_rfl)) rfl ⟨rfl, HK.out _⟩
 skip
 by_cases h6 : c = 240
 ·subst h6
  have HF : Hid (formF 240 = (4, 144, 191)) := H_ (by decide)
  go_enter Tryz.func155, Tryz.ntmps155
  go_wp2
  rw [HF.out]
  exact bodyPost_ret (results_blk rfl _ _ rfl (HR.out 4 144 191) Tryz.underlying269 rfl (by kernel_rfl)) rfl ⟨rfl, HK.out _⟩
 have e6 : (c == 240) = false := by simp [h6]
 by_cases h7 : c < 244
 ·have HF : Hid (formF c = (4, 128, 191)) := H_ (by simp [formF, h0, h1, h2, h3, h4, h5, h6, h7])
  go_enter Tryz.func155, Tryz.ntmps155
  go_wp2
  rw [HF.out]
  exact bodyPost_ret (results_blk rfl _ _ rfl (HR.out 4 128 191) Tryz.underlying269 rfl (by kernel_rfl)) rfl ⟨rfl, HK.out _⟩
 skip
 by_cases h8 : c = 244
 ·subst h8
  have HF : Hid (formF 244 = (4, 128, 143)) := H_ (by decide)
  go_enter Tryz.func155, Tryz.ntmps155
  go_wp2
  rw [HF.out]
  exact bodyPost_ret (results_blk rfl _ _ rfl (HR.out 4 128 143) Tryz.underlying269 rfl (by kernel_rfl)) rfl ⟨rfl, HK.out _⟩
 have e8 : (c == 244) = false := by simp [h8]
 have HF : Hid (formF c = (0, 0, 0)) := H_ (by simp [formF, h0, h1, h2, h3, h4, h5, h6, h7, h8])
 go_enter Tryz.func155, Tryz.ntmps155
 go_wp2
 rw [HF.out]
 exact bodyPost_ret (results_blk rfl _ _ rfl (HR.out 0 0 0) Tryz.underlying269 rfl (by kernel_rfl)) rfl ⟨rfl, HK.out _⟩
theorem may_any (w : World) (f : Int × Int × Int) (i c : Int) : Calls Tryz.prog 156 #[.agg (formV f).toArray, .int .i64 i, .int .u8 c] w fun e w' => e = .returned (.bool (mayF f i c)) ∧ Kp (fun _ => False) w w' := by
 obtain ⟨n, lo, hi⟩ := f
 have hb := Blk.new w 269 [.int .i64 n, .int .u8 lo, .int .u8 hi]
 have c1 := hb.cell 1
 have c2 := hb.cell 2
 have HK := H_ ((Kp.refl (fun _ => False) w).alloc (.cells #[.int .i64 n, .int .u8 lo, .int .u8 hi] 269))
 clear hb
 show Calls _ _ #[.agg #[.int .i64 n, .int .u8 lo, .int .u8 hi], .int .i64 i, .int .u8 c] w _
 by_cases h0 : i = 1
 ·subst h0
  by_cases h1 : lo ≤ c
  ·have h1d : decide (lo ≤ c) = true := by simp [h1]
   by_cases h2 : c ≤ hi
   ·have h2d : decide (c ≤ hi) = true := by simp [h2]
    have HF : Hid (mayF (n, lo, hi) 1 c = true) := H_ (by simp [mayF, if_true, h1, h2])
    go_enter Tryz.func156, Tryz.ntmps156
    go_wp2
    go_ret
    exact ⟨by rw [HF.out]; rfl, HK.out⟩
   have h2d : decide (c ≤ hi) = false := by simp [h2]
   have HF : Hid (mayF (n, lo, hi) 1 c = false) := H_ (by simp [mayF, if_true, h2])
   go_enter Tryz.func156, Tryz.ntmps156
   go_wp2
   go_ret
   exact ⟨by rw [HF.out]; rfl, HK.out⟩
  have h1d : decide (lo ≤ c) = false := by simp [h1]
  have HF : Hid (mayF (n, lo, hi) 1 c = false) := H_ (by simp [mayF, if_true, h1])
  go_enter Tryz.func156, Tryz.ntmps156
  go_wp2
  go_ret
  exact ⟨by rw [HF.out]; rfl, HK.out⟩
 have e0 : (i == 1) = false := by simp [h0]
 by_cases h1 : 128 ≤ c
 ·have h1d : decide (128 ≤ c) = true := by simp [h1]
  by_cases h2 : c ≤ 191
  ·have h2d : decide (c ≤ 191) = true := by simp [h2]
   have HF : Hid (mayF (n, lo, hi) i c = true) := H_ (by simp [mayF, h0, h1, h2])
   go_enter Tryz.func156, Tryz.ntmps156
   go_wp2
   go_ret
   exact ⟨by rw [HF.out]; rfl, HK.out⟩
  have h2d : decide (c ≤ 191) = false := by simp [h2]
  have HF : Hid (mayF (n, lo, hi) i c = false) := H_ (by simp [mayF, h0, h2])
  go_enter Tryz.func156, Tryz.ntmps156
  go_wp2
  go_ret
  exact ⟨by rw [HF.out]; rfl, HK.out⟩
 have h1d : decide (128 ≤ c) = false := by simp [h1]
 have HF : Hid (mayF (n, lo, hi) i c = false) := H_ (by simp [mayF, h0, h1])
 go_enter Tryz.func156, Tryz.ntmps156
 go_wp2
 go_ret
 exact ⟨by rw [HF.out]; rfl, HK.out⟩
end Go.Proofs.YtdmcioghdindfaaGreatDoor
