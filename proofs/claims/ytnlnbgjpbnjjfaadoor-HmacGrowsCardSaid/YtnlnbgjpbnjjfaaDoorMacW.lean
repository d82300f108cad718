/-
  WALKS: hmac: block, begun, New, Write, Sum.
-/
import Derived.Test.YtnlnbgjpbnjjfaaDoorOwnW
import Derived.Test.YtnlnbgjpbnjjfaaDoorMacP
import Derived.Test.YtnlnbgjpbnjjfaaDoorOwnSet
import Derived.Laws.CopyOwn
set_option linter.unusedSimpArgs false
namespace Go.Proofs.YtnlnbgjpbnjjfaaDoor
open Go Go.RowKit Go.Sha Go.Aff Go.Mac

theorem info32 : (Tryd.prog.info? 41).map (·.size) = some 32 := by kernel_rfl
theorem infoB64 : (Tryd.prog.info? 84).map (·.size) = some 64 := by kernel_rfl
theorem vb_length (xs : List Int) : (vb xs).length = xs.length := by simp [vb]

/-- What block leaves in its array: the bytes over the noughts. -/
theorem block_row (xs : List Int) (_h : xs.length ≤ 64) : Go.splice (List.replicate 64 (Value.int .u8 0)) 0 (vb xs) = vb (xs ++ List.replicate (64 - xs.length) 0) := by
  unfold Go.splice
  rw [List.take_zero, List.nil_append, vb_length, Nat.zero_add, List.drop_replicate]
  simp [vb]

theorem rd_src {W : World} {A : Option Addr} {n : Nat} {xs : List Value} (h : Rd W A n xs) (dp : Option Addr) : 0 < xs.length → dp = dp ∧ ∃ ad, A = some ad ∧ ∀ j v, xs[j]? = some v → W.cell? (ad.add j) = some v := fun h0 => by
  obtain ⟨g, o, rfl, hc⟩ := h.2 (by have := h.1; omega)
  exact ⟨rfl, ⟨g, o, none⟩, rfl, fun j v hv => by rw [add_at, hc j (by have := h.1; have := (List.getElem?_eq_some_iff.1 hv).1; omega), hv]⟩

set_option maxHeartbeats 2000000 in
set_option maxRecDepth 100000 in
theorem block_any (w : World) (hG : Glob w) (A : Option Addr) (n c : Nat) (key : List Int) (hn : key.length = n) (hr : Rd w A n (vb key)) (hb : IsBytes key) (hc : n ≤ c) (hm : n ≤ 140737488351232) :
    Calls Tryd.prog 50 #[.slice A n c] w fun e w' => e = .returned (.agg (vb (keyB key)).toArray) ∧ Keeps (fun _ => False) w w' := by
  have h1 := (Blk.new w 84 (List.replicate 64 (Value.int .u8 0))).alloc (.cells (List.replicate 64 (Value.int .u8 0)).toArray 84)
  have h2 := Blk.new (w.alloc (.cells (List.replicate 64 (Value.int .u8 0)).toArray 84)) 84 (List.replicate 64 (Value.int .u8 0))
  rw [World.size_alloc] at h2
  have HFIN : Hid (∀ (W W' : World) (xs : List Int), xs.length ≤ 64 → keyIn key = xs → Keeps (fun _ => False) w W → Blk W w.heap.size 84 (List.replicate 64 (Value.int .u8 0)) → Hid (W'.heap[w.heap.size + 1]? = some (.cells (Go.splice (List.replicate 64 (Value.int .u8 0)) 0 (vb xs)).toArray 84 (0, 0))) → Below (w.heap.size + 1) W W' →
      Blk W' (w.heap.size + 1) 84 (vb (keyB key)) ∧ Blk W' w.heap.size 84 (List.replicate 64 (Value.int .u8 0)) ∧ Keeps (fun _ => False) w W') := Lib.hid fun W W' xs hl he hk hz hg hbl => by
    have hg' := hg.out
    rw [block_row xs hl] at hg'
    refine ⟨?_, hz.below hbl (by omega), hk.trans (Keeps.below hbl) (fun i hi h => by omega)⟩
    unfold keyB
    rw [he]
    exact hg'
  by_cases hlen : n ≤ 64
  · have hki : keyIn key = key := by unfold keyIn; rw [if_pos (by omega)]
    have hlen' : ¬ (64 < (n : Int)) := by omega
    have hr2 : Rd ((w.alloc (.cells (List.replicate 64 (Value.int .u8 0)).toArray 84)).alloc (.cells (List.replicate 64 (Value.int .u8 0)).toArray 84)) A n (vb key) := (hr.alloc _).alloc _
    have H1 := Lib.hid h1
    have H2 := Lib.hid h2
    have HR2 := Lib.hid hr2
    have HN := Lib.hid hn
    have HKI := Lib.hid hki
    clear h1 h2 hr2 hr hn hki hG
    go_enter Tryd.func50, Tryd.ntmps50
    go_wp2_with (first
      | ((with_reducible show wpList _ _ _ (⟨some 14, Op.call _, _, _, _, _⟩ :: _) _ _); refine wpList_copy_splice rfl (.tmp 12) (.tmp 13) 22 22 rfl 5 Tryd.underlying22 (by kernel_rfl) (some ⟨w.heap.size + 1, 0, none⟩) A 64 64 n c rfl rfl (w.heap.size + 1) 0 (List.replicate 64 (Value.int .u8 0)) 84 H2.out (vb key) (by rw [vb_length, HN.out]; exact (Nat.min_eq_left hlen).symm) (rd_src HR2.out _) (by rw [vb_length, HN.out]; simp; omega) (vb_one _) (w.heap.size + 1) _ (Below.refl _ _) (Nat.le_refl _) ?_; intro w4 hg4 hb4; obtain ⟨hq1, hq2, hq3⟩ := HFIN.out _ w4 key (by rw [HN.out]; exact hlen) HKI.out (((Keeps.refl _ w).alloc _).alloc _) H1.out hg4 hb4; have HQ1 := Lib.hid hq1; have HQ2 := Lib.hid hq2; have HQ3 := Lib.hid hq3; clear hq1 hq2 hq3 hg4 hb4)
      | ((with_reducible show wpList _ _ _ (⟨some _, Op.load 84 _, _, _, _, _⟩ :: _) _ _); refine wpList_load_whole rfl 84 _ rfl _ rfl HQ1.out Tryd.underlying84 rfl (by rw [vb_length, keyB_length]; exact infoB64) ?_)
      | ((with_reducible show wpList _ _ _ (⟨none, Op.store 84 _ _, _, _, _, _⟩ :: _) _ _); refine wpList_store_whole rfl 84 _ _ rfl (vb (keyB key)) rfl rfl HQ2.out (by rw [vb_length, keyB_length]; simp) (by rw [vb_length, keyB_length]; exact infoB64) (vb_one _) ?_))
    refine bodyPost_ret (results_blk rfl _ _ rfl (HQ2.out.setRow (vb (keyB key))) Tryd.underlying84 rfl (by rw [vb_length, keyB_length]; exact infoB64)) rfl ⟨rfl, HQ3.out.setRow (.inr (Nat.le_refl _)) _⟩
  · obtain ⟨D, hD⟩ : ∃ D, D = sumF first 0 key := ⟨_, rfl⟩
    have hDl : D.length = 32 := by rw [hD, sumF_length]
    have hki : keyIn key = D := by unfold keyIn; rw [if_neg (by omega), hD]
    have hlen' : (64 < (n : Int)) := by omega
    have hs := sums_one ((w.alloc (.cells (List.replicate 64 (Value.int .u8 0)).toArray 84)).alloc (.cells (List.replicate 64 (Value.int .u8 0)).toArray 84)) (hG.keep (((Keeps.refl (fun _ => False) w).alloc _).alloc _) (fun _ h => h.elim)) A n c key hn ((hr.alloc _).alloc _) hb hc hm
    rw [← hD] at hs
    simp only [World.size_alloc] at hs
    have HS := Lib.hid hs
    have H1 := Lib.hid h1
    have H2 := Lib.hid h2
    have HN := Lib.hid hn
    have HKI := Lib.hid hki
    have HDL := Lib.hid hDl
    clear h1 h2 hr hn hki hG hs hDl hD hlen
    go_enter Tryd.func50, Tryd.ntmps50
    go_wp2_with (first
      | (go_at_call 20; refine HS.out.mono ?_; rintro e w2 ⟨rfl, hk2⟩; have hw3 := (hk2.alloc (.cells (List.replicate 32 (Value.int .u8 0)).toArray 41)).setRow (.inr hk2.size) (vb D).toArray; have hd3 := (Blk.new w2 41 (List.replicate 32 (Value.int .u8 0))).setRow (vb D); have HD3 := Lib.hid hd3; have HW3 := Lib.hid hw3; have HZ3 := Lib.hid (Blk.new w2 41 (List.replicate 32 (Value.int .u8 0))); have hlow : w.heap.size + 1 < w2.heap.size := (hk2.blk H2.out (fun h => h)).lt; clear hk2 hw3 hd3)
      | ((with_reducible show wpList _ _ _ (⟨none, Op.store 41 _ _, _, _, _, _⟩ :: _) _ _); refine wpList_store_whole rfl 41 _ _ rfl (vb D) rfl rfl HZ3.out (by rw [vb_length, HDL.out]; simp) (by rw [vb_length, HDL.out]; exact info32) (vb_one _) ?_)
      | ((with_reducible show wpList _ _ _ (⟨some 14, Op.call _, _, _, _, _⟩ :: _) _ _); refine wpList_copy_splice rfl (.tmp 12) (.tmp 13) 22 22 rfl 5 Tryd.underlying22 (by kernel_rfl) (some ⟨w.heap.size + 1, 0, none⟩) (some ⟨w2.heap.size, 0, none⟩) 64 64 32 32 rfl rfl (w.heap.size + 1) 0 (List.replicate 64 (Value.int .u8 0)) 84 (HW3.out.blk H2.out (fun h => h)) (vb D) (by rw [vb_length, HDL.out]; rfl) (rd_src (Rd.of_blk HD3.out rfl) _) (by rw [vb_length, HDL.out]; simp) (vb_one _) (w.heap.size + 1) _ (Below.refl _ _) (Nat.le_refl _) ?_; intro w4 hg4 hb4; obtain ⟨hq1, hq2, hq3⟩ := HFIN.out _ w4 D (by rw [HDL.out]; omega) HKI.out ((((Keeps.refl _ w).alloc _).alloc _).trans HW3.out (fun _ _ h => h)) (HW3.out.blk H1.out (fun h => h)) hg4 hb4; have HQ1 := Lib.hid hq1; have HQ2 := Lib.hid hq2; have HQ3 := Lib.hid hq3; clear hq1 hq2 hq3 hg4 hb4)
      | ((with_reducible show wpList _ _ _ (⟨some _, Op.load 84 _, _, _, _, _⟩ :: _) _ _); refine wpList_load_whole rfl 84 _ rfl _ rfl HQ1.out Tryd.underlying84 rfl (by rw [vb_length, keyB_length]; exact infoB64) ?_)
      | ((with_reducible show wpList _ _ _ (⟨none, Op.store 84 _ _, _, _, _, _⟩ :: _) _ _); refine wpList_store_whole rfl 84 _ _ rfl (vb (keyB key)) rfl rfl HQ2.out (by rw [vb_length, keyB_length]; simp) (by rw [vb_length, keyB_length]; exact infoB64) (vb_one _) ?_))
    refine bodyPost_ret (results_blk rfl _ _ rfl (HQ2.out.setRow (vb (keyB key))) Tryd.underlying84 rfl (by rw [vb_length, keyB_length]; exact infoB64)) rfl ⟨rfl, HQ3.out.setRow (.inr (Nat.le_refl _)) _⟩
end Go.Proofs.YtnlnbgjpbnjjfaaDoor
