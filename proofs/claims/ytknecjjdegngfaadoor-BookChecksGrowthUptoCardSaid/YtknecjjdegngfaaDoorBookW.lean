/-
  WALKS: the book's Leaf, Pair, Empty and the reference's; beyond.
-/
import Derived.Test.YtknecjjdegngfaaDoorRefBW
import Derived.Test.YtknecjjdegngfaaDoorMemK
import Derived.Test.YtknecjjdegngfaaDoorKit
set_option linter.unusedSimpArgs false
namespace Go.Book
open Go Go.Aff Go.Sha
def leafF (xs : List Int) : List Int := sumF first 0 (0 :: xs)
def pairF (l r : List Int) : List Int := sumF first 0 (1 :: (l ++ r))
def emptyF : List Int := sumF first 0 []
end Go.Book
namespace Go.Aff
open Go Go.RowKit
/-- A row that is laid whole in a block of its own. -/
theorem own_built (w : World) (e : TypeId) (n : Nat) (cs : List Value) (hn : cs.length = n) (hm : n ≤ maxLen) : (w.alloc (.cells cs.toArray e)).ownsRow 0 e 1 (.slice (some ⟨w.heap.size, 0, none⟩) n n) n cs :=
  ⟨by omega, .inr ⟨w.heap.size, n, cs.toArray, rfl, Nat.zero_le _, heap_alloc_new w _, Nat.le_refl _, hm, by simp [hn], by simp [← hn]⟩⟩
theorem Mine.built (w wr : World) (e : TypeId) (n : Nat) (cs : List Value) (hk : Keeps (fun _ => False) w wr) (hn : cs.length = n) (hm : n ≤ maxLen) : Mine w (wr.alloc (.cells cs.toArray e)) e (some ⟨wr.heap.size, 0, none⟩) n n cs :=
  ⟨own_built wr e n cs hn hm, hk.alloc _, fun g h => by have e1 : some wr.heap.size = some g := h; injection e1 with e1; have := hk.size; omega⟩
end Go.Aff
namespace Go.Proofs.YtknecjjdegngfaaDoor
open Go Go.RowKit Go.Sha Go.Aff Go.Book

theorem bytes_one (b : Int) (h : 0 ≤ b ∧ b < 256) : IsBytes [b] := fun x hx => by rw [List.mem_singleton.1 hx]; exact h

set_option maxHeartbeats 1000000 in
set_option maxRecDepth 100000 in
theorem leaf_any (w : World) (hG : Glob w) (A : Option Addr) (n c : Nat) (bs : List Int) (hn : bs.length = n) (hr : Rd w A n (vb bs)) (hb : IsBytes bs) (hc : n ≤ c) (hm : n ≤ 140737488351200) :
    Calls Tryd.prog 11 #[.slice A n c] w fun e w' => e = .returned (.agg (vb (leafF bs)).toArray) ∧ Keeps (fun _ => False) w w' := by
  obtain ⟨W1, hW1⟩ : ∃ W1, W1 = w.alloc (.cells (List.replicate 32 (Value.int .u8 0)).toArray 24) := ⟨_, rfl⟩
  have hk1 : Keeps (fun _ => False) w W1 := by rw [hW1]; exact (Keeps.refl _ w).alloc _
  have hz : Blk W1 w.heap.size 24 (List.replicate 32 (Value.int .u8 0)) := by rw [hW1]; exact Blk.new _ _ _
  have hsz : W1.heap.size = w.heap.size + 1 := by rw [hW1]; simp
  have hk2 : Keeps (fun _ => False) W1 (W1.alloc (.cells #[.int .u8 0] 5)) := (Keeps.refl _ _).alloc _
  have hp := parts_two (fun _ => False) (W1.alloc (.cells #[.int .u8 0] 5)) 22 (some ⟨W1.heap.size, 0, none⟩) A 1 1 n c [0] bs (fun _ h => h.elim) rfl (Rd.of_blk (Blk.new W1 5 [.int .u8 0]) rfl) (no_out _ _) (bytes_one 0 (by omega)) (by omega) (by omega) hn ((hr.keep hk1 (no_out _ _)).alloc _) (no_out _ _) hb hc (by omega)
  rw [World.size_alloc, hsz] at hp
  have hk3 := hk2.alloc (.cells #[.slice (some ⟨w.heap.size + 1, 0, none⟩) 1 1, .slice A n c] 22)
  have hs := sums_any _ (hG.keep (hk1.trans hk3 (fun _ _ h => h)) (fun _ h => h.elim)) _ 2 [[0], bs] hp.plain (by simp) (by simp; omega)
  simp only [List.flatten_cons, List.flatten_nil, List.append_nil, List.cons_append, List.nil_append, List.length_cons, List.length_nil] at hs
  have HDL0 : (vb (leafF bs)).length = 32 := by simp [vb, leafF, sumF_length]
  obtain ⟨DV, hDV⟩ : ∃ DV, DV = vb (leafF bs) := ⟨_, rfl⟩
  have HD1 : Hid (∀ u ∈ DV, u.oneCell' = true) := Lib.hid (by rw [hDV]; exact vb_one _)
  have HDL : Hid (DV.length = 32) := Lib.hid (by rw [hDV]; exact HDL0)
  have HIN : Hid ((Tryd.prog.info? 24).map (·.size) = some DV.length) := Lib.hid (by rw [HDL.out]; kernel_rfl)
  have he : sumF first 0 (0 :: bs) = leafF bs := rfl
  rw [he, ← hDV] at hs
  rw [← hDV]
  have HZ := Lib.hid (hk3.blk hz (fun h => h))
  have HK := Lib.hid (hk1.trans hk3 (fun _ _ h => h))
  rw [hW1] at hs HZ HK
  have HS := Lib.hid hs
  clear hW1 hk1 hz hsz hk2 hk3 hp hs hDV hr hb hG he HDL0
  go_enter Tryd.func11, Tryd.ntmps11
  go_wp2_with (first
    | (go_at_call 42; refine HS.out.mono ?_; rintro e w6 ⟨rfl, hk6⟩; have HZ9 := Lib.hid (hk6.blk HZ.out (fun h => h)); have HK9 := Lib.hid (HK.out.trans hk6 (fun _ _ h => h)); clear hk6)
    | ((with_reducible show wpList _ _ _ (⟨none, Op.store 24 _ _, _, _, _, _⟩ :: _) _ _); refine wpList_store_whole rfl 24 _ _ rfl DV rfl rfl HZ9.out (by rw [HDL.out]; simp) HIN.out HD1.out ?_))
  refine bodyPost_ret (results_blk rfl _ _ rfl (HZ9.out.setRow DV) Tryd.underlying24 rfl HIN.out) rfl ⟨rfl, HK9.out.setRow (.inr (Nat.le_refl _)) _⟩

set_option maxHeartbeats 1000000 in
set_option maxRecDepth 100000 in
theorem empty_any (w : World) (hG : Glob w) : Calls Tryd.prog 15 #[] w fun e w' => e = .returned (.agg (vb emptyF).toArray) ∧ Keeps (fun _ => False) w w' := by
  have hs := sums_any _ (hG.keep ((Keeps.refl (fun _ => False) w).alloc (.cells (List.replicate 32 (Value.int .u8 0)).toArray 24)) (fun _ h => h.elim)) none 0 [] ⟨[], Rd.nil _ _, fun i bs h => by simp at h⟩ (by simp) (by simp)
  simp only [List.flatten_nil, List.length_nil] at hs
  have HDL0 : (vb (emptyF)).length = 32 := by simp [vb, emptyF, sumF_length]
  obtain ⟨DV, hDV⟩ : ∃ DV, DV = vb (emptyF) := ⟨_, rfl⟩
  have HD1 : Hid (∀ u ∈ DV, u.oneCell' = true) := Lib.hid (by rw [hDV]; exact vb_one _)
  have HDL : Hid (DV.length = 32) := Lib.hid (by rw [hDV]; exact HDL0)
  have HIN : Hid ((Tryd.prog.info? 24).map (·.size) = some DV.length) := Lib.hid (by rw [HDL.out]; kernel_rfl)
  have he : sumF first 0 [] = emptyF := rfl
  rw [he, ← hDV] at hs
  rw [← hDV]
  have HZ := Lib.hid (Blk.new w 24 (List.replicate 32 (Value.int .u8 0)))
  have HS := Lib.hid hs
  clear hs hDV he hG HDL0
  go_enter Tryd.func15, Tryd.ntmps15
  go_wp2_with (first
    | (go_at_call 42; refine HS.out.mono ?_; rintro e w6 ⟨rfl, hk6⟩; have HZ9 := Lib.hid (hk6.blk HZ.out (fun h => h)); have HK9 := Lib.hid (((Keeps.refl (fun _ => False) w).alloc _).trans hk6 (fun _ _ h => h)); clear hk6)
    | ((with_reducible show wpList _ _ _ (⟨none, Op.store 24 _ _, _, _, _, _⟩ :: _) _ _); refine wpList_store_whole rfl 24 _ _ rfl DV rfl rfl HZ9.out (by rw [HDL.out]; simp) HIN.out HD1.out ?_))
  refine bodyPost_ret (results_blk rfl _ _ rfl (HZ9.out.setRow DV) Tryd.underlying24 rfl HIN.out) rfl ⟨rfl, HK9.out.setRow (.inr (Nat.le_refl _)) _⟩

set_option maxHeartbeats 1000000 in
set_option maxRecDepth 100000 in
theorem rempty_any (w : World) : Calls Tryd.prog 16 #[] w fun e w' => e = .returned (.agg (vb emptyF).toArray) ∧ Keeps (fun _ => False) w w' := by
  have hs := rof_any (w.alloc (.cells (List.replicate 32 (Value.int .u8 0)).toArray 23)) none 0 0 [] rfl (Rd.nil _ _) (fun x h => by cases h) (by omega)
  have HDL0 : (vb (emptyF)).length = 32 := by simp [vb, emptyF, sumF_length]
  obtain ⟨DV, hDV⟩ : ∃ DV, DV = vb (emptyF) := ⟨_, rfl⟩
  have HD1 : Hid (∀ u ∈ DV, u.oneCell' = true) := Lib.hid (by rw [hDV]; exact vb_one _)
  have HDL : Hid (DV.length = 32) := Lib.hid (by rw [hDV]; exact HDL0)
  have HIN : Hid ((Tryd.prog.info? 23).map (·.size) = some DV.length) := Lib.hid (by rw [HDL.out]; kernel_rfl)
  have he : sumF first 0 [] = emptyF := rfl
  rw [he, ← hDV] at hs
  rw [← hDV]
  have HZ := Lib.hid (Blk.new w 23 (List.replicate 32 (Value.int .u8 0)))
  have HS := Lib.hid hs
  clear hs hDV he HDL0
  go_enter Tryd.func16, Tryd.ntmps16
  go_wp2_with (first
    | (go_at_call 43; refine HS.out.mono ?_; rintro e w6 ⟨rfl, hk6⟩; have HZ9 := Lib.hid (hk6.blk HZ.out (fun h => h)); have HK9 := Lib.hid (((Keeps.refl (fun _ => False) w).alloc _).trans hk6 (fun _ _ h => h)); clear hk6)
    | ((with_reducible show wpList _ _ _ (⟨none, Op.store 23 _ _, _, _, _, _⟩ :: _) _ _); refine wpList_store_whole rfl 23 _ _ rfl DV rfl rfl HZ9.out (by rw [HDL.out]; simp) HIN.out HD1.out ?_))
  refine bodyPost_ret (results_blk rfl _ _ rfl (HZ9.out.setRow DV) Tryd.underlying23 rfl HIN.out) rfl ⟨rfl, HK9.out.setRow (.inr (Nat.le_refl _)) _⟩

set_option maxHeartbeats 1000000 in
set_option maxRecDepth 100000 in
theorem leafRow_any (w : World) (A : Option Addr) (n c : Nat) (bs : List Int) (hr : Rd w A n (vb bs)) (hm : n ≤ 140737488351200) :
    Calls Tryd.prog 44 #[.slice A n c] w fun e w' => ∃ A' c', e = .returned (.slice A' (1 + n) c') ∧ Mine w w' 5 A' (1 + n) c' (vb (0 :: bs)) := by
  have HM := Lib.hid (Mine.built w w 5 1 [.int .u8 0] (Keeps.refl _ _) rfl (by unfold maxLen; omega))
  have HR := Lib.hid (hr.alloc (.cells #[.int .u8 0] 5))
  clear hr
  go_enter Tryd.func44, Tryd.ntmps44
  go_wp2_with (at_builtin; refine wpList_append_rd _ rfl (.tmp 3) (.tmp 4) 22 rfl 5 (.int .u8 0) 1 Tryd.underlying22 info5 rfl (.slice (some ⟨w.heap.size, 0, none⟩) 1 1) 1 [.int .u8 0] rfl HM.out.1 A n c (vb bs) rfl HR.out (vb_one bs) (by unfold maxLen; omega) (by omega) ?_; intro A3 c3 w3 hown hg hb; have HM3 := Lib.hid (Mine.app0 HM.out hown hg hb); clear hown hg hb)
  go_ret
  exact ⟨A3, c3, rfl, HM3.out⟩

set_option maxHeartbeats 1000000 in
set_option maxRecDepth 100000 in
theorem rleaf_any (w : World) (A : Option Addr) (n c : Nat) (bs : List Int) (hn : bs.length = n) (hr : Rd w A n (vb bs)) (hb : IsBytes bs) (hm : n ≤ 140737488351200) :
    Calls Tryd.prog 12 #[.slice A n c] w fun e w' => e = .returned (.agg (vb (leafF bs)).toArray) ∧ Keeps (fun _ => False) w w' := by
  have HL : Hid (Calls Tryd.prog 44 #[.slice A n c] (w.alloc (.cells (List.replicate 32 (Value.int .u8 0)).toArray 23)) fun e w' => ∃ A' c', e = .returned (.slice A' (1 + n) c') ∧ Mine (w.alloc (.cells (List.replicate 32 (Value.int .u8 0)).toArray 23)) w' 5 A' (1 + n) c' (vb (0 :: bs))) := Lib.hid (leafRow_any _ A n c bs (hr.alloc _) hm)
  have HO : Hid (∀ (w1 w2 : World) A' c', Mine w1 w2 5 A' (1 + n) c' (vb (0 :: bs)) → Calls Tryd.prog 43 #[.slice A' (1 + n) c'] w2 fun e w' => e = .returned (.agg (vb (leafF bs)).toArray) ∧ Keeps (fun _ => False) w1 w') := Lib.hid fun w1 w2 A' c' h =>
    (rof_any w2 A' (1 + n) c' (0 :: bs) (by simp; omega) (Rd.of_own h.1) (fun x hx => by rcases List.mem_cons.1 hx with rfl | hx; omega; exact hb x hx) (by omega)).mono fun e w' ⟨he, hk⟩ => ⟨he, h.2.1.trans hk (fun _ _ h => h)⟩
  have HDL0 : (vb (leafF bs)).length = 32 := by simp [vb, leafF, sumF_length]
  obtain ⟨DV, hDV⟩ : ∃ DV, DV = vb (leafF bs) := ⟨_, rfl⟩
  have HD1 : Hid (∀ u ∈ DV, u.oneCell' = true) := Lib.hid (by rw [hDV]; exact vb_one _)
  have HDL : Hid (DV.length = 32) := Lib.hid (by rw [hDV]; exact HDL0)
  have HIN : Hid ((Tryd.prog.info? 23).map (·.size) = some DV.length) := Lib.hid (by rw [HDL.out]; kernel_rfl)
  rw [← hDV] at HO ⊢
  have HZ := Lib.hid (Blk.new w 23 (List.replicate 32 (Value.int .u8 0)))
  clear hDV hr hb hn HDL0
  go_enter Tryd.func12, Tryd.ntmps12
  go_wp2_with (first
    | (go_at_call 44; refine HL.out.mono ?_; rintro e w5 ⟨A5, c5, rfl, hm5⟩; have HM5 := Lib.hid hm5; clear hm5)
    | (go_at_call 43; refine (HO.out _ _ _ _ HM5.out).mono ?_; rintro e w6 ⟨rfl, hk6⟩; have HZ9 := Lib.hid (hk6.blk HZ.out (fun h => h)); have HK9 := Lib.hid (((Keeps.refl (fun _ => False) w).alloc _).trans hk6 (fun _ _ h => h)); clear hk6)
    | ((with_reducible show wpList _ _ _ (⟨none, Op.store 23 _ _, _, _, _, _⟩ :: _) _ _); refine wpList_store_whole rfl 23 _ _ rfl DV rfl rfl HZ9.out (by rw [HDL.out]; simp) HIN.out HD1.out ?_))
  refine bodyPost_ret (results_blk rfl _ _ rfl (HZ9.out.setRow DV) Tryd.underlying23 rfl HIN.out) rfl ⟨rfl, HK9.out.setRow (.inr (Nat.le_refl _)) _⟩

set_option maxHeartbeats 1000000 in
set_option maxRecDepth 100000 in
theorem pairRow_any (w : World) (l r : List Int) (hl : l.length = 32) (hr : r.length = 32) :
    Calls Tryd.prog 45 #[.agg (vb l).toArray, .agg (vb r).toArray] w fun e w' => ∃ A' c', e = .returned (.slice A' 65 c') ∧ Mine w w' 5 A' 65 c' (vb (1 :: (l ++ r))) := by
  have hb1 := (Blk.new w 23 (vb l)).alloc (.cells (vb r).toArray 23)
  have hb2 := Blk.new (w.alloc (.cells (vb l).toArray 23)) 23 (vb r)
  rw [World.size_alloc] at hb2
  have hk : Keeps (fun _ => False) w ((w.alloc (.cells (vb l).toArray 23)).alloc (.cells (vb r).toArray 23)) := ((Keeps.refl _ w).alloc _).alloc _
  have hm := Mine.built w _ 5 1 [.int .u8 1] hk rfl (by unfold maxLen; omega)
  have hr1 : Rd _ (some ⟨w.heap.size, 0, none⟩) 32 (vb l) := Rd.of_blk (hb1.alloc (.cells #[.int .u8 1] 5)) (by simp [vb, hl])
  have hr2 : Rd _ (some ⟨w.heap.size + 1, 0, none⟩) 32 (vb r) := Rd.of_blk (hb2.alloc (.cells #[.int .u8 1] 5)) (by simp [vb, hr])
  simp only [World.size_alloc] at hm
  obtain ⟨lc, hlc⟩ : ∃ lc, lc = (vb l).toArray := ⟨_, rfl⟩
  obtain ⟨rc, hrc⟩ : ∃ rc, rc = (vb r).toArray := ⟨_, rfl⟩
  rw [← hlc, ← hrc] at hm hr1 hr2
  rw [← hlc, ← hrc]
  have HM := Lib.hid hm
  have HR1 := Lib.hid hr1
  have HR2 := Lib.hid hr2
  have HV : Hid ([Value.int .u8 1] ++ vb l ++ vb r = vb (1 :: (l ++ r))) := Lib.hid (by simp [vb])
  have H1 := Lib.hid (vb_one l)
  have H2 := Lib.hid (vb_one r)
  clear hb1 hb2 hk hm hr1 hr2 hlc hrc hl hr
  go_enter Tryd.func45, Tryd.ntmps45
  go_wp2_with (first
    | (at_builtin; refine wpList_append_rd _ rfl (.tmp 6) (.tmp 7) 22 rfl 5 (.int .u8 0) 1 Tryd.underlying22 info5 rfl (.slice (some ⟨w.heap.size + 1 + 1, 0, none⟩) 1 1) 1 [.int .u8 1] rfl HM.out.1 (some ⟨w.heap.size, 0, none⟩) 32 32 (vb l) rfl HR1.out H1.out (by unfold maxLen; omega) (by omega) ?_; intro A3 c3 w3 hown hg hb; have HR3 := Lib.hid (HR2.out.keep (Keeps.of_grown hg) (fun _ ad e h => by injection e with e; subst e; have h1 : some (w.heap.size + 1 + 1) = some (w.heap.size + 1) := h; injection h1 with h1; omega)); have HM3 := Lib.hid (Mine.app0 HM.out hown hg hb); clear hown hg hb)
    | (at_builtin; refine wpList_append_rd _ rfl (.tmp 9) (.tmp 10) 22 rfl 5 (.int .u8 0) 1 Tryd.underlying22 info5 rfl (.slice A3 33 c3) 33 ([.int .u8 1] ++ vb l) rfl HM3.out.1 (some ⟨w.heap.size + 1, 0, none⟩) 32 32 (vb r) rfl HR3.out H2.out (by unfold maxLen; omega) (by omega) ?_; intro A4 c4 w4 hown hg hb; rw [HV.out] at hown; have HM4 := Lib.hid (Mine.app0 HM3.out hown hg hb); clear hown hg hb))
  go_ret
  exact ⟨A4, c4, rfl, HM4.out⟩
set_option maxHeartbeats 2000000 in
set_option maxRecDepth 100000 in
theorem pair_any (w : World) (hG : Glob w) (l r : List Int) (hl : l.length = 32) (hr : r.length = 32) (bl : IsBytes l) (br : IsBytes r) :
    Calls Tryd.prog 13 #[.agg (vb l).toArray, .agg (vb r).toArray] w fun e w' => e = .returned (.agg (vb (pairF l r)).toArray) ∧ Keeps (fun _ => False) w w' := by
  obtain ⟨lc, hlc⟩ : ∃ lc, lc = (vb l).toArray := ⟨_, rfl⟩
  obtain ⟨rc, hrc⟩ : ∃ rc, rc = (vb r).toArray := ⟨_, rfl⟩
  have hb1 := ((Blk.new w 24 (vb l)).alloc (.cells (vb r).toArray 24)).alloc (.cells (List.replicate 32 (Value.int .u8 0)).toArray 24)
  have hb2 := (Blk.new (w.alloc (.cells (vb l).toArray 24)) 24 (vb r)).alloc (.cells (List.replicate 32 (Value.int .u8 0)).toArray 24)
  have hb3 := Blk.new ((w.alloc (.cells (vb l).toArray 24)).alloc (.cells (vb r).toArray 24)) 24 (List.replicate 32 (Value.int .u8 0))
  have hk : Keeps (fun _ => False) w (((w.alloc (.cells (vb l).toArray 24)).alloc (.cells (vb r).toArray 24)).alloc (.cells (List.replicate 32 (Value.int .u8 0)).toArray 24)) := (((Keeps.refl _ w).alloc _).alloc _).alloc _
  simp only [World.size_alloc] at hb2 hb3
  rw [← hlc, ← hrc] at hb1 hb2 hb3 hk
  rw [← hlc, ← hrc]
  obtain ⟨W0, hW0⟩ : ∃ W0, W0 = (((w.alloc (.cells lc 24)).alloc (.cells rc 24)).alloc (.cells (List.replicate 32 (Value.int .u8 0)).toArray 24)) := ⟨_, rfl⟩
  rw [← hW0] at hb1 hb2 hb3 hk
  have HS : Hid (∀ (W : World) (N : Nat), Keeps (fun _ => False) W0 W → W.heap.size = N → Calls Tryd.prog 42 #[.slice (some ⟨N + 1, 0, none⟩) 3 3] ((W.alloc (.cells #[.int .u8 1] 5)).alloc (.cells #[.slice (some ⟨N, 0, none⟩) 1 1, .slice (some ⟨w.heap.size, 0, none⟩) 32 32, .slice (some ⟨w.heap.size + 1, 0, none⟩) 32 32] 22)) fun e w' => e = .returned (.agg (vb (pairF l r)).toArray) ∧ Keeps (fun _ => False) W w') := Lib.hid fun W N hkW hNN => by
    subst hNN
    have hk2 : Keeps (fun _ => False) W (W.alloc (.cells #[.int .u8 1] 5)) := (Keeps.refl _ _).alloc _
    have hp := parts_three (fun _ => False) (W.alloc (.cells #[.int .u8 1] 5)) 22 (some ⟨W.heap.size, 0, none⟩) (some ⟨w.heap.size, 0, none⟩) (some ⟨w.heap.size + 1, 0, none⟩) 1 1 32 32 32 32 [1] l r (fun _ h => h.elim) rfl (Rd.of_blk (Blk.new W 5 [.int .u8 1]) rfl) (no_out _ _) (bytes_one 1 (by omega)) (by omega) (by omega)
      hl ((Rd.of_blk (hkW.blk hb1 (fun h => h)) (by simp [vb, hl])).alloc _) (no_out _ _) bl (by omega) (by omega) hr ((Rd.of_blk (hkW.blk hb2 (fun h => h)) (by simp [vb, hr])).alloc _) (no_out _ _) br (by omega) (by omega)
    rw [World.size_alloc] at hp
    have hk3 := hk2.alloc (.cells #[.slice (some ⟨W.heap.size, 0, none⟩) 1 1, .slice (some ⟨w.heap.size, 0, none⟩) 32 32, .slice (some ⟨w.heap.size + 1, 0, none⟩) 32 32] 22)
    have hs := sums_any _ (hG.keep ((hk.trans hkW (fun _ _ h => h)).trans hk3 (fun _ _ h => h)) (fun _ h => h.elim)) _ 3 [[1], l, r] hp.plain (by simp) (by simp [hl, hr])
    simp only [List.flatten_cons, List.flatten_nil, List.append_nil, List.cons_append, List.nil_append, List.length_cons, List.length_nil] at hs
    exact hs.mono fun e w' ⟨he, hk'⟩ => ⟨he, hk3.trans hk' (fun _ _ h => h)⟩
  have HDL0 : (vb (pairF l r)).length = 32 := by simp [vb, pairF, sumF_length]
  obtain ⟨DV, hDV⟩ : ∃ DV, DV = vb (pairF l r) := ⟨_, rfl⟩
  have HD1 : Hid (∀ u ∈ DV, u.oneCell' = true) := Lib.hid (by rw [hDV]; exact vb_one _)
  have HDL : Hid (DV.length = 32) := Lib.hid (by rw [hDV]; exact HDL0)
  have HIN : Hid ((Tryd.prog.info? 24).map (·.size) = some DV.length) := Lib.hid (by rw [HDL.out]; kernel_rfl)
  rw [← hDV] at HS ⊢
  have HZ := Lib.hid hb3
  have HKW := Lib.hid hk
  rw [hW0] at HS HZ HKW
  clear hb1 hb2 hb3 hk hW0 hDV hlc hrc hl hr bl br hG HDL0
  go_enter Tryd.func13, Tryd.ntmps13
  go_wp2
  refine wp_region_last (S := Keeps (fun _ => False) (((w.alloc (.cells lc 24)).alloc (.cells rc 24)).alloc (.cells (List.replicate 32 (Value.int .u8 0)).toArray 24))) 5 (by kernel_rfl) ((Keeps.refl (fun _ => False) _).drew) (fun hHeld => ?_)
  refine wpAnyZ_take (i := 1) (oi := ⟨some 6, _, _, _, _, _⟩) (v := ?_) rfl (by kernel_rfl) (by kernel_rfl) (by kernel_rfl) (by kernel_rfl) (fun _ _ _ h => h) (Or.inl ⟨by rfl, ?_⟩) hHeld ?_
  rotate_left
  · intro w' hSw
    go_simp
    first | done | rfl
  try simp only [Act.put, List.setIfInBounds_toArray, List.set_cons_zero, List.set_cons_succ]
  refine wpAnyZ_take (i := 2) (oi := ⟨some 7, _, _, _, _, _⟩) (v := ?_) rfl (by kernel_rfl) (by kernel_rfl) (by kernel_rfl) (by kernel_rfl) (fun _ _ _ h => h) (Or.inl ⟨by rfl, ?_⟩) hHeld ?_
  rotate_left
  · intro w' hSw
    go_simp
    first | done | rfl
  try simp only [Act.put, List.setIfInBounds_toArray, List.set_cons_zero, List.set_cons_succ]
  refine wpAnyZ_step (i := 0) (o := ⟨some 5, _, _, _, _, _⟩) (by kernel_rfl) rfl (fun K hK => ?_)
  go_simp
  have hHeld0 := hHeld
  refine hK.out _ _ (hHeld.alloc _) (fun hHeld => ?_)
  clear hK K
  try simp only [Act.put, List.setIfInBounds_toArray, List.set_cons_zero, List.set_cons_succ]
  refine wpAnyZ_step (i := 3) (o := ⟨some 8, _, _, _, _, _⟩) (by kernel_rfl) rfl (fun K hK => ?_)
  go_simp
  have hHeld1 := hHeld
  refine hK.out _ _ (hHeld.alloc _) (fun hHeld => ?_)
  clear hK K
  try simp only [Act.put, List.setIfInBounds_toArray, List.set_cons_zero, List.set_cons_succ]
  refine wpAnyZ_step (i := 4) (o := ⟨some 9, _, _, _, _, _⟩) (by kernel_rfl) rfl (fun K hK => ?_)
  go_simp
  refine (HS.out _ (w.heap.size + 1 + 1 + 1) hHeld0 (by simp)).mono ?_
  rintro e w5 ⟨rfl, hk5⟩
  have hq5 := hHeld0.trans hk5 (fun _ _ h => h)
  show K _ w5
  refine hK.out _ _ hq5 (fun hHeld => ?_)
  clear hK K
  try simp only [Act.put, List.setIfInBounds_toArray, List.set_cons_zero, List.set_cons_succ]
  refine wpAnyZ_last (o := ⟨none, _, _, _, _, _⟩) (by kernel_rfl) (by kernel_rfl) rfl (fun K hK => ?_)
  refine stepH_store rfl 24 _ _ rfl DV rfl rfl (hHeld.blk HZ.out (fun h => h)) (by rw [HDL.out]; simp) HIN.out HD1.out ?_
  refine hK.out _ _ ?_
  clear hK K
  try simp only [Act.put, List.setIfInBounds_toArray, List.set_cons_zero, List.set_cons_succ]
  have HZ9 := Lib.hid (hHeld.blk HZ.out (fun h => h))
  have HK9 := Lib.hid (HKW.out.trans hHeld (fun _ _ h => h))
  go_wp2
  refine bodyPost_ret (results_blk rfl _ _ rfl (HZ9.out.setRow DV) Tryd.underlying24 rfl HIN.out) rfl ⟨rfl, HK9.out.setRow (.inr (by omega)) _⟩

set_option maxHeartbeats 2000000 in
set_option maxRecDepth 100000 in
theorem rpair_any (w : World) (l r : List Int) (hl : l.length = 32) (hr : r.length = 32) (bl : IsBytes l) (br : IsBytes r) :
    Calls Tryd.prog 14 #[.agg (vb l).toArray, .agg (vb r).toArray] w fun e w' => e = .returned (.agg (vb (pairF l r)).toArray) ∧ Keeps (fun _ => False) w w' := by
  have hb1 := ((Blk.new w 23 (vb l)).alloc (.cells (vb r).toArray 23)).alloc (.cells (List.replicate 32 (Value.int .u8 0)).toArray 23)
  have hb2 := (Blk.new (w.alloc (.cells (vb l).toArray 23)) 23 (vb r)).alloc (.cells (List.replicate 32 (Value.int .u8 0)).toArray 23)
  have hb3 := Blk.new ((w.alloc (.cells (vb l).toArray 23)).alloc (.cells (vb r).toArray 23)) 23 (List.replicate 32 (Value.int .u8 0))
  have hk : Keeps (fun _ => False) w (((w.alloc (.cells (vb l).toArray 23)).alloc (.cells (vb r).toArray 23)).alloc (.cells (List.replicate 32 (Value.int .u8 0)).toArray 23)) := (((Keeps.refl _ w).alloc _).alloc _).alloc _
  simp only [World.size_alloc] at hb2 hb3
  have HROW : Hid (∀ W, Calls Tryd.prog 45 #[.agg (vb l).toArray, .agg (vb r).toArray] W fun e w' => ∃ A' c', e = .returned (.slice A' 65 c') ∧ Mine W w' 5 A' 65 c' (vb (1 :: (l ++ r)))) := Lib.hid fun W => pairRow_any W l r hl hr
  have HO : Hid (∀ (w1 w2 : World) A' c', Mine w1 w2 5 A' 65 c' (vb (1 :: (l ++ r))) → Calls Tryd.prog 43 #[.slice A' 65 c'] w2 fun e w' => e = .returned (.agg (vb (pairF l r)).toArray) ∧ Keeps (fun _ => False) w1 w') := Lib.hid fun w1 w2 A' c' h =>
    (rof_any w2 A' 65 c' (1 :: (l ++ r)) (by simp [hl, hr]) (Rd.of_own h.1) (fun x hx => by
      rcases List.mem_cons.1 hx with rfl | hx
      · omega
      · rcases List.mem_append.1 hx with hx | hx
        · exact bl x hx
        · exact br x hx) (by omega)).mono fun e w' ⟨he, hk⟩ => ⟨he, h.2.1.trans hk (fun _ _ h => h)⟩
  have HLL : Hid ((vb l).length = 32) := Lib.hid (by simp [vb, hl])
  have HRL : Hid ((vb r).length = 32) := Lib.hid (by simp [vb, hr])
  obtain ⟨lv, hlv⟩ : ∃ lv, lv = vb l := ⟨_, rfl⟩
  obtain ⟨rv', hrv⟩ : ∃ rv', rv' = vb r := ⟨_, rfl⟩
  have HDL0 : (vb (pairF l r)).length = 32 := by simp [vb, pairF, sumF_length]
  obtain ⟨DV, hDV⟩ : ∃ DV, DV = vb (pairF l r) := ⟨_, rfl⟩
  have HD1 : Hid (∀ u ∈ DV, u.oneCell' = true) := Lib.hid (by rw [hDV]; exact vb_one _)
  have HDL : Hid (DV.length = 32) := Lib.hid (by rw [hDV]; exact HDL0)
  have HIN : Hid ((Tryd.prog.info? 23).map (·.size) = some DV.length) := Lib.hid (by rw [HDL.out]; kernel_rfl)
  rw [← hDV] at HO ⊢
  rw [← hlv] at HLL hb1 hb2 hb3 hk ⊢
  rw [← hrv] at HRL hb1 hb2 hb3 hk ⊢
  simp only [← hlv, ← hrv] at HROW
  have HI : Hid (∀ v : List Value, v.length = 32 → (Tryd.prog.info? 23).map (·.size) = some v.length) := Lib.hid fun v h => by rw [h]; kernel_rfl
  have HB1 := Lib.hid hb1
  have HB2 := Lib.hid hb2
  have HZ := Lib.hid hb3
  have HKW := Lib.hid hk
  have tok1 : True := trivial
  clear hb1 hb2 hb3 hk hDV hlv hrv hl hr bl br HDL0
  go_enter Tryd.func14, Tryd.ntmps14
  go_wp2_with (first
    | ((with_reducible show wpList _ _ _ (⟨some _, Op.load 23 (.tmp 2), _, _, _, _⟩ :: _) _ _); refine wpList_load_whole rfl 23 _ rfl _ rfl HB1.out Tryd.underlying23 rfl (HI.out _ HLL.out) ?_)
    | ((with_reducible show wpList _ _ _ (⟨some _, Op.load 23 (.tmp 3), _, _, _, _⟩ :: _) _ _); refine wpList_load_whole rfl 23 _ rfl _ rfl HB2.out Tryd.underlying23 rfl (HI.out _ HRL.out) ?_)
    | (go_at_call 45; refine (HROW.out _).mono ?_; rintro e w5 ⟨A5, c5, rfl, hm5⟩; have HM5 := Lib.hid hm5; clear hm5)
    | (go_at_call 43; refine (HO.out _ _ _ _ HM5.out).mono ?_; rintro e w6 ⟨rfl, hk6⟩; have HZ9 := Lib.hid (hk6.blk HZ.out (fun h => h)); have HK9 := Lib.hid (HKW.out.trans hk6 (fun _ _ h => h)); clear hk6)
    | ((with_reducible show wpList _ _ _ (⟨none, Op.store 23 _ _, _, _, _, _⟩ :: _) _ _); refine wpList_store_whole rfl 23 _ _ rfl DV rfl rfl HZ9.out (by rw [HDL.out]; simp) HIN.out HD1.out ?_))
  refine bodyPost_ret (results_blk rfl _ _ rfl (HZ9.out.setRow DV) Tryd.underlying23 rfl HIN.out) rfl ⟨rfl, HK9.out.setRow (.inr (by omega)) _⟩
end Go.Proofs.YtknecjjdegngfaaDoor
