/-
  WALK: the statement ShaKnown.
-/
import Derived.Test.YtgblndddcbfdiaaDoorNilHW
import Derived.Test.YtgblndddcbfdiaaDoorWorksW
import Derived.Lib.SmallJoins
import Derived.Deep.DeepCutAuto
set_option linter.unusedSimpArgs false
namespace Go.Proofs.YtgblndddcbfdiaaDoor
open Go Go.RowKit Go.Sha Go.Aff
theorem rd_marked (W : World) (T : TypeId) (bs : List Int) (fr : Nat × Nat) : Rd (W.alloc (.cells (vb bs).toArray T fr)) (some ⟨W.heap.size, 0, none⟩) bs.length (vb bs) := by
  have h1 : (W.alloc (.cells (vb bs).toArray T fr)).heap[W.heap.size]? = some (.cells (vb bs).toArray T fr) := heap_alloc_new W _
  refine ⟨by simp [vb], fun _ => ⟨W.heap.size, 0, rfl, fun j _ => ?_⟩⟩
  rw [Nat.zero_add, cell_of_row _ _ j _ _ _ h1]
  simp
/-- A constant's bytes are marked, another block lying behind them. -/
theorem run_convert_mid {P : Program} (w : World) (t e : TypeId) (C : Array Value) (o : Obj) (n c g : Nat) (hg : g = w.heap.size) (ht : P.underlying t = some (.slice e)) (he : P.underlying e = some (.int .u8)) :
    (convert t t (.slice (some ⟨g, 0, none⟩) n c)).run P ((w.alloc (.cells C e)).alloc o) = .ok (.slice (some ⟨g, 0, none⟩) n c) ((w.alloc (.cells C e (C.size, C.size + 1))).alloc o) := by
  subst hg
  have hb : ((w.alloc (.cells C e)).alloc o).heap[w.heap.size]? = some (.cells C e) := by
    show ((w.heap.push (.cells C e)).push o)[w.heap.size]? = _
    rw [Array.getElem?_push_lt (by simp)]
    simp
  have hsh : ((w.alloc (.cells C e)).alloc o).shape? w.heap.size = some (e, C.size) := by
    unfold World.shape?
    rw [hb]
  have hfr : ∀ (k : Nat), ((w.alloc (.cells C e)).alloc o).freeze ⟨w.heap.size, k, none⟩ 1 = (w.alloc (.cells C e (k, k + 1))).alloc o := fun k => by
    have hm : ∀ (a : Array Obj) (x y : Obj) (f : Obj → Obj), ((a.push x).push y).modify a.size f = (a.push (f x)).push y := by
      intro a x y f
      apply Array.ext
      · simp
      · intro i h1 h2
        simp only [Array.getElem_modify, Array.getElem_push]
        by_cases h : a.size = i
        · subst h
          simp
        · by_cases h3 : i < a.size
          · simp [h, h3, show i < a.size + 1 by omega]
          · have : ¬ i < a.size + 1 := by omega
            simp [h, h3, this]
    unfold World.freeze
    rw [if_neg (by decide)]
    show ({ (w.alloc (.cells C e)).alloc o with heap := ((w.heap.push (.cells C e)).push o).modify w.heap.size _ } : World) = _
    rw [hm]
    rfl
  simp [convert, run_underlying ht, run_underlying he, markStringish, hsh]
  exact hfr _
theorem eql_inH {P : Program} {w : World} {t : TypeId} {xs ys : Array Value} {b : Bool} (h : (binOp .eql t (.agg xs) (.agg ys)).run P w = .ok (.bool b) w) : (Op.equalIn 10000 t (.agg xs) (.agg ys)).run P w = .ok b w := by
  rw [run_eql_struct] at h
  cases hr : (Op.equalIn 10000 t (.agg xs) (.agg ys)).run P w with
  | halt a b' => rw [hr] at h; cases h
  | ok b' w' =>
    rw [hr] at h
    simp only [Result.andThen_ok] at h
    injection h with h1 h2
    injection h1 with h1
    rw [h1, h2]
theorem neq_eqlH {P : Program} {w : World} {t : TypeId} {xs ys : Array Value} {b : Bool} (h : (binOp .eql t (.agg xs) (.agg ys)).run P w = .ok (.bool b) w) : (binOp .neq t (.agg xs) (.agg ys)).run P w = .ok (.bool (!b)) w := by
  have h1 := eql_inH h
  rw [run_neq_struct, h1]
  rfl
theorem dig_selfH (D : List Int) (hD : D.length = 32) (W : World) : (binOp .eql 23 (.agg (vb D).toArray) (.agg (vb D).toArray)).run Tryd.prog W = .ok (.bool true) W := by
  have := digest_eql W D D hD hD
  simpa using this
def noneB : List Int := [227, 176, 196, 66, 152, 252, 28, 20, 154, 251, 244, 200, 153, 111, 185, 36, 39, 174, 65, 228, 100, 155, 147, 76, 164, 149, 153, 27, 120, 82, 184, 85]
theorem sum_none : sumF first 0 [] = noneB := by decide +kernel
theorem vbl (D : List Int) : (vb D).length = D.length := by simp [vb]
/-- The last byte of all does not fit any more. -/
theorem write_last (w wM : World) (q : Nat) (u2 : Value) (h : Own w wM q u2 zeroS 36028797018963967 ([] ++ List.replicate 63 0)) :
    Calls Tryd.prog 22 #[.pointer (some ⟨q, 0, none⟩), .slice (some ⟨wM.heap.size + 1, 0, none⟩) 1 1] ((wM.alloc (.cells #[.int .u8 0] 5)).alloc (.cells #[.slice (some ⟨wM.heap.size, 0, none⟩) 1 1] 26)) fun e w' => e = .returned (errno 3) ∧ Keeps (fun _ => False) w w' ∧
      Calls Tryd.prog 26 #[.pointer (some ⟨q, 0, none⟩)] w' fun e w2 => e = .returned (.int .u64 2305843009213693951) ∧ ∃ k, w2 = w'.drewN k := by
  have hp := parts_one (fun _ => False) (wM.alloc (.cells #[.int .u8 0] 5)) 26 (some ⟨wM.heap.size, 0, none⟩) 1 1 [0] (fun _ h => h.elim) rfl (Rd.of_blk (Blk.new wM 5 [.int .u8 0]) rfl) (no_out _ _) (by intro x hx; simp at hx; omega) (by omega) (by omega)
  rw [World.size_alloc] at hp
  have hk2 : Keeps (fun _ => False) wM ((wM.alloc (.cells #[.int .u8 0] 5)).alloc (.cells #[.slice (some ⟨wM.heap.size, 0, none⟩) 1 1] 26)) := ((Keeps.refl _ _).alloc _).alloc _
  have h2 := h.keep hk2
  refine (Write_long _ q u2 zeroS 36028797018963967 ([] ++ List.replicate 63 0) h2.1 _ 1 [[0]] hp (by simp) (by simp) (by simp)).mono fun e w' ⟨he, hk⟩ => ⟨he, h2.2.1.trans hk (fun _ _ h => h), ?_⟩
  have hl := len_at w' q u2 zeroS 36028797018963967 ([] ++ List.replicate 63 0) (h2.keep hk).1 (by simp)
  exact hl
set_option maxHeartbeats 16000000 in
set_option maxRecDepth 100000 in
/-- THE LAW: what the document's examples name. -/
theorem known_any (w : World) (hG : Glob w) : Calls Tryd.prog 11 #[] w fun e w' => e = .returned (.bool true) ∧ Keeps (fun _ => False) w w' := by
  obtain ⟨NV, hNV⟩ : ∃ NV, NV = vb noneB := ⟨_, rfl⟩
  obtain ⟨AV, hAV⟩ : ∃ AV, AV = vb abcB := ⟨_, rfl⟩
  have HN1 : Hid (∀ u ∈ NV, u.oneCell' = true) := Lib.hid (by rw [hNV]; exact vb_one _)
  have HNL : Hid (NV.length = 32) := Lib.hid (by rw [hNV]; rfl)
  have HNI : Hid ((Tryd.prog.info? 23).map (·.size) = some NV.length) := Lib.hid (by rw [HNL.out]; kernel_rfl)
  have HEN : Hid (∀ W, (Op.equalIn 10000 23 (.agg NV.toArray) (.agg NV.toArray)).run Tryd.prog W = .ok true W) := Lib.hid fun W => by rw [hNV]; exact eql_inH (dig_selfH noneB rfl W)
  have HEA : Hid (∀ W, (Op.equalIn 10000 23 (.agg AV.toArray) (.agg AV.toArray)).run Tryd.prog W = .ok true W) := Lib.hid fun W => by rw [hAV]; exact eql_inH (dig_selfH abcB rfl W)
  have hneZ : ∀ W, (binOp .neq 23 (.agg (vb zeroH).toArray) (.agg #[.int .u8 0, .int .u8 0, .int .u8 0, .int .u8 0, .int .u8 0, .int .u8 0, .int .u8 0, .int .u8 0, .int .u8 0, .int .u8 0, .int .u8 0, .int .u8 0, .int .u8 0, .int .u8 0, .int .u8 0, .int .u8 0, .int .u8 0, .int .u8 0, .int .u8 0, .int .u8 0, .int .u8 0, .int .u8 0, .int .u8 0, .int .u8 0, .int .u8 0, .int .u8 0, .int .u8 0, .int .u8 0, .int .u8 0, .int .u8 0, .int .u8 0, .int .u8 0])).run Tryd.prog W = .ok (.bool false) W := fun W => neq_eqlH (dig_selfH zeroH rfl W)
  have HN0 : Hid (∀ V, Keeps (fun _ => False) w V → Calls Tryd.prog 20 #[.slice none 0 0] V fun e w' => e = .returned (.agg NV.toArray) ∧ Keeps (fun _ => False) V w') := Lib.hid fun V hkV => by
    have hs := sums_any V (hG.keep hkV (fun _ h => h.elim)) none 0 [] ⟨[], Rd.nil _ _, fun i bs h => by simp at h⟩ (by simp) (by simp)
    rw [show sumF first 0 ([] : List (List Int)).flatten = noneB from sum_none, ← hNV] at hs
    exact hs
  have HS1 : Hid (∀ V, Keeps (fun _ => False) w V → Calls Tryd.prog 20 #[.slice (some ⟨V.heap.size + 1 + 1, 0, none⟩) 3 3] (((V.alloc (.cells #[.int .u8 97] 5 (1, 2))).alloc (.cells #[.int .u8 98, .int .u8 99] 5 (2, 3))).alloc (.cells #[.slice (some ⟨V.heap.size, 0, none⟩) 1 1, .slice none 0 0, .slice (some ⟨V.heap.size + 1, 0, none⟩) 2 2] 26)) fun e w' => e = .returned (.agg AV.toArray) ∧ Keeps (fun _ => False) (((V.alloc (.cells #[.int .u8 97] 5 (1, 2))).alloc (.cells #[.int .u8 98, .int .u8 99] 5 (2, 3))).alloc (.cells #[.slice (some ⟨V.heap.size, 0, none⟩) 1 1, .slice none 0 0, .slice (some ⟨V.heap.size + 1, 0, none⟩) 2 2] 26)) w') := Lib.hid fun V hkV => by
    have hp := parts_three (fun _ => False) ((V.alloc (.cells #[.int .u8 97] 5 (1, 2))).alloc (.cells #[.int .u8 98, .int .u8 99] 5 (2, 3))) 26 (some ⟨V.heap.size, 0, none⟩) none (some ⟨V.heap.size + 1, 0, none⟩) 1 1 0 0 2 2 [97] [] [98, 99] (fun _ h => h.elim) rfl ((rd_marked V 5 [97] (1, 2)).alloc _) (no_out _ _) (by intro x hx; simp at hx; omega) (by omega) (by omega)
      rfl (Rd.nil _ _) (no_out _ _) (by intro x hx; simp at hx) (by omega) (by omega) rfl (by have h5 := rd_marked (V.alloc (.cells #[.int .u8 97] 5 (1, 2))) 5 [98, 99] (2, 3); rwa [World.size_alloc] at h5) (no_out _ _) (by intro x hx; simp at hx; omega) (by omega) (by omega)
    rw [World.size_alloc, World.size_alloc] at hp
    have hs := sums_any _ (hG.keep ((((hkV.alloc _).alloc _).alloc _)) (fun _ h => h.elim)) _ 3 [[97], [], [98, 99]] hp.plain (by simp) (by simp)
    rw [show sumF first 0 ([[97], [], [98, 99]] : List (List Int)).flatten = abcB from sum_abc, ← hAV] at hs
    exact hs
  have HS2 : Hid (∀ V, Keeps (fun _ => False) w V → Calls Tryd.prog 20 #[.slice (some ⟨V.heap.size + 1 + 1, 0, none⟩) 3 3] (((V.alloc (.cells #[.int .u8 98, .int .u8 99] 5 (2, 3))).alloc (.cells #[.int .u8 97] 5 (1, 2))).alloc (.cells #[.slice (some ⟨V.heap.size + 1, 0, none⟩) 1 1, .slice none 0 0, .slice (some ⟨V.heap.size, 0, none⟩) 2 2] 26)) fun e w' => e = .returned (.agg AV.toArray) ∧ Keeps (fun _ => False) (((V.alloc (.cells #[.int .u8 98, .int .u8 99] 5 (2, 3))).alloc (.cells #[.int .u8 97] 5 (1, 2))).alloc (.cells #[.slice (some ⟨V.heap.size + 1, 0, none⟩) 1 1, .slice none 0 0, .slice (some ⟨V.heap.size, 0, none⟩) 2 2] 26)) w') := Lib.hid fun V hkV => by
    have hp := parts_three (fun _ => False) ((V.alloc (.cells #[.int .u8 98, .int .u8 99] 5 (2, 3))).alloc (.cells #[.int .u8 97] 5 (1, 2))) 26 (some ⟨V.heap.size + 1, 0, none⟩) none (some ⟨V.heap.size, 0, none⟩) 1 1 0 0 2 2 [97] [] [98, 99] (fun _ h => h.elim) rfl (by have h5 := rd_marked (V.alloc (.cells #[.int .u8 98, .int .u8 99] 5 (2, 3))) 5 [97] (1, 2); rwa [World.size_alloc] at h5) (no_out _ _) (by intro x hx; simp at hx; omega) (by omega) (by omega)
      rfl (Rd.nil _ _) (no_out _ _) (by intro x hx; simp at hx) (by omega) (by omega) rfl ((rd_marked V 5 [98, 99] (2, 3)).alloc _) (no_out _ _) (by intro x hx; simp at hx; omega) (by omega) (by omega)
    rw [World.size_alloc, World.size_alloc] at hp
    have hs := sums_any _ (hG.keep ((((hkV.alloc _).alloc _).alloc _)) (fun _ h => h.elim)) _ 3 [[97], [], [98, 99]] hp.plain (by simp) (by simp)
    rw [show sumF first 0 ([[97], [], [98, 99]] : List (List Int)).flatten = abcB from sum_abc, ← hAV] at hs
    exact hs
  have HABC : Hid (∀ V, Calls Tryd.prog 36 #[] V fun e w' => e = .returned (.agg AV.toArray) ∧ Keeps (fun _ => False) V w') := Lib.hid fun V => by rw [hAV]; exact abc_any V
  have HP0 : Hid (∀ V, Calls Tryd.prog 16 #[.int .u64 0] V fun e w' => e = .returned (.tuple #[.slice (some ⟨V.heap.size, 0, none⟩) 64 64, .nilIface]) ∧ Blk w' V.heap.size 5 (vb (padF 0)) ∧ Keeps (fun _ => False) V w') := Lib.hid fun V => Pad_any V 0 (by omega)
  have HP55 : Hid (∀ V, Calls Tryd.prog 16 #[.int .u64 55] V fun e w' => e = .returned (.tuple #[.slice (some ⟨V.heap.size, 0, none⟩) 9 9, .nilIface]) ∧ Blk w' V.heap.size 5 (vb (padF 55)) ∧ Keeps (fun _ => False) V w') := Lib.hid fun V => Pad_any V 55 (by omega)
  have HP56 : Hid (∀ V, Calls Tryd.prog 16 #[.int .u64 56] V fun e w' => e = .returned (.tuple #[.slice (some ⟨V.heap.size, 0, none⟩) 72 72, .nilIface]) ∧ Blk w' V.heap.size 5 (vb (padF 56)) ∧ Keeps (fun _ => False) V w') := Lib.hid fun V => Pad_any V 56 (by omega)
  have HPL : Hid (∀ V, Calls Tryd.prog 16 #[.int .u64 2305843009213693952] V fun e w' => e = .returned (.tuple #[.slice none 0 0, errno 3]) ∧ V = w') := Lib.hid fun V => Pad_long V 2305843009213693952 (by omega)
  have HMN : Hid (∀ V, Calls Tryd.prog 24 #[.pointer none] V fun e w' => e = .returned (.agg #[.int .u32 0, .int .u32 0, .int .u32 0, .int .u32 0, .int .u32 0, .int .u32 0, .int .u32 0, .int .u32 0, .int .u64 0, .slice none 0 0]) ∧ Keeps (fun _ => False) V w') := Lib.hid fun V => Mid_nil V
  have HRA : Hid (∀ V A, Calls Tryd.prog 30 #[.agg #[.int .u32 0, .int .u32 0, .int .u32 0, .int .u32 0, .int .u32 0, .int .u32 0, .int .u32 0, .int .u32 0, .int .u64 0, .slice A 64 64]] V fun e w' => e = .returned (.tuple #[.pointer none, errno 2]) ∧ Keeps (fun _ => False) V w') := Lib.hid fun V A => Resume_arg V zeroS 0 64 64 A (by omega)
  have HRL : Hid (∀ V, Calls Tryd.prog 30 #[.agg #[.int .u32 0, .int .u32 0, .int .u32 0, .int .u32 0, .int .u32 0, .int .u32 0, .int .u32 0, .int .u32 0, .int .u64 36028797018963968, .slice none 0 0]] V fun e w' => e = .returned (.tuple #[.pointer none, errno 3]) ∧ Keeps (fun _ => False) V w') := Lib.hid fun V => Resume_long V zeroS 36028797018963968 0 0 none (by omega) (by omega)
  have HRO : Hid (∀ V, Calls Tryd.prog 30 #[.agg #[.int .u32 0, .int .u32 0, .int .u32 0, .int .u32 0, .int .u32 0, .int .u32 0, .int .u32 0, .int .u32 0, .int .u64 36028797018963967, .slice none 0 0]] V fun e w' => ∃ q u, e = .returned (.tuple #[.pointer (some ⟨q, 0, none⟩), .nilIface]) ∧ HashAt w' q u zeroS 36028797018963967 [] ∧ Keeps (fun _ => False) V w' ∧ ∀ i, Foot q u i → V.heap.size ≤ i) := Lib.hid fun V => Resume_ok V zeroS 36028797018963967 0 0 none [] rfl (by omega) (by omega) (Rd.nil _ _) (fun x hx => by cases hx)
  have HC1 : Hid (∀ V, Calls Tryd.prog 13 #[.agg #[.int .u8 0, .int .u8 0, .int .u8 0, .int .u8 0, .int .u8 0, .int .u8 0, .int .u8 0, .int .u8 0, .int .u8 0, .int .u8 0, .int .u8 0, .int .u8 0, .int .u8 0, .int .u8 0, .int .u8 0, .int .u8 0, .int .u8 0, .int .u8 0, .int .u8 0, .int .u8 0, .int .u8 0, .int .u8 0, .int .u8 0, .int .u8 0, .int .u8 0, .int .u8 0, .int .u8 0, .int .u8 0, .int .u8 0, .int .u8 0, .int .u8 0, .int .u8 0], .agg #[.int .u8 1, .int .u8 0, .int .u8 0, .int .u8 0, .int .u8 0, .int .u8 0, .int .u8 0, .int .u8 0, .int .u8 0, .int .u8 0, .int .u8 0, .int .u8 0, .int .u8 0, .int .u8 0, .int .u8 0, .int .u8 0, .int .u8 0, .int .u8 0, .int .u8 0, .int .u8 0, .int .u8 0, .int .u8 0, .int .u8 0, .int .u8 0, .int .u8 0, .int .u8 0, .int .u8 0, .int .u8 0, .int .u8 0, .int .u8 0, .int .u8 0, .int .u8 0]] V fun e w' => e = .returned (.int .i64 (-1)) ∧ Keeps (fun _ => False) V w') := Lib.hid fun V => by
    have h5 := compare_any V zeroH (1 :: List.replicate 31 0) rfl rfl
    rw [show cmpI zeroH (1 :: List.replicate 31 0) = -1 by decide +kernel] at h5
    exact h5
  have HC2 : Hid (∀ V, Calls Tryd.prog 13 #[.agg #[.int .u8 1, .int .u8 0, .int .u8 0, .int .u8 0, .int .u8 0, .int .u8 0, .int .u8 0, .int .u8 0, .int .u8 0, .int .u8 0, .int .u8 0, .int .u8 0, .int .u8 0, .int .u8 0, .int .u8 0, .int .u8 0, .int .u8 0, .int .u8 0, .int .u8 0, .int .u8 0, .int .u8 0, .int .u8 0, .int .u8 0, .int .u8 0, .int .u8 0, .int .u8 0, .int .u8 0, .int .u8 0, .int .u8 0, .int .u8 0, .int .u8 0, .int .u8 0], .agg #[.int .u8 1, .int .u8 0, .int .u8 0, .int .u8 0, .int .u8 0, .int .u8 0, .int .u8 0, .int .u8 0, .int .u8 0, .int .u8 0, .int .u8 0, .int .u8 0, .int .u8 0, .int .u8 0, .int .u8 0, .int .u8 0, .int .u8 0, .int .u8 0, .int .u8 0, .int .u8 0, .int .u8 0, .int .u8 0, .int .u8 0, .int .u8 0, .int .u8 0, .int .u8 0, .int .u8 0, .int .u8 0, .int .u8 0, .int .u8 0, .int .u8 0, .int .u8 0]] V fun e w' => e = .returned (.int .i64 0) ∧ Keeps (fun _ => False) V w') := Lib.hid fun V => by
    have h5 := compare_any V (1 :: List.replicate 31 0) (1 :: List.replicate 31 0) rfl rfl
    rw [show cmpI (1 :: List.replicate 31 0) (1 :: List.replicate 31 0) = 0 by decide +kernel] at h5
    exact h5
  have HGG := Lib.hid hG
  have HWo := Lib.hid (works_any w hG)
  have HF8 : Hid (∀ u ∈ wl first, u.oneCell' = true) := Lib.hid (wl_one first)
  obtain ⟨FV, hFV⟩ : ∃ FV, FV = wl first := ⟨_, rfl⟩
  have HFL : Hid (FV.length = 8) := Lib.hid (by rw [hFV]; rfl)
  have HFI : Hid ((Tryd.prog.info? 38).map (·.size) = some FV.length) := Lib.hid (by rw [HFL.out]; exact info8)
  have HF0c : Hid (FV[0]? = some (.int .u32 1779033703) ∧ FV[7]? = some (.int .u32 1541459225)) := Lib.hid (by rw [hFV]; exact ⟨rfl, rfl⟩)
  have HFst : Hid (∀ V, Keeps (fun _ => False) w V → Calls Tryd.prog 29 #[] V fun e w' => e = .returned (.agg FV.toArray) ∧ Keeps (fun _ => False) V w') := Lib.hid fun V hkV => by rw [hFV]; exact first_any V (hG.keep hkV (fun _ h => h.elim))
  rw [← hFV] at HF8
  have hNVe : Hid ((vb noneB) = NV) := Lib.hid hNV.symm
  clear hG hFV hNV hAV
  go_enter Tryd.func11, Tryd.ntmps11
  go_upto_region 5 with (first
    | (go_at_call 15; refine HWo.out.mono ?_; rintro e w1 ⟨rfl, hk1⟩; have HK1 := Lib.hid hk1; have HZ1 := Lib.hid (Blk.new w1 23 (List.replicate 32 (Value.int .u8 0))); clear hk1)
    | ((with_reducible show wpList _ _ _ (⟨none, Op.store 23 _ _, _, _, _, _⟩ :: _) _ _); refine wpList_store_whole rfl 23 _ _ rfl (vb noneB) rfl rfl HZ1.out rfl (by kernel_rfl) (vb_one _) ?_; refine gen_world (fun W => Blk W w1.heap.size 23 NV ∧ Keeps (fun _ => False) w W) ⟨by rw [← hNVe.out]; exact HZ1.out.setRow _, (HK1.out.alloc _).setRow (.inr HK1.out.size) _⟩ ?_; rintro w2 ⟨hb2, hk2⟩; have HB2 := Lib.hid hb2; have HK2 := Lib.hid hk2; clear hb2 hk2)
    | (go_at_call 29; refine (HFst.out _ HK2.out).mono ?_; rintro e w3 ⟨rfl, hk3⟩; have HK3 := Lib.hid (HK2.out.trans hk3 (fun _ _ h => h)); have HB3 := Lib.hid (hk3.blk HB2.out (fun h => h)); have HZ3 := Lib.hid (Blk.new w3 38 (List.replicate 8 (Value.int .u32 0))); clear hk3)
    | ((with_reducible show wpList _ _ _ (⟨none, Op.store 38 _ _, _, _, _, _⟩ :: _) _ _); refine wpList_store_whole rfl 38 _ _ rfl FV rfl rfl HZ3.out (by rw [HFL.out]; simp) HFI.out HF8.out ?_; refine gen_world (fun W => Blk W w1.heap.size 23 NV ∧ Blk W w3.heap.size 38 FV ∧ Keeps (fun _ => False) w W) ⟨(HB3.out.alloc _).setRow_far (by have := HB3.out.lt; omega) _, HZ3.out.setRow _, (HK3.out.alloc _).setRow (.inr HK3.out.size) _⟩ ?_; rintro w4 ⟨hb4, hf4, hk4⟩; have HB4 := Lib.hid hb4; have HF4 := Lib.hid hf4; have HK4 := Lib.hid hk4; clear hb4 hf4 hk4))
  have HRN : Hid (∀ W, Keeps (fun _ => False) w4 W → W.rangeAt w1.heap.size 0 NV) := Lib.hid fun W hk' j v hv => by rw [Nat.zero_add, (hk'.blk HB4.out (fun h => h)).cell, hv]
  have HF0 : Hid (∀ W, Keeps (fun _ => False) w4 W → W.cell? ⟨w3.heap.size, 0, none⟩ = some (.int .u32 1779033703)) := Lib.hid fun W hk' => by rw [(hk'.blk HF4.out (fun h => h)).cell]; exact HF0c.out.1
  have HF7 : Hid (∀ W, Keeps (fun _ => False) w4 W → W.cell? ⟨w3.heap.size, 7, none⟩ = some (.int .u32 1541459225)) := Lib.hid fun W hk' => by rw [(hk'.blk HF4.out (fun h => h)).cell]; exact HF0c.out.2
  replace HN0 : Hid (∀ V, Keeps (fun _ => False) w4 V → Calls Tryd.prog 20 #[.slice none 0 0] V fun e w' => e = .returned (.agg NV.toArray) ∧ Keeps (fun _ => False) V w') := Lib.hid fun V hkV => HN0.out V (HK4.out.trans hkV (fun _ _ h => h))
  have HS1' := Lib.hid fun V hkV => HS1.out V (HK4.out.trans hkV (fun _ _ h => h))
  have HS2' := Lib.hid fun V hkV => HS2.out V (HK4.out.trans hkV (fun _ _ h => h))
  clear HS1 HS2
  simp only [Act.put]
  go_cut [40] (fun t wx => t = .bool false ∧ Hid (Keeps (fun _ => False) w4 wx))
  case first =>
    have HS1 := HS1'
    have HS2 := HS2'
    clear HS1' HS2'
    refine wp_region_held_drew (S := Keeps (fun _ => False) w4) (by kernel_rfl) (Keeps.refl _ _).drew (fun hHeld => ?_)
    refine wpAnyH_take (i := 1) (oi := ⟨some 19, _, _, _, _, _⟩) (v := _) rfl (by kernel_rfl) (by kernel_rfl) (by kernel_rfl) (fun _ _ _ h => h) (yieldsIf_load_mid (by rfl) _ _ rfl _ _ rfl NV _ (fun w' h => HRN.out _ h) Tryd.underlying23 rfl HNI.out) hHeld ?_
    try simp only [Act.put, List.setIfInBounds_toArray, List.set_cons_zero, List.set_cons_succ]
    refine wpAnyH_ready (rs := [0]) (by kernel_rfl) (by simp) ?_
    refine (AllReadyH.cons (o := ⟨some 18, _, _, _, _, _⟩) rfl (fun K hK => ?_) AllReadyH.nil)
    go_simp
    refine (HN0.out _ hHeld).mono ?_
    rintro e v0 ⟨rfl, hk0⟩
    have hq0 := hHeld.trans hk0 (fun _ _ h => h)
    refine hK.out _ _ hq0 (fun hHeld => ?_)
    clear hK K
    try simp only [Act.put, List.setIfInBounds_toArray, List.set_cons_zero, List.set_cons_succ]
    refine wpAnyH_take (i := 2) (oi := ⟨some 20, _, _, _, _, _⟩) (v := ?_) rfl (by kernel_rfl) (by kernel_rfl) (by kernel_rfl) (fun _ _ _ h => h) (Or.inl ⟨by rfl, ?_⟩) hHeld ?_
    rotate_left
    · intro w' hSw
      have cv := HEN.out w'
      go_simp
      first | done | rfl
    try simp only [Act.put, List.setIfInBounds_toArray, List.set_cons_zero, List.set_cons_succ]
    refine wpAnyH_take (i := 3) (oi := ⟨some 21, _, _, _, _, _⟩) (v := ?_) rfl (by kernel_rfl) (by kernel_rfl) (by kernel_rfl) (fun _ _ _ h => h) (Or.inl ⟨by rfl, ?_⟩) hHeld ?_
    rotate_left
    · intro w' hSw
      go_simp
      first | done | rfl
    try simp only [Act.put, List.setIfInBounds_toArray, List.set_cons_zero, List.set_cons_succ]
    refine wpAnyH_ready (rs := [4, 6]) (by kernel_rfl) (by simp) ?_
    refine (AllReadyH.cons (o := ⟨some 22, _, _, _, _, _⟩) rfl (fun K hK => ?_) (AllReadyH.cons (o := ⟨some 24, _, _, _, _, _⟩) rfl (fun K hK => ?_) AllReadyH.nil))
    · go_simp
      refine hK.out _ _ (hHeld.alloc _) (fun hHeld => ?_)
      clear hK K
      try simp only [Act.put, List.setIfInBounds_toArray, List.set_cons_zero, List.set_cons_succ]
      refine wpAnyH_ready (rs := [5, 6]) (by kernel_rfl) (by simp) ?_
      refine (AllReadyH.cons (o := ⟨some 23, _, _, _, _, _⟩) rfl (fun K hK => ?_) (AllReadyH.cons (o := ⟨some 24, _, _, _, _, _⟩) rfl (fun K hK => ?_) AllReadyH.nil))
      · have cv := Go.Joins.run_convert_bytes_const_at (P := Tryd.prog) v0 26 5 #[.int .u8 97] 1 1 (v0.heap.size) (by simp) Tryd.underlying26 Tryd.underlying5
        simp only [List.size_toArray, List.length_cons, List.length_nil] at cv
        go_simp
        refine hK.out _ _ (hq0.alloc _) (fun hHeld => ?_)
        clear hK K
        try simp only [Act.put, List.setIfInBounds_toArray, List.set_cons_zero, List.set_cons_succ]
        refine wpAnyH_ready (rs := [6]) (by kernel_rfl) (by simp) ?_
        refine (AllReadyH.cons (o := ⟨some 24, _, _, _, _, _⟩) rfl (fun K hK => ?_) AllReadyH.nil)
        go_simp
        refine hK.out _ _ (hHeld.alloc _) (fun hHeld => ?_)
        clear hK K
        try simp only [Act.put, List.setIfInBounds_toArray, List.set_cons_zero, List.set_cons_succ]
        refine wpAnyH_ready (rs := [7]) (by kernel_rfl) (by simp) ?_
        refine (AllReadyH.cons (o := ⟨some 25, _, _, _, _, _⟩) rfl (fun K hK => ?_) AllReadyH.nil)
        have cv := Go.Joins.run_convert_bytes_const_at (P := Tryd.prog) (v0.alloc (.cells #[.int .u8 97] 5 (1, 2))) 26 5 #[.int .u8 98, .int .u8 99] 2 2 (v0.heap.size + 1) (by simp) Tryd.underlying26 Tryd.underlying5
        simp only [List.size_toArray, List.length_cons, List.length_nil] at cv
        go_simp
        refine hK.out _ _ ((hq0.alloc _).alloc _) (fun hHeld => ?_)
        clear hK K
        try simp only [Act.put, List.setIfInBounds_toArray, List.set_cons_zero, List.set_cons_succ]
        refine wpAnyH_ready (rs := [8]) (by kernel_rfl) (by simp) ?_
        refine (AllReadyH.cons (o := ⟨some 26, _, _, _, _, _⟩) rfl (fun K hK => ?_) AllReadyH.nil)
        go_simp
        refine hK.out _ _ (hHeld.alloc _) (fun hHeld => ?_)
        clear hK K
        try simp only [Act.put, List.setIfInBounds_toArray, List.set_cons_zero, List.set_cons_succ]
        refine wpAnyH_ready (rs := [9]) (by kernel_rfl) (by simp) ?_
        refine (AllReadyH.cons (o := ⟨some 27, _, _, _, _, _⟩) rfl (fun K hK => ?_) AllReadyH.nil)
        go_simp
        refine (HS1.out v0 hq0).mono ?_
        rintro e v9 ⟨rfl, hk9⟩
        have hq9 := hHeld.trans hk9 (fun _ _ h => h)
        refine hK.out _ _ hq9 (fun hHeld => ?_)
        clear hK K
        try simp only [Act.put, List.setIfInBounds_toArray, List.set_cons_zero, List.set_cons_succ]
        refine wpAnyH_ready (rs := [10]) (by kernel_rfl) (by simp) ?_
        refine (AllReadyH.cons (o := ⟨some 28, _, _, _, _, _⟩) rfl (fun K hK => ?_) AllReadyH.nil)
        go_simp
        refine (HABC.out v9).mono ?_
        rintro e v10 ⟨rfl, hk10⟩
        have hq10 := hHeld.trans hk10 (fun _ _ h => h)
        refine hK.out _ _ hq10 (fun hHeld => ?_)
        clear hK K
        try simp only [Act.put, List.setIfInBounds_toArray, List.set_cons_zero, List.set_cons_succ]
        refine wpAnyH_take (i := 11) (oi := ⟨some 29, _, _, _, _, _⟩) (v := ?_) rfl (by kernel_rfl) (by kernel_rfl) (by kernel_rfl) (fun _ _ _ h => h) (Or.inl ⟨by rfl, ?_⟩) hHeld ?_
        rotate_left
        · intro w' hSw
          have cv := HEA.out w'
          go_simp
          first | done | rfl
        try simp only [Act.put, List.setIfInBounds_toArray, List.set_cons_zero, List.set_cons_succ]
        refine wpAnyH_take (i := 12) (oi := ⟨some 30, _, _, _, _, _⟩) (v := ?_) rfl (by kernel_rfl) (by kernel_rfl) (by kernel_rfl) (fun _ _ _ h => h) (Or.inl ⟨by rfl, ?_⟩) hHeld ?_
        rotate_left
        · intro w' hSw
          go_simp
          first | done | rfl
        try simp only [Act.put, List.setIfInBounds_toArray, List.set_cons_zero, List.set_cons_succ]
        refine wpAnyH_take (i := 13) (oi := ⟨some 31, _, _, _, _, _⟩) (v := ?_) rfl (by kernel_rfl) (by kernel_rfl) (by kernel_rfl) (fun _ _ _ h => h) (Or.inl ⟨by rfl, ?_⟩) hHeld ?_
        rotate_left
        · intro w' hSw
          go_simp
          first | done | rfl
        try simp only [Act.put, List.setIfInBounds_toArray, List.set_cons_zero, List.set_cons_succ]
        refine wpAnyH_take (i := 14) (oi := ⟨some 32, _, _, _, _, _⟩) (v := ?_) rfl (by kernel_rfl) (by kernel_rfl) (by kernel_rfl) (fun _ _ _ h => h) (Or.inl ⟨by rfl, ?_⟩) hHeld ?_
        rotate_left
        · intro w' hSw
          go_simp
          first | done | rfl
        try simp only [Act.put, List.setIfInBounds_toArray, List.set_cons_zero, List.set_cons_succ]
        refine wpAnyH_take (i := 15) (oi := ⟨some 33, _, _, _, _, _⟩) (v := ?_) rfl (by kernel_rfl) (by kernel_rfl) (by kernel_rfl) (fun _ _ _ h => h) (Or.inl ⟨by rfl, ?_⟩) hHeld ?_
        rotate_left
        · intro w' hSw
          have q0 := HF0.out w' hSw
          go_simp
          first | done | rfl
        try simp only [Act.put, List.setIfInBounds_toArray, List.set_cons_zero, List.set_cons_succ]
        refine wpAnyH_take (i := 16) (oi := ⟨some 34, _, _, _, _, _⟩) (v := ?_) rfl (by kernel_rfl) (by kernel_rfl) (by kernel_rfl) (fun _ _ _ h => h) (Or.inl ⟨by rfl, ?_⟩) hHeld ?_
        rotate_left
        · intro w' hSw
          go_simp
          first | done | rfl
        try simp only [Act.put, List.setIfInBounds_toArray, List.set_cons_zero, List.set_cons_succ]
        refine wpAnyH_take (i := 17) (oi := ⟨some 35, _, _, _, _, _⟩) (v := ?_) rfl (by kernel_rfl) (by kernel_rfl) (by kernel_rfl) (fun _ _ _ h => h) (Or.inl ⟨by rfl, ?_⟩) hHeld ?_
        rotate_left
        · intro w' hSw
          go_simp
          first | done | rfl
        try simp only [Act.put, List.setIfInBounds_toArray, List.set_cons_zero, List.set_cons_succ]
        refine wpAnyH_take (i := 18) (oi := ⟨some 36, _, _, _, _, _⟩) (v := ?_) rfl (by kernel_rfl) (by kernel_rfl) (by kernel_rfl) (fun _ _ _ h => h) (Or.inl ⟨by rfl, ?_⟩) hHeld ?_
        rotate_left
        · intro w' hSw
          go_simp
          first | done | rfl
        try simp only [Act.put, List.setIfInBounds_toArray, List.set_cons_zero, List.set_cons_succ]
        refine wpAnyH_take (i := 19) (oi := ⟨some 37, _, _, _, _, _⟩) (v := ?_) rfl (by kernel_rfl) (by kernel_rfl) (by kernel_rfl) (fun _ _ _ h => h) (Or.inl ⟨by rfl, ?_⟩) hHeld ?_
        rotate_left
        · intro w' hSw
          go_simp
          first | done | rfl
        try simp only [Act.put, List.setIfInBounds_toArray, List.set_cons_zero, List.set_cons_succ]
        refine wpAnyH_take (i := 20) (oi := ⟨some 38, _, _, _, _, _⟩) (v := ?_) rfl (by kernel_rfl) (by kernel_rfl) (by kernel_rfl) (fun _ _ _ h => h) (Or.inl ⟨by rfl, ?_⟩) hHeld ?_
        rotate_left
        · intro w' hSw
          have q0 := HF7.out w' hSw
          go_simp
          first | done | rfl
        try simp only [Act.put, List.setIfInBounds_toArray, List.set_cons_zero, List.set_cons_succ]
        refine wpAnyH_take (i := 21) (oi := ⟨some 39, _, _, _, _, _⟩) (v := ?_) rfl (by kernel_rfl) (by kernel_rfl) (by kernel_rfl) (fun _ _ _ h => h) (Or.inl ⟨by rfl, ?_⟩) hHeld ?_
        rotate_left
        · intro w' hSw
          go_simp
          first | done | rfl
        try simp only [Act.put, List.setIfInBounds_toArray, List.set_cons_zero, List.set_cons_succ]
        refine wpAnyH_take (i := 22) (oi := ⟨some 40, _, _, _, _, _⟩) (v := ?_) rfl (by kernel_rfl) (by kernel_rfl) (by kernel_rfl) (fun _ _ _ h => h) (Or.inl ⟨by rfl, ?_⟩) hHeld ?_
        rotate_left
        · intro w' hSw
          go_simp
          first | done | rfl
        try simp only [Act.put, List.setIfInBounds_toArray, List.set_cons_zero, List.set_cons_succ]
        refine wpAnyH_done (by kernel_rfl) ?_ _
        go_wp2_with fail
        go_meet
        exact ⟨rfl, Lib.hid hq10⟩
      · go_simp
        refine hK.out _ _ (hHeld.alloc _) (fun hHeld => ?_)
        clear hK K
        try simp only [Act.put, List.setIfInBounds_toArray, List.set_cons_zero, List.set_cons_succ]
        refine wpAnyH_ready (rs := [5, 7]) (by kernel_rfl) (by simp) ?_
        refine (AllReadyH.cons (o := ⟨some 23, _, _, _, _, _⟩) rfl (fun K hK => ?_) (AllReadyH.cons (o := ⟨some 25, _, _, _, _, _⟩) rfl (fun K hK => ?_) AllReadyH.nil))
        · have cv := run_convert_mid (P := Tryd.prog) v0 26 5 #[.int .u8 97] (.cells #[.int .u8 98, .int .u8 99] 5) 1 1 (v0.heap.size) (by simp) Tryd.underlying26 Tryd.underlying5
          simp only [List.size_toArray, List.length_cons, List.length_nil] at cv
          go_simp
          refine hK.out _ _ ((hq0.alloc _).alloc _) (fun hHeld => ?_)
          clear hK K
          try simp only [Act.put, List.setIfInBounds_toArray, List.set_cons_zero, List.set_cons_succ]
          refine wpAnyH_ready (rs := [7]) (by kernel_rfl) (by simp) ?_
          refine (AllReadyH.cons (o := ⟨some 25, _, _, _, _, _⟩) rfl (fun K hK => ?_) AllReadyH.nil)
          have cv := Go.Joins.run_convert_bytes_const_at (P := Tryd.prog) (v0.alloc (.cells #[.int .u8 97] 5 (1, 2))) 26 5 #[.int .u8 98, .int .u8 99] 2 2 (v0.heap.size + 1) (by simp) Tryd.underlying26 Tryd.underlying5
          simp only [List.size_toArray, List.length_cons, List.length_nil] at cv
          go_simp
          refine hK.out _ _ ((hq0.alloc _).alloc _) (fun hHeld => ?_)
          clear hK K
          try simp only [Act.put, List.setIfInBounds_toArray, List.set_cons_zero, List.set_cons_succ]
          refine wpAnyH_ready (rs := [8]) (by kernel_rfl) (by simp) ?_
          refine (AllReadyH.cons (o := ⟨some 26, _, _, _, _, _⟩) rfl (fun K hK => ?_) AllReadyH.nil)
          go_simp
          refine hK.out _ _ (hHeld.alloc _) (fun hHeld => ?_)
          clear hK K
          try simp only [Act.put, List.setIfInBounds_toArray, List.set_cons_zero, List.set_cons_succ]
          refine wpAnyH_ready (rs := [9]) (by kernel_rfl) (by simp) ?_
          refine (AllReadyH.cons (o := ⟨some 27, _, _, _, _, _⟩) rfl (fun K hK => ?_) AllReadyH.nil)
          go_simp
          refine (HS1.out v0 hq0).mono ?_
          rintro e v9 ⟨rfl, hk9⟩
          have hq9 := hHeld.trans hk9 (fun _ _ h => h)
          refine hK.out _ _ hq9 (fun hHeld => ?_)
          clear hK K
          try simp only [Act.put, List.setIfInBounds_toArray, List.set_cons_zero, List.set_cons_succ]
          refine wpAnyH_ready (rs := [10]) (by kernel_rfl) (by simp) ?_
          refine (AllReadyH.cons (o := ⟨some 28, _, _, _, _, _⟩) rfl (fun K hK => ?_) AllReadyH.nil)
          go_simp
          refine (HABC.out v9).mono ?_
          rintro e v10 ⟨rfl, hk10⟩
          have hq10 := hHeld.trans hk10 (fun _ _ h => h)
          refine hK.out _ _ hq10 (fun hHeld => ?_)
          clear hK K
          try simp only [Act.put, List.setIfInBounds_toArray, List.set_cons_zero, List.set_cons_succ]
          refine wpAnyH_take (i := 11) (oi := ⟨some 29, _, _, _, _, _⟩) (v := ?_) rfl (by kernel_rfl) (by kernel_rfl) (by kernel_rfl) (fun _ _ _ h => h) (Or.inl ⟨by rfl, ?_⟩) hHeld ?_
          rotate_left
          · intro w' hSw
            have cv := HEA.out w'
            go_simp
            first | done | rfl
          try simp only [Act.put, List.setIfInBounds_toArray, List.set_cons_zero, List.set_cons_succ]
          refine wpAnyH_take (i := 12) (oi := ⟨some 30, _, _, _, _, _⟩) (v := ?_) rfl (by kernel_rfl) (by kernel_rfl) (by kernel_rfl) (fun _ _ _ h => h) (Or.inl ⟨by rfl, ?_⟩) hHeld ?_
          rotate_left
          · intro w' hSw
            go_simp
            first | done | rfl
          try simp only [Act.put, List.setIfInBounds_toArray, List.set_cons_zero, List.set_cons_succ]
          refine wpAnyH_take (i := 13) (oi := ⟨some 31, _, _, _, _, _⟩) (v := ?_) rfl (by kernel_rfl) (by kernel_rfl) (by kernel_rfl) (fun _ _ _ h => h) (Or.inl ⟨by rfl, ?_⟩) hHeld ?_
          rotate_left
          · intro w' hSw
            go_simp
            first | done | rfl
          try simp only [Act.put, List.setIfInBounds_toArray, List.set_cons_zero, List.set_cons_succ]
          refine wpAnyH_take (i := 14) (oi := ⟨some 32, _, _, _, _, _⟩) (v := ?_) rfl (by kernel_rfl) (by kernel_rfl) (by kernel_rfl) (fun _ _ _ h => h) (Or.inl ⟨by rfl, ?_⟩) hHeld ?_
          rotate_left
          · intro w' hSw
            go_simp
            first | done | rfl
          try simp only [Act.put, List.setIfInBounds_toArray, List.set_cons_zero, List.set_cons_succ]
          refine wpAnyH_take (i := 15) (oi := ⟨some 33, _, _, _, _, _⟩) (v := ?_) rfl (by kernel_rfl) (by kernel_rfl) (by kernel_rfl) (fun _ _ _ h => h) (Or.inl ⟨by rfl, ?_⟩) hHeld ?_
          rotate_left
          · intro w' hSw
            have q0 := HF0.out w' hSw
            go_simp
            first | done | rfl
          try simp only [Act.put, List.setIfInBounds_toArray, List.set_cons_zero, List.set_cons_succ]
          refine wpAnyH_take (i := 16) (oi := ⟨some 34, _, _, _, _, _⟩) (v := ?_) rfl (by kernel_rfl) (by kernel_rfl) (by kernel_rfl) (fun _ _ _ h => h) (Or.inl ⟨by rfl, ?_⟩) hHeld ?_
          rotate_left
          · intro w' hSw
            go_simp
            first | done | rfl
          try simp only [Act.put, List.setIfInBounds_toArray, List.set_cons_zero, List.set_cons_succ]
          refine wpAnyH_take (i := 17) (oi := ⟨some 35, _, _, _, _, _⟩) (v := ?_) rfl (by kernel_rfl) (by kernel_rfl) (by kernel_rfl) (fun _ _ _ h => h) (Or.inl ⟨by rfl, ?_⟩) hHeld ?_
          rotate_left
          · intro w' hSw
            go_simp
            first | done | rfl
          try simp only [Act.put, List.setIfInBounds_toArray, List.set_cons_zero, List.set_cons_succ]
          refine wpAnyH_take (i := 18) (oi := ⟨some 36, _, _, _, _, _⟩) (v := ?_) rfl (by kernel_rfl) (by kernel_rfl) (by kernel_rfl) (fun _ _ _ h => h) (Or.inl ⟨by rfl, ?_⟩) hHeld ?_
          rotate_left
          · intro w' hSw
            go_simp
            first | done | rfl
          try simp only [Act.put, List.setIfInBounds_toArray, List.set_cons_zero, List.set_cons_succ]
          refine wpAnyH_take (i := 19) (oi := ⟨some 37, _, _, _, _, _⟩) (v := ?_) rfl (by kernel_rfl) (by kernel_rfl) (by kernel_rfl) (fun _ _ _ h => h) (Or.inl ⟨by rfl, ?_⟩) hHeld ?_
          rotate_left
          · intro w' hSw
            go_simp
            first | done | rfl
          try simp only [Act.put, List.setIfInBounds_toArray, List.set_cons_zero, List.set_cons_succ]
          refine wpAnyH_take (i := 20) (oi := ⟨some 38, _, _, _, _, _⟩) (v := ?_) rfl (by kernel_rfl) (by kernel_rfl) (by kernel_rfl) (fun _ _ _ h => h) (Or.inl ⟨by rfl, ?_⟩) hHeld ?_
          rotate_left
          · intro w' hSw
            have q0 := HF7.out w' hSw
            go_simp
            first | done | rfl
          try simp only [Act.put, List.setIfInBounds_toArray, List.set_cons_zero, List.set_cons_succ]
          refine wpAnyH_take (i := 21) (oi := ⟨some 39, _, _, _, _, _⟩) (v := ?_) rfl (by kernel_rfl) (by kernel_rfl) (by kernel_rfl) (fun _ _ _ h => h) (Or.inl ⟨by rfl, ?_⟩) hHeld ?_
          rotate_left
          · intro w' hSw
            go_simp
            first | done | rfl
          try simp only [Act.put, List.setIfInBounds_toArray, List.set_cons_zero, List.set_cons_succ]
          refine wpAnyH_take (i := 22) (oi := ⟨some 40, _, _, _, _, _⟩) (v := ?_) rfl (by kernel_rfl) (by kernel_rfl) (by kernel_rfl) (fun _ _ _ h => h) (Or.inl ⟨by rfl, ?_⟩) hHeld ?_
          rotate_left
          · intro w' hSw
            go_simp
            first | done | rfl
          try simp only [Act.put, List.setIfInBounds_toArray, List.set_cons_zero, List.set_cons_succ]
          refine wpAnyH_done (by kernel_rfl) ?_ _
          go_wp2_with fail
          go_meet
          exact ⟨rfl, Lib.hid hq10⟩
        · have cv := Go.Joins.run_convert_bytes_const_at (P := Tryd.prog) (v0.alloc (.cells #[.int .u8 97] 5)) 26 5 #[.int .u8 98, .int .u8 99] 2 2 (v0.heap.size + 1) (by simp) Tryd.underlying26 Tryd.underlying5
          simp only [List.size_toArray, List.length_cons, List.length_nil] at cv
          go_simp
          refine hK.out _ _ ((hq0.alloc _).alloc _) (fun hHeld => ?_)
          clear hK K
          try simp only [Act.put, List.setIfInBounds_toArray, List.set_cons_zero, List.set_cons_succ]
          refine wpAnyH_ready (rs := [5]) (by kernel_rfl) (by simp) ?_
          refine (AllReadyH.cons (o := ⟨some 23, _, _, _, _, _⟩) rfl (fun K hK => ?_) AllReadyH.nil)
          have cv := run_convert_mid (P := Tryd.prog) v0 26 5 #[.int .u8 97] (.cells #[.int .u8 98, .int .u8 99] 5 (2, 3)) 1 1 (v0.heap.size) (by simp) Tryd.underlying26 Tryd.underlying5
          simp only [List.size_toArray, List.length_cons, List.length_nil] at cv
          go_simp
          refine hK.out _ _ ((hq0.alloc _).alloc _) (fun hHeld => ?_)
          clear hK K
          try simp only [Act.put, List.setIfInBounds_toArray, List.set_cons_zero, List.set_cons_succ]
          refine wpAnyH_ready (rs := [8]) (by kernel_rfl) (by simp) ?_
          refine (AllReadyH.cons (o := ⟨some 26, _, _, _, _, _⟩) rfl (fun K hK => ?_) AllReadyH.nil)
          go_simp
          refine hK.out _ _ (hHeld.alloc _) (fun hHeld => ?_)
          clear hK K
          try simp only [Act.put, List.setIfInBounds_toArray, List.set_cons_zero, List.set_cons_succ]
          refine wpAnyH_ready (rs := [9]) (by kernel_rfl) (by simp) ?_
          refine (AllReadyH.cons (o := ⟨some 27, _, _, _, _, _⟩) rfl (fun K hK => ?_) AllReadyH.nil)
          go_simp
          refine (HS1.out v0 hq0).mono ?_
          rintro e v9 ⟨rfl, hk9⟩
          have hq9 := hHeld.trans hk9 (fun _ _ h => h)
          refine hK.out _ _ hq9 (fun hHeld => ?_)
          clear hK K
          try simp only [Act.put, List.setIfInBounds_toArray, List.set_cons_zero, List.set_cons_succ]
          refine wpAnyH_ready (rs := [10]) (by kernel_rfl) (by simp) ?_
          refine (AllReadyH.cons (o := ⟨some 28, _, _, _, _, _⟩) rfl (fun K hK => ?_) AllReadyH.nil)
          go_simp
          refine (HABC.out v9).mono ?_
          rintro e v10 ⟨rfl, hk10⟩
          have hq10 := hHeld.trans hk10 (fun _ _ h => h)
          refine hK.out _ _ hq10 (fun hHeld => ?_)
          clear hK K
          try simp only [Act.put, List.setIfInBounds_toArray, List.set_cons_zero, List.set_cons_succ]
          refine wpAnyH_take (i := 11) (oi := ⟨some 29, _, _, _, _, _⟩) (v := ?_) rfl (by kernel_rfl) (by kernel_rfl) (by kernel_rfl) (fun _ _ _ h => h) (Or.inl ⟨by rfl, ?_⟩) hHeld ?_
          rotate_left
          · intro w' hSw
            have cv := HEA.out w'
            go_simp
            first | done | rfl
          try simp only [Act.put, List.setIfInBounds_toArray, List.set_cons_zero, List.set_cons_succ]
          refine wpAnyH_take (i := 12) (oi := ⟨some 30, _, _, _, _, _⟩) (v := ?_) rfl (by kernel_rfl) (by kernel_rfl) (by kernel_rfl) (fun _ _ _ h => h) (Or.inl ⟨by rfl, ?_⟩) hHeld ?_
          rotate_left
          · intro w' hSw
            go_simp
            first | done | rfl
          try simp only [Act.put, List.setIfInBounds_toArray, List.set_cons_zero, List.set_cons_succ]
          refine wpAnyH_take (i := 13) (oi := ⟨some 31, _, _, _, _, _⟩) (v := ?_) rfl (by kernel_rfl) (by kernel_rfl) (by kernel_rfl) (fun _ _ _ h => h) (Or.inl ⟨by rfl, ?_⟩) hHeld ?_
          rotate_left
          · intro w' hSw
            go_simp
            first | done | rfl
          try simp only [Act.put, List.setIfInBounds_toArray, List.set_cons_zero, List.set_cons_succ]
          refine wpAnyH_take (i := 14) (oi := ⟨some 32, _, _, _, _, _⟩) (v := ?_) rfl (by kernel_rfl) (by kernel_rfl) (by kernel_rfl) (fun _ _ _ h => h) (Or.inl ⟨by rfl, ?_⟩) hHeld ?_
          rotate_left
          · intro w' hSw
            go_simp
            first | done | rfl
          try simp only [Act.put, List.setIfInBounds_toArray, List.set_cons_zero, List.set_cons_succ]
          refine wpAnyH_take (i := 15) (oi := ⟨some 33, _, _, _, _, _⟩) (v := ?_) rfl (by kernel_rfl) (by kernel_rfl) (by kernel_rfl) (fun _ _ _ h => h) (Or.inl ⟨by rfl, ?_⟩) hHeld ?_
          rotate_left
          · intro w' hSw
            have q0 := HF0.out w' hSw
            go_simp
            first | done | rfl
          try simp only [Act.put, List.setIfInBounds_toArray, List.set_cons_zero, List.set_cons_succ]
          refine wpAnyH_take (i := 16) (oi := ⟨some 34, _, _, _, _, _⟩) (v := ?_) rfl (by kernel_rfl) (by kernel_rfl) (by kernel_rfl) (fun _ _ _ h => h) (Or.inl ⟨by rfl, ?_⟩) hHeld ?_
          rotate_left
          · intro w' hSw
            go_simp
            first | done | rfl
          try simp only [Act.put, List.setIfInBounds_toArray, List.set_cons_zero, List.set_cons_succ]
          refine wpAnyH_take (i := 17) (oi := ⟨some 35, _, _, _, _, _⟩) (v := ?_) rfl (by kernel_rfl) (by kernel_rfl) (by kernel_rfl) (fun _ _ _ h => h) (Or.inl ⟨by rfl, ?_⟩) hHeld ?_
          rotate_left
          · intro w' hSw
            go_simp
            first | done | rfl
          try simp only [Act.put, List.setIfInBounds_toArray, List.set_cons_zero, List.set_cons_succ]
          refine wpAnyH_take (i := 18) (oi := ⟨some 36, _, _, _, _, _⟩) (v := ?_) rfl (by kernel_rfl) (by kernel_rfl) (by kernel_rfl) (fun _ _ _ h => h) (Or.inl ⟨by rfl, ?_⟩) hHeld ?_
          rotate_left
          · intro w' hSw
            go_simp
            first | done | rfl
          try simp only [Act.put, List.setIfInBounds_toArray, List.set_cons_zero, List.set_cons_succ]
          refine wpAnyH_take (i := 19) (oi := ⟨some 37, _, _, _, _, _⟩) (v := ?_) rfl (by kernel_rfl) (by kernel_rfl) (by kernel_rfl) (fun _ _ _ h => h) (Or.inl ⟨by rfl, ?_⟩) hHeld ?_
          rotate_left
          · intro w' hSw
            go_simp
            first | done | rfl
          try simp only [Act.put, List.setIfInBounds_toArray, List.set_cons_zero, List.set_cons_succ]
          refine wpAnyH_take (i := 20) (oi := ⟨some 38, _, _, _, _, _⟩) (v := ?_) rfl (by kernel_rfl) (by kernel_rfl) (by kernel_rfl) (fun _ _ _ h => h) (Or.inl ⟨by rfl, ?_⟩) hHeld ?_
          rotate_left
          · intro w' hSw
            have q0 := HF7.out w' hSw
            go_simp
            first | done | rfl
          try simp only [Act.put, List.setIfInBounds_toArray, List.set_cons_zero, List.set_cons_succ]
          refine wpAnyH_take (i := 21) (oi := ⟨some 39, _, _, _, _, _⟩) (v := ?_) rfl (by kernel_rfl) (by kernel_rfl) (by kernel_rfl) (fun _ _ _ h => h) (Or.inl ⟨by rfl, ?_⟩) hHeld ?_
          rotate_left
          · intro w' hSw
            go_simp
            first | done | rfl
          try simp only [Act.put, List.setIfInBounds_toArray, List.set_cons_zero, List.set_cons_succ]
          refine wpAnyH_take (i := 22) (oi := ⟨some 40, _, _, _, _, _⟩) (v := ?_) rfl (by kernel_rfl) (by kernel_rfl) (by kernel_rfl) (fun _ _ _ h => h) (Or.inl ⟨by rfl, ?_⟩) hHeld ?_
          rotate_left
          · intro w' hSw
            go_simp
            first | done | rfl
          try simp only [Act.put, List.setIfInBounds_toArray, List.set_cons_zero, List.set_cons_succ]
          refine wpAnyH_done (by kernel_rfl) ?_ _
          go_wp2_with fail
          go_meet
          exact ⟨rfl, Lib.hid hq10⟩
    · go_simp
      refine hK.out _ _ (hHeld.alloc _) (fun hHeld => ?_)
      clear hK K
      try simp only [Act.put, List.setIfInBounds_toArray, List.set_cons_zero, List.set_cons_succ]
      refine wpAnyH_ready (rs := [4, 7]) (by kernel_rfl) (by simp) ?_
      refine (AllReadyH.cons (o := ⟨some 22, _, _, _, _, _⟩) rfl (fun K hK => ?_) (AllReadyH.cons (o := ⟨some 25, _, _, _, _, _⟩) rfl (fun K hK => ?_) AllReadyH.nil))
      · go_simp
        refine hK.out _ _ (hHeld.alloc _) (fun hHeld => ?_)
        clear hK K
        try simp only [Act.put, List.setIfInBounds_toArray, List.set_cons_zero, List.set_cons_succ]
        refine wpAnyH_ready (rs := [5, 7]) (by kernel_rfl) (by simp) ?_
        refine (AllReadyH.cons (o := ⟨some 23, _, _, _, _, _⟩) rfl (fun K hK => ?_) (AllReadyH.cons (o := ⟨some 25, _, _, _, _, _⟩) rfl (fun K hK => ?_) AllReadyH.nil))
        · have cv := Go.Joins.run_convert_bytes_const_at (P := Tryd.prog) (v0.alloc (.cells #[.int .u8 98, .int .u8 99] 5)) 26 5 #[.int .u8 97] 1 1 (v0.heap.size + 1) (by simp) Tryd.underlying26 Tryd.underlying5
          simp only [List.size_toArray, List.length_cons, List.length_nil] at cv
          go_simp
          refine hK.out _ _ ((hq0.alloc _).alloc _) (fun hHeld => ?_)
          clear hK K
          try simp only [Act.put, List.setIfInBounds_toArray, List.set_cons_zero, List.set_cons_succ]
          refine wpAnyH_ready (rs := [7]) (by kernel_rfl) (by simp) ?_
          refine (AllReadyH.cons (o := ⟨some 25, _, _, _, _, _⟩) rfl (fun K hK => ?_) AllReadyH.nil)
          have cv := run_convert_mid (P := Tryd.prog) v0 26 5 #[.int .u8 98, .int .u8 99] (.cells #[.int .u8 97] 5 (1, 2)) 2 2 (v0.heap.size) (by simp) Tryd.underlying26 Tryd.underlying5
          simp only [List.size_toArray, List.length_cons, List.length_nil] at cv
          go_simp
          refine hK.out _ _ ((hq0.alloc _).alloc _) (fun hHeld => ?_)
          clear hK K
          try simp only [Act.put, List.setIfInBounds_toArray, List.set_cons_zero, List.set_cons_succ]
          refine wpAnyH_ready (rs := [8]) (by kernel_rfl) (by simp) ?_
          refine (AllReadyH.cons (o := ⟨some 26, _, _, _, _, _⟩) rfl (fun K hK => ?_) AllReadyH.nil)
          go_simp
          refine hK.out _ _ (hHeld.alloc _) (fun hHeld => ?_)
          clear hK K
          try simp only [Act.put, List.setIfInBounds_toArray, List.set_cons_zero, List.set_cons_succ]
          refine wpAnyH_ready (rs := [9]) (by kernel_rfl) (by simp) ?_
          refine (AllReadyH.cons (o := ⟨some 27, _, _, _, _, _⟩) rfl (fun K hK => ?_) AllReadyH.nil)
          go_simp
          refine (HS2.out v0 hq0).mono ?_
          rintro e v9 ⟨rfl, hk9⟩
          have hq9 := hHeld.trans hk9 (fun _ _ h => h)
          refine hK.out _ _ hq9 (fun hHeld => ?_)
          clear hK K
          try simp only [Act.put, List.setIfInBounds_toArray, List.set_cons_zero, List.set_cons_succ]
          refine wpAnyH_ready (rs := [10]) (by kernel_rfl) (by simp) ?_
          refine (AllReadyH.cons (o := ⟨some 28, _, _, _, _, _⟩) rfl (fun K hK => ?_) AllReadyH.nil)
          go_simp
          refine (HABC.out v9).mono ?_
          rintro e v10 ⟨rfl, hk10⟩
          have hq10 := hHeld.trans hk10 (fun _ _ h => h)
          refine hK.out _ _ hq10 (fun hHeld => ?_)
          clear hK K
          try simp only [Act.put, List.setIfInBounds_toArray, List.set_cons_zero, List.set_cons_succ]
          refine wpAnyH_take (i := 11) (oi := ⟨some 29, _, _, _, _, _⟩) (v := ?_) rfl (by kernel_rfl) (by kernel_rfl) (by kernel_rfl) (fun _ _ _ h => h) (Or.inl ⟨by rfl, ?_⟩) hHeld ?_
          rotate_left
          · intro w' hSw
            have cv := HEA.out w'
            go_simp
            first | done | rfl
          try simp only [Act.put, List.setIfInBounds_toArray, List.set_cons_zero, List.set_cons_succ]
          refine wpAnyH_take (i := 12) (oi := ⟨some 30, _, _, _, _, _⟩) (v := ?_) rfl (by kernel_rfl) (by kernel_rfl) (by kernel_rfl) (fun _ _ _ h => h) (Or.inl ⟨by rfl, ?_⟩) hHeld ?_
          rotate_left
          · intro w' hSw
            go_simp
            first | done | rfl
          try simp only [Act.put, List.setIfInBounds_toArray, List.set_cons_zero, List.set_cons_succ]
          refine wpAnyH_take (i := 13) (oi := ⟨some 31, _, _, _, _, _⟩) (v := ?_) rfl (by kernel_rfl) (by kernel_rfl) (by kernel_rfl) (fun _ _ _ h => h) (Or.inl ⟨by rfl, ?_⟩) hHeld ?_
          rotate_left
          · intro w' hSw
            go_simp
            first | done | rfl
          try simp only [Act.put, List.setIfInBounds_toArray, List.set_cons_zero, List.set_cons_succ]
          refine wpAnyH_take (i := 14) (oi := ⟨some 32, _, _, _, _, _⟩) (v := ?_) rfl (by kernel_rfl) (by kernel_rfl) (by kernel_rfl) (fun _ _ _ h => h) (Or.inl ⟨by rfl, ?_⟩) hHeld ?_
          rotate_left
          · intro w' hSw
            go_simp
            first | done | rfl
          try simp only [Act.put, List.setIfInBounds_toArray, List.set_cons_zero, List.set_cons_succ]
          refine wpAnyH_take (i := 15) (oi := ⟨some 33, _, _, _, _, _⟩) (v := ?_) rfl (by kernel_rfl) (by kernel_rfl) (by kernel_rfl) (fun _ _ _ h => h) (Or.inl ⟨by rfl, ?_⟩) hHeld ?_
          rotate_left
          · intro w' hSw
            have q0 := HF0.out w' hSw
            go_simp
            first | done | rfl
          try simp only [Act.put, List.setIfInBounds_toArray, List.set_cons_zero, List.set_cons_succ]
          refine wpAnyH_take (i := 16) (oi := ⟨some 34, _, _, _, _, _⟩) (v := ?_) rfl (by kernel_rfl) (by kernel_rfl) (by kernel_rfl) (fun _ _ _ h => h) (Or.inl ⟨by rfl, ?_⟩) hHeld ?_
          rotate_left
          · intro w' hSw
            go_simp
            first | done | rfl
          try simp only [Act.put, List.setIfInBounds_toArray, List.set_cons_zero, List.set_cons_succ]
          refine wpAnyH_take (i := 17) (oi := ⟨some 35, _, _, _, _, _⟩) (v := ?_) rfl (by kernel_rfl) (by kernel_rfl) (by kernel_rfl) (fun _ _ _ h => h) (Or.inl ⟨by rfl, ?_⟩) hHeld ?_
          rotate_left
          · intro w' hSw
            go_simp
            first | done | rfl
          try simp only [Act.put, List.setIfInBounds_toArray, List.set_cons_zero, List.set_cons_succ]
          refine wpAnyH_take (i := 18) (oi := ⟨some 36, _, _, _, _, _⟩) (v := ?_) rfl (by kernel_rfl) (by kernel_rfl) (by kernel_rfl) (fun _ _ _ h => h) (Or.inl ⟨by rfl, ?_⟩) hHeld ?_
          rotate_left
          · intro w' hSw
            go_simp
            first | done | rfl
          try simp only [Act.put, List.setIfInBounds_toArray, List.set_cons_zero, List.set_cons_succ]
          refine wpAnyH_take (i := 19) (oi := ⟨some 37, _, _, _, _, _⟩) (v := ?_) rfl (by kernel_rfl) (by kernel_rfl) (by kernel_rfl) (fun _ _ _ h => h) (Or.inl ⟨by rfl, ?_⟩) hHeld ?_
          rotate_left
          · intro w' hSw
            go_simp
            first | done | rfl
          try simp only [Act.put, List.setIfInBounds_toArray, List.set_cons_zero, List.set_cons_succ]
          refine wpAnyH_take (i := 20) (oi := ⟨some 38, _, _, _, _, _⟩) (v := ?_) rfl (by kernel_rfl) (by kernel_rfl) (by kernel_rfl) (fun _ _ _ h => h) (Or.inl ⟨by rfl, ?_⟩) hHeld ?_
          rotate_left
          · intro w' hSw
            have q0 := HF7.out w' hSw
            go_simp
            first | done | rfl
          try simp only [Act.put, List.setIfInBounds_toArray, List.set_cons_zero, List.set_cons_succ]
          refine wpAnyH_take (i := 21) (oi := ⟨some 39, _, _, _, _, _⟩) (v := ?_) rfl (by kernel_rfl) (by kernel_rfl) (by kernel_rfl) (fun _ _ _ h => h) (Or.inl ⟨by rfl, ?_⟩) hHeld ?_
          rotate_left
          · intro w' hSw
            go_simp
            first | done | rfl
          try simp only [Act.put, List.setIfInBounds_toArray, List.set_cons_zero, List.set_cons_succ]
          refine wpAnyH_take (i := 22) (oi := ⟨some 40, _, _, _, _, _⟩) (v := ?_) rfl (by kernel_rfl) (by kernel_rfl) (by kernel_rfl) (fun _ _ _ h => h) (Or.inl ⟨by rfl, ?_⟩) hHeld ?_
          rotate_left
          · intro w' hSw
            go_simp
            first | done | rfl
          try simp only [Act.put, List.setIfInBounds_toArray, List.set_cons_zero, List.set_cons_succ]
          refine wpAnyH_done (by kernel_rfl) ?_ _
          go_wp2_with fail
          go_meet
          exact ⟨rfl, Lib.hid hq10⟩
        · have cv := run_convert_mid (P := Tryd.prog) v0 26 5 #[.int .u8 98, .int .u8 99] (.cells #[.int .u8 97] 5) 2 2 (v0.heap.size) (by simp) Tryd.underlying26 Tryd.underlying5
          simp only [List.size_toArray, List.length_cons, List.length_nil] at cv
          go_simp
          refine hK.out _ _ ((hq0.alloc _).alloc _) (fun hHeld => ?_)
          clear hK K
          try simp only [Act.put, List.setIfInBounds_toArray, List.set_cons_zero, List.set_cons_succ]
          refine wpAnyH_ready (rs := [5]) (by kernel_rfl) (by simp) ?_
          refine (AllReadyH.cons (o := ⟨some 23, _, _, _, _, _⟩) rfl (fun K hK => ?_) AllReadyH.nil)
          have cv := Go.Joins.run_convert_bytes_const_at (P := Tryd.prog) (v0.alloc (.cells #[.int .u8 98, .int .u8 99] 5 (2, 3))) 26 5 #[.int .u8 97] 1 1 (v0.heap.size + 1) (by simp) Tryd.underlying26 Tryd.underlying5
          simp only [List.size_toArray, List.length_cons, List.length_nil] at cv
          go_simp
          refine hK.out _ _ ((hq0.alloc _).alloc _) (fun hHeld => ?_)
          clear hK K
          try simp only [Act.put, List.setIfInBounds_toArray, List.set_cons_zero, List.set_cons_succ]
          refine wpAnyH_ready (rs := [8]) (by kernel_rfl) (by simp) ?_
          refine (AllReadyH.cons (o := ⟨some 26, _, _, _, _, _⟩) rfl (fun K hK => ?_) AllReadyH.nil)
          go_simp
          refine hK.out _ _ (hHeld.alloc _) (fun hHeld => ?_)
          clear hK K
          try simp only [Act.put, List.setIfInBounds_toArray, List.set_cons_zero, List.set_cons_succ]
          refine wpAnyH_ready (rs := [9]) (by kernel_rfl) (by simp) ?_
          refine (AllReadyH.cons (o := ⟨some 27, _, _, _, _, _⟩) rfl (fun K hK => ?_) AllReadyH.nil)
          go_simp
          refine (HS2.out v0 hq0).mono ?_
          rintro e v9 ⟨rfl, hk9⟩
          have hq9 := hHeld.trans hk9 (fun _ _ h => h)
          refine hK.out _ _ hq9 (fun hHeld => ?_)
          clear hK K
          try simp only [Act.put, List.setIfInBounds_toArray, List.set_cons_zero, List.set_cons_succ]
          refine wpAnyH_ready (rs := [10]) (by kernel_rfl) (by simp) ?_
          refine (AllReadyH.cons (o := ⟨some 28, _, _, _, _, _⟩) rfl (fun K hK => ?_) AllReadyH.nil)
          go_simp
          refine (HABC.out v9).mono ?_
          rintro e v10 ⟨rfl, hk10⟩
          have hq10 := hHeld.trans hk10 (fun _ _ h => h)
          refine hK.out _ _ hq10 (fun hHeld => ?_)
          clear hK K
          try simp only [Act.put, List.setIfInBounds_toArray, List.set_cons_zero, List.set_cons_succ]
          refine wpAnyH_take (i := 11) (oi := ⟨some 29, _, _, _, _, _⟩) (v := ?_) rfl (by kernel_rfl) (by kernel_rfl) (by kernel_rfl) (fun _ _ _ h => h) (Or.inl ⟨by rfl, ?_⟩) hHeld ?_
          rotate_left
          · intro w' hSw
            have cv := HEA.out w'
            go_simp
            first | done | rfl
          try simp only [Act.put, List.setIfInBounds_toArray, List.set_cons_zero, List.set_cons_succ]
          refine wpAnyH_take (i := 12) (oi := ⟨some 30, _, _, _, _, _⟩) (v := ?_) rfl (by kernel_rfl) (by kernel_rfl) (by kernel_rfl) (fun _ _ _ h => h) (Or.inl ⟨by rfl, ?_⟩) hHeld ?_
          rotate_left
          · intro w' hSw
            go_simp
            first | done | rfl
          try simp only [Act.put, List.setIfInBounds_toArray, List.set_cons_zero, List.set_cons_succ]
          refine wpAnyH_take (i := 13) (oi := ⟨some 31, _, _, _, _, _⟩) (v := ?_) rfl (by kernel_rfl) (by kernel_rfl) (by kernel_rfl) (fun _ _ _ h => h) (Or.inl ⟨by rfl, ?_⟩) hHeld ?_
          rotate_left
          · intro w' hSw
            go_simp
            first | done | rfl
          try simp only [Act.put, List.setIfInBounds_toArray, List.set_cons_zero, List.set_cons_succ]
          refine wpAnyH_take (i := 14) (oi := ⟨some 32, _, _, _, _, _⟩) (v := ?_) rfl (by kernel_rfl) (by kernel_rfl) (by kernel_rfl) (fun _ _ _ h => h) (Or.inl ⟨by rfl, ?_⟩) hHeld ?_
          rotate_left
          · intro w' hSw
            go_simp
            first | done | rfl
          try simp only [Act.put, List.setIfInBounds_toArray, List.set_cons_zero, List.set_cons_succ]
          refine wpAnyH_take (i := 15) (oi := ⟨some 33, _, _, _, _, _⟩) (v := ?_) rfl (by kernel_rfl) (by kernel_rfl) (by kernel_rfl) (fun _ _ _ h => h) (Or.inl ⟨by rfl, ?_⟩) hHeld ?_
          rotate_left
          · intro w' hSw
            have q0 := HF0.out w' hSw
            go_simp
            first | done | rfl
          try simp only [Act.put, List.setIfInBounds_toArray, List.set_cons_zero, List.set_cons_succ]
          refine wpAnyH_take (i := 16) (oi := ⟨some 34, _, _, _, _, _⟩) (v := ?_) rfl (by kernel_rfl) (by kernel_rfl) (by kernel_rfl) (fun _ _ _ h => h) (Or.inl ⟨by rfl, ?_⟩) hHeld ?_
          rotate_left
          · intro w' hSw
            go_simp
            first | done | rfl
          try simp only [Act.put, List.setIfInBounds_toArray, List.set_cons_zero, List.set_cons_succ]
          refine wpAnyH_take (i := 17) (oi := ⟨some 35, _, _, _, _, _⟩) (v := ?_) rfl (by kernel_rfl) (by kernel_rfl) (by kernel_rfl) (fun _ _ _ h => h) (Or.inl ⟨by rfl, ?_⟩) hHeld ?_
          rotate_left
          · intro w' hSw
            go_simp
            first | done | rfl
          try simp only [Act.put, List.setIfInBounds_toArray, List.set_cons_zero, List.set_cons_succ]
          refine wpAnyH_take (i := 18) (oi := ⟨some 36, _, _, _, _, _⟩) (v := ?_) rfl (by kernel_rfl) (by kernel_rfl) (by kernel_rfl) (fun _ _ _ h => h) (Or.inl ⟨by rfl, ?_⟩) hHeld ?_
          rotate_left
          · intro w' hSw
            go_simp
            first | done | rfl
          try simp only [Act.put, List.setIfInBounds_toArray, List.set_cons_zero, List.set_cons_succ]
          refine wpAnyH_take (i := 19) (oi := ⟨some 37, _, _, _, _, _⟩) (v := ?_) rfl (by kernel_rfl) (by kernel_rfl) (by kernel_rfl) (fun _ _ _ h => h) (Or.inl ⟨by rfl, ?_⟩) hHeld ?_
          rotate_left
          · intro w' hSw
            go_simp
            first | done | rfl
          try simp only [Act.put, List.setIfInBounds_toArray, List.set_cons_zero, List.set_cons_succ]
          refine wpAnyH_take (i := 20) (oi := ⟨some 38, _, _, _, _, _⟩) (v := ?_) rfl (by kernel_rfl) (by kernel_rfl) (by kernel_rfl) (fun _ _ _ h => h) (Or.inl ⟨by rfl, ?_⟩) hHeld ?_
          rotate_left
          · intro w' hSw
            have q0 := HF7.out w' hSw
            go_simp
            first | done | rfl
          try simp only [Act.put, List.setIfInBounds_toArray, List.set_cons_zero, List.set_cons_succ]
          refine wpAnyH_take (i := 21) (oi := ⟨some 39, _, _, _, _, _⟩) (v := ?_) rfl (by kernel_rfl) (by kernel_rfl) (by kernel_rfl) (fun _ _ _ h => h) (Or.inl ⟨by rfl, ?_⟩) hHeld ?_
          rotate_left
          · intro w' hSw
            go_simp
            first | done | rfl
          try simp only [Act.put, List.setIfInBounds_toArray, List.set_cons_zero, List.set_cons_succ]
          refine wpAnyH_take (i := 22) (oi := ⟨some 40, _, _, _, _, _⟩) (v := ?_) rfl (by kernel_rfl) (by kernel_rfl) (by kernel_rfl) (fun _ _ _ h => h) (Or.inl ⟨by rfl, ?_⟩) hHeld ?_
          rotate_left
          · intro w' hSw
            go_simp
            first | done | rfl
          try simp only [Act.put, List.setIfInBounds_toArray, List.set_cons_zero, List.set_cons_succ]
          refine wpAnyH_done (by kernel_rfl) ?_ _
          go_wp2_with fail
          go_meet
          exact ⟨rfl, Lib.hid hq10⟩
      · have cv := Go.Joins.run_convert_bytes_const_at (P := Tryd.prog) v0 26 5 #[.int .u8 98, .int .u8 99] 2 2 (v0.heap.size) (by simp) Tryd.underlying26 Tryd.underlying5
        simp only [List.size_toArray, List.length_cons, List.length_nil] at cv
        go_simp
        refine hK.out _ _ (hq0.alloc _) (fun hHeld => ?_)
        clear hK K
        try simp only [Act.put, List.setIfInBounds_toArray, List.set_cons_zero, List.set_cons_succ]
        refine wpAnyH_ready (rs := [4]) (by kernel_rfl) (by simp) ?_
        refine (AllReadyH.cons (o := ⟨some 22, _, _, _, _, _⟩) rfl (fun K hK => ?_) AllReadyH.nil)
        go_simp
        refine hK.out _ _ (hHeld.alloc _) (fun hHeld => ?_)
        clear hK K
        try simp only [Act.put, List.setIfInBounds_toArray, List.set_cons_zero, List.set_cons_succ]
        refine wpAnyH_ready (rs := [5]) (by kernel_rfl) (by simp) ?_
        refine (AllReadyH.cons (o := ⟨some 23, _, _, _, _, _⟩) rfl (fun K hK => ?_) AllReadyH.nil)
        have cv := Go.Joins.run_convert_bytes_const_at (P := Tryd.prog) (v0.alloc (.cells #[.int .u8 98, .int .u8 99] 5 (2, 3))) 26 5 #[.int .u8 97] 1 1 (v0.heap.size + 1) (by simp) Tryd.underlying26 Tryd.underlying5
        simp only [List.size_toArray, List.length_cons, List.length_nil] at cv
        go_simp
        refine hK.out _ _ ((hq0.alloc _).alloc _) (fun hHeld => ?_)
        clear hK K
        try simp only [Act.put, List.setIfInBounds_toArray, List.set_cons_zero, List.set_cons_succ]
        refine wpAnyH_ready (rs := [8]) (by kernel_rfl) (by simp) ?_
        refine (AllReadyH.cons (o := ⟨some 26, _, _, _, _, _⟩) rfl (fun K hK => ?_) AllReadyH.nil)
        go_simp
        refine hK.out _ _ (hHeld.alloc _) (fun hHeld => ?_)
        clear hK K
        try simp only [Act.put, List.setIfInBounds_toArray, List.set_cons_zero, List.set_cons_succ]
        refine wpAnyH_ready (rs := [9]) (by kernel_rfl) (by simp) ?_
        refine (AllReadyH.cons (o := ⟨some 27, _, _, _, _, _⟩) rfl (fun K hK => ?_) AllReadyH.nil)
        go_simp
        refine (HS2.out v0 hq0).mono ?_
        rintro e v9 ⟨rfl, hk9⟩
        have hq9 := hHeld.trans hk9 (fun _ _ h => h)
        refine hK.out _ _ hq9 (fun hHeld => ?_)
        clear hK K
        try simp only [Act.put, List.setIfInBounds_toArray, List.set_cons_zero, List.set_cons_succ]
        refine wpAnyH_ready (rs := [10]) (by kernel_rfl) (by simp) ?_
        refine (AllReadyH.cons (o := ⟨some 28, _, _, _, _, _⟩) rfl (fun K hK => ?_) AllReadyH.nil)
        go_simp
        refine (HABC.out v9).mono ?_
        rintro e v10 ⟨rfl, hk10⟩
        have hq10 := hHeld.trans hk10 (fun _ _ h => h)
        refine hK.out _ _ hq10 (fun hHeld => ?_)
        clear hK K
        try simp only [Act.put, List.setIfInBounds_toArray, List.set_cons_zero, List.set_cons_succ]
        refine wpAnyH_take (i := 11) (oi := ⟨some 29, _, _, _, _, _⟩) (v := ?_) rfl (by kernel_rfl) (by kernel_rfl) (by kernel_rfl) (fun _ _ _ h => h) (Or.inl ⟨by rfl, ?_⟩) hHeld ?_
        rotate_left
        · intro w' hSw
          have cv := HEA.out w'
          go_simp
          first | done | rfl
        try simp only [Act.put, List.setIfInBounds_toArray, List.set_cons_zero, List.set_cons_succ]
        refine wpAnyH_take (i := 12) (oi := ⟨some 30, _, _, _, _, _⟩) (v := ?_) rfl (by kernel_rfl) (by kernel_rfl) (by kernel_rfl) (fun _ _ _ h => h) (Or.inl ⟨by rfl, ?_⟩) hHeld ?_
        rotate_left
        · intro w' hSw
          go_simp
          first | done | rfl
        try simp only [Act.put, List.setIfInBounds_toArray, List.set_cons_zero, List.set_cons_succ]
        refine wpAnyH_take (i := 13) (oi := ⟨some 31, _, _, _, _, _⟩) (v := ?_) rfl (by kernel_rfl) (by kernel_rfl) (by kernel_rfl) (fun _ _ _ h => h) (Or.inl ⟨by rfl, ?_⟩) hHeld ?_
        rotate_left
        · intro w' hSw
          go_simp
          first | done | rfl
        try simp only [Act.put, List.setIfInBounds_toArray, List.set_cons_zero, List.set_cons_succ]
        refine wpAnyH_take (i := 14) (oi := ⟨some 32, _, _, _, _, _⟩) (v := ?_) rfl (by kernel_rfl) (by kernel_rfl) (by kernel_rfl) (fun _ _ _ h => h) (Or.inl ⟨by rfl, ?_⟩) hHeld ?_
        rotate_left
        · intro w' hSw
          go_simp
          first | done | rfl
        try simp only [Act.put, List.setIfInBounds_toArray, List.set_cons_zero, List.set_cons_succ]
        refine wpAnyH_take (i := 15) (oi := ⟨some 33, _, _, _, _, _⟩) (v := ?_) rfl (by kernel_rfl) (by kernel_rfl) (by kernel_rfl) (fun _ _ _ h => h) (Or.inl ⟨by rfl, ?_⟩) hHeld ?_
        rotate_left
        · intro w' hSw
          have q0 := HF0.out w' hSw
          go_simp
          first | done | rfl
        try simp only [Act.put, List.setIfInBounds_toArray, List.set_cons_zero, List.set_cons_succ]
        refine wpAnyH_take (i := 16) (oi := ⟨some 34, _, _, _, _, _⟩) (v := ?_) rfl (by kernel_rfl) (by kernel_rfl) (by kernel_rfl) (fun _ _ _ h => h) (Or.inl ⟨by rfl, ?_⟩) hHeld ?_
        rotate_left
        · intro w' hSw
          go_simp
          first | done | rfl
        try simp only [Act.put, List.setIfInBounds_toArray, List.set_cons_zero, List.set_cons_succ]
        refine wpAnyH_take (i := 17) (oi := ⟨some 35, _, _, _, _, _⟩) (v := ?_) rfl (by kernel_rfl) (by kernel_rfl) (by kernel_rfl) (fun _ _ _ h => h) (Or.inl ⟨by rfl, ?_⟩) hHeld ?_
        rotate_left
        · intro w' hSw
          go_simp
          first | done | rfl
        try simp only [Act.put, List.setIfInBounds_toArray, List.set_cons_zero, List.set_cons_succ]
        refine wpAnyH_take (i := 18) (oi := ⟨some 36, _, _, _, _, _⟩) (v := ?_) rfl (by kernel_rfl) (by kernel_rfl) (by kernel_rfl) (fun _ _ _ h => h) (Or.inl ⟨by rfl, ?_⟩) hHeld ?_
        rotate_left
        · intro w' hSw
          go_simp
          first | done | rfl
        try simp only [Act.put, List.setIfInBounds_toArray, List.set_cons_zero, List.set_cons_succ]
        refine wpAnyH_take (i := 19) (oi := ⟨some 37, _, _, _, _, _⟩) (v := ?_) rfl (by kernel_rfl) (by kernel_rfl) (by kernel_rfl) (fun _ _ _ h => h) (Or.inl ⟨by rfl, ?_⟩) hHeld ?_
        rotate_left
        · intro w' hSw
          go_simp
          first | done | rfl
        try simp only [Act.put, List.setIfInBounds_toArray, List.set_cons_zero, List.set_cons_succ]
        refine wpAnyH_take (i := 20) (oi := ⟨some 38, _, _, _, _, _⟩) (v := ?_) rfl (by kernel_rfl) (by kernel_rfl) (by kernel_rfl) (fun _ _ _ h => h) (Or.inl ⟨by rfl, ?_⟩) hHeld ?_
        rotate_left
        · intro w' hSw
          have q0 := HF7.out w' hSw
          go_simp
          first | done | rfl
        try simp only [Act.put, List.setIfInBounds_toArray, List.set_cons_zero, List.set_cons_succ]
        refine wpAnyH_take (i := 21) (oi := ⟨some 39, _, _, _, _, _⟩) (v := ?_) rfl (by kernel_rfl) (by kernel_rfl) (by kernel_rfl) (fun _ _ _ h => h) (Or.inl ⟨by rfl, ?_⟩) hHeld ?_
        rotate_left
        · intro w' hSw
          go_simp
          first | done | rfl
        try simp only [Act.put, List.setIfInBounds_toArray, List.set_cons_zero, List.set_cons_succ]
        refine wpAnyH_take (i := 22) (oi := ⟨some 40, _, _, _, _, _⟩) (v := ?_) rfl (by kernel_rfl) (by kernel_rfl) (by kernel_rfl) (fun _ _ _ h => h) (Or.inl ⟨by rfl, ?_⟩) hHeld ?_
        rotate_left
        · intro w' hSw
          go_simp
          first | done | rfl
        try simp only [Act.put, List.setIfInBounds_toArray, List.set_cons_zero, List.set_cons_succ]
        refine wpAnyH_done (by kernel_rfl) ?_ _
        go_wp2_with fail
        go_meet
        exact ⟨rfl, Lib.hid hq10⟩
  case rest =>
    obtain ⟨rfl, HKc⟩ := hcut
    have HK5 := Lib.hid (HK4.out.trans HKc.out (fun _ _ h => h))
    have tk0 : True := trivial
    have tk1 : True := trivial
    have tk2 : True := trivial
    have tk3 : True := trivial
    have tk4 : True := trivial
    have tk5 : True := trivial
    have tk6 : True := trivial
    have tn0 : True := trivial
    have tn1 : True := trivial
    have tn2 : True := trivial
    have tn3 : True := trivial
    have tn4 : True := trivial
    have tzWrite : True := trivial
    have hfld : ∀ W, (Instr.field 49 (.agg #[.int .u32 0, .int .u32 0, .int .u32 0, .int .u32 0, .int .u32 0, .int .u32 0, .int .u32 0, .int .u32 0, .int .u64 0, .slice none 0 0]) 2).run Tryd.prog W = .ok (.slice none 0 0) W := fun W => by kernel_rfl
    have tzW1 : True := trivial
    have tzC1 : True := trivial
    have tzLen : True := trivial
    go_wp2_with (first
      | (go_at_call 16; have _t := tk0; clear tk0; refine (HP0.out _).mono ?_; rintro e wA ⟨rfl, hbA, hkA⟩; have HKA := Lib.hid (HK5.out.trans hkA (fun _ _ h => h)); have HBA := Lib.hid hbA; clear hbA hkA)
      | (go_at_call 16; have _t := tk1; clear tk1; refine (HP55.out _).mono ?_; rintro e wB ⟨rfl, hbB, hkB⟩; have HKB := Lib.hid (HKA.out.trans hkB (fun _ _ h => h)); have HBB := Lib.hid hbB; have HBA2 := Lib.hid (hkB.blk HBA.out (fun h => h)); clear hbB hkB)
      | (go_at_call 16; have _t := tk2; clear tk2; refine (HP56.out _).mono ?_; rintro e wC ⟨rfl, hbC, hkC⟩; have HKC := Lib.hid (HKB.out.trans hkC (fun _ _ h => h)); have q1 : wC.cell? ⟨wc.heap.size, 0, none⟩ = some (.int .u8 128) := by { rw [(hkC.blk HBA2.out (fun h => h)).cell]; kernel_rfl }; have q2 : wC.cell? ⟨wA.heap.size, 7, none⟩ = some (.int .u8 1) := by { rw [(hkC.blk HBB.out (fun h => h)).cell]; kernel_rfl }; have q3 : wC.cell? ⟨wA.heap.size, 8, none⟩ = some (.int .u8 184) := by { rw [(hkC.blk HBB.out (fun h => h)).cell]; kernel_rfl }; clear hbC hkC)
      | (go_at_call 16; have _t := tk3; clear tk3; refine (HPL.out _).mono ?_; rintro e wD ⟨rfl, rfl⟩)
      | (go_at_call 17; have _t := tn0; clear tn0; refine (number_errno _ 3 rfl).mono ?_; rintro e wD ⟨rfl, rfl⟩)
      | (go_at_call 17; have _t := tn1; clear tn1; refine (number_errno _ 1 rfl).mono ?_; rintro e wD ⟨rfl, rfl⟩)
      | (go_at_call 17; have _t := tn2; clear tn2; refine (number_errno _ 2 rfl).mono ?_; rintro e wD ⟨rfl, rfl⟩)
      | (go_at_call 17; have _t := tn3; clear tn3; refine (number_errno _ 3 rfl).mono ?_; rintro e wD ⟨rfl, rfl⟩)
      | (go_at_call 17; have _t := tn4; clear tn4; refine (number_errno _ 3 rfl).mono ?_; rintro e wD ⟨rfl, rfl⟩)
      | (go_at_call 22; have _t := tzWrite; clear tzWrite; refine (Write_nil _ _ _ _).mono ?_; rintro e wD ⟨rfl, rfl⟩)
      | (go_at_call 23; refine (Sum_nil _).mono ?_; rintro e wE ⟨rfl, hkE⟩; have HKE := Lib.hid ((HKC.out.alloc _).trans hkE (fun _ _ h => h)); clear hkE)
      | (go_at_call 26; have _t := tzLen; clear tzLen; refine (Len_nil _).mono ?_; rintro e wD ⟨rfl, rfl⟩)
      | (go_at_call 25; refine (Copy_nil _).mono ?_; rintro e wD ⟨rfl, rfl⟩)
      | (go_at_call 24; refine (HMN.out _).mono ?_; rintro e wF ⟨rfl, hkF⟩; have HKF := Lib.hid (HKE.out.trans hkF (fun _ _ h => h)); clear hkF)
      | (go_at_call 32; refine (Reset_nil _).mono ?_; rintro e wD ⟨rfl, rfl⟩)
      | ((with_reducible show wpList _ _ _ (⟨some 141, _, _, _, _, _⟩ :: _) _ _); refine wpList_makeN _ rfl _ _ 26 rfl 5 (.int .u8 0) 1 Tryd.underlying26 info5 rfl .i64 .i64 64 64 64 rfl rfl rfl rfl (by omega) (by simp only [maxLen]; omega) ?_; intro wH _ hgH; have HKH := Lib.hid (HKF.out.trans (Keeps.of_grown hgH) (fun g _ hb => by simp at hb)); clear hgH)
      | (go_at_call 30; have _t := tk4; clear tk4; refine (HRA.out _ _).mono ?_; rintro e wI ⟨rfl, hkI⟩; have HKI := Lib.hid (HKH.out.trans hkI (fun _ _ h => h)); clear hkI)
      | (go_at_call 30; have _t := tk5; clear tk5; refine (HRL.out _).mono ?_; rintro e wJ ⟨rfl, hkJ⟩; have HKJ := Lib.hid (HKI.out.trans hkJ (fun _ _ h => h)); clear hkJ)
      | (go_at_call 30; have _t := tk6; clear tk6; refine (HRO.out _).mono ?_; rintro e wK ⟨q, u, rfl, hh, hkK, hfK⟩; have HO := Lib.hid (show Own w wK q u zeroS 36028797018963967 [] from ⟨hh, HKJ.out.trans hkK (fun _ _ h => h), fun i hi => Nat.le_trans HKJ.out.size (hfK i hi)⟩); clear hh hkK hfK)
      | ((with_reducible show wpList _ _ _ (⟨some 173, _, _, _, _, _⟩ :: _) _ _); refine wpList_makeN _ rfl _ _ 26 rfl 5 (.int .u8 0) 1 Tryd.underlying26 info5 rfl .i64 .i64 63 63 63 rfl rfl rfl rfl (by omega) (by simp only [maxLen]; omega) ?_; intro wL hoL hgL; have hkL : Keeps (fun _ => False) wK wL := (Keeps.refl _ _).trans (Keeps.of_grown hgL) (fun g _ hb => by simp at hb); have hot : Out (Foot q u) (some ⟨wK.heap.size, 0, none⟩) 63 := (fun _ ad e hf => by { injection e with e; subst e; exact absurd (HO.out.1.lt _ hf) (by simp) }); have hw1 := own_write1 w HGG.out wL q u zeroS 36028797018963967 [] (HO.out.keep hkL) (some ⟨wK.heap.size, 0, none⟩) 63 63 (List.replicate 63 0) (by simp) (Rd.of_own hoL) hot (fun x hx => by { have := List.eq_of_mem_replicate hx; omega }) (by omega) (by omega) (by simp); have HW1 := Lib.hid hw1; clear hw1 hot hkL hoL hgL)
      | (go_at_call 22; have _t := tzW1; clear tzW1; refine HW1.out.mono ?_; rintro e wM ⟨rfl, u2, ho2, _, _⟩; have HO2 := Lib.hid ho2; have hlg := write_last w wM q u2 ho2; have HW2 := Lib.hid hlg; clear ho2 hlg)
      | (go_at_call 22; refine HW2.out.mono ?_; rintro e wN ⟨rfl, ho3, hl3⟩; have HO3 := Lib.hid ho3; have HL3 := Lib.hid hl3; clear ho3 hl3)
      | (go_at_call 26; refine HL3.out.mono ?_; rintro e wO ⟨rfl, k3, rfl⟩)
      | (go_at_call 13; have _t := tzC1; clear tzC1; refine (HC1.out _).mono ?_; rintro e wP ⟨rfl, hkP⟩; have HKP := Lib.hid ((HO3.out.drewN k3).trans hkP (fun _ _ h => h)); clear hkP)
      | (go_at_call 13; refine (HC2.out _).mono ?_; rintro e wQ ⟨rfl, hkQ⟩; have HKQ := Lib.hid (HKP.out.trans hkQ (fun _ _ h => h)); clear hkQ))
    go_ret
    exact ⟨rfl, HKQ.out⟩
end Go.Proofs.YtgblndddcbfdiaaDoor
