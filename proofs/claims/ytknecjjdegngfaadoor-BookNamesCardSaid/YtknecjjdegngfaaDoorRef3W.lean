/-
  WALKS: primes, Constants, First of the reference.
-/
import Derived.Test.YtknecjjdegngfaaDoorRef2W
import Derived.Test.YtknecjjdegngfaaDoorOpen
namespace Go.Proofs.YtknecjjdegngfaaDoor
open Go Go.RowKit Go.Sha Go.Aff

/-- While an array (block M, type t) is filled; N: the result's block (of type t too). -/
def FillRel (w : World) (t : TypeId) (z : Value) (N M : Nat) (l : List Value) (wr : World) : Prop :=
  Blk wr M t l ∧ Blk wr N t (List.replicate l.length z) ∧ Keeps (fun _ => False) w wr ∧ w.heap.size ≤ N ∧ w.heap.size ≤ M ∧ N ≠ M
theorem FillRel.set {w : World} {t : TypeId} {z : Value} {N M : Nat} {l : List Value} {wr : World} (h : FillRel w t z N M l wr) (i : Nat) (v : Value) : FillRel w t z N M (l.set i v) (wr.setCell ⟨M, i, none⟩ v) :=
  ⟨h.1.set_ i v, by rw [List.length_set]; exact h.2.1.far h.2.2.2.2.2 v, h.2.2.1.setCell (.inr h.2.2.2.2.1) v, h.2.2.2⟩
theorem vi_set (k : IntKind) (l : List Int) (i : Nat) (x : Int) : (vi k l).set i (.int k x) = vi k (l.set i x) := by simp [vi]
theorem vi_length (k : IntKind) (l : List Int) : (vi k l).length = l.length := by simp [vi]
theorem vi_one (k : IntKind) (l : List Int) : ∀ u ∈ vi k l, u.oneCell' = true := by intro u hu; obtain ⟨x, _, rfl⟩ := List.mem_map.1 hu; rfl

/-- The first k numbers of a list, noughts behind. -/
def fillL (L : List Int) (k : Nat) : List Int := L.take k ++ List.replicate (L.length - k) 0
theorem fillL_length (L : List Int) (k : Nat) (h : k ≤ L.length) : (fillL L k).length = L.length := by simp [fillL]; omega
theorem fillL_zero (L : List Int) : fillL L 0 = List.replicate L.length 0 := by simp [fillL]
theorem fillL_all (L : List Int) : fillL L L.length = L := by simp [fillL]
theorem fillL_set (L : List Int) (k : Nat) (h : k < L.length) : (fillL L k).set k (L.getD k 0) = fillL L (k + 1) := by
  unfold fillL
  rw [List.set_append_right _ _ (by simp; omega), List.take_succ_eq_append_getElem h, List.append_assoc]
  congr 1
  rw [List.length_take, Nat.min_eq_left (Nat.le_of_lt h), Nat.sub_self]
  obtain ⟨m, hm⟩ : ∃ m, L.length - k = m + 1 := ⟨L.length - k - 1, by omega⟩
  rw [hm, List.replicate_succ, List.set_cons_zero, show L.length - (k + 1) = m by omega]
  simp [h]
theorem getD_map (f : Int → Int) (l : List Int) (k : Nat) (h : k < l.length) : (l.map f).getD k 0 = f (l.getD k 0) := by simp [h]
theorem primesL_length : primesL.length = 64 := rfl
theorem root_cube (k : Nat) (h : k < 64) : rootF (primesL.getD k 0) true = K.getD k 0 :=
  (getD_map (fun p => rootF p true) primesL k (by rw [primesL_length]; exact h)).symm.trans (by rw [roots_cube])
theorem root_square (k : Nat) (h : k < 8) : rootF (primesL.getD k 0) false = firstL.getD k 0 := by
  have e : (primesL.take 8).getD k 0 = primesL.getD k 0 := by simp [List.getD, h]
  rw [← e]
  exact (getD_map (fun p => rootF p false) (primesL.take 8) k (by rw [List.length_take, primesL_length]; omega)).symm.trans (by rw [roots_square])

set_option maxHeartbeats 1000000 in
set_option maxRecDepth 100000 in
theorem primes_any (w : World) : Calls Tryd.prog 94 #[] w fun e w' => e = .returned (.agg (vi .u64 primesL).toArray) ∧ Keeps (fun _ => False) w w' := by
  obtain ⟨PL, hPL⟩ : ∃ PL, PL = primesL := ⟨_, rfl⟩
  have H0 : Hid (outerL 310 0 2 (List.replicate 64 0) = some PL) := by rw [hPL]; exact outer_all
  rw [← hPL]
  clear hPL
  go_enter Tryd.func94, Tryd.ntmps94
  go_wp2
  have R0 : FillRel w 146 (.int .u64 0) w.heap.size (w.heap.size + 1) (vi .u64 (List.replicate 64 0)) ((w.alloc (.cells (List.replicate 64 (Value.int .u64 0)).toArray 146)).alloc (.cells (List.replicate 64 (Value.int .u64 0)).toArray 146)) := by
    have h2 := Blk.new (w.alloc (.cells (List.replicate 64 (Value.int .u64 0)).toArray 146)) 146 (List.replicate 64 (Value.int .u64 0))
    rw [World.size_alloc] at h2
    exact ⟨h2, (Blk.new w 146 (List.replicate 64 (Value.int .u64 0))).alloc _, ((Keeps.refl _ _).alloc _).alloc _, Nat.le_refl _, by omega, by omega⟩
  have HR0 := Lib.hid R0
  clear R0
  go_loopw [2, 3, 4, 5] (fun n p _ _ wr => ∃ (f nn : Nat) (pp : Int) (l : List Int), n = .int .i64 nn ∧ p = .int .u64 pp ∧ pp + f = 312 ∧ 2 ≤ pp ∧ nn ≤ 64 ∧ l.length = 64 ∧ outerL f nn pp l = some PL ∧ FillRel w 146 (.int .u64 0) w.heap.size (w.heap.size + 1) (vi .u64 l) wr) (fun _ p _ _ _ => (312 - intOf p).toNat)
  case atStart => exact ⟨310, 0, 2, _, rfl, rfl, by omega, by omega, by omega, by simp, H0.out, HR0.out⟩
  case round =>
    clear H0 HR0
    obtain ⟨f, nn, pp, l, rfl, rfl, hpf, hp2, hnn, hll, ho, hF⟩ := hrel
    have HLL := Lib.hid hll
    have HO := Lib.hid ho
    have HF := Lib.hid hF
    clear hll ho
    by_cases hlt : nn < 64
    · have hf0 : 0 < f := by
        rcases f with _ | f
        · exact absurd hlt (outer_fuel HO.out)
        · omega
      obtain ⟨g, rfl⟩ : ∃ g, f = g + 1 := ⟨f - 1, by omega⟩
      have hcell : ∃ u, wr.cell? ⟨w.heap.size + 1, nn, none⟩ = some u := by
        rw [hF.1.cell]
        exact ⟨_, List.getElem?_eq_getElem (by rw [vi_length, HLL.out]; exact hlt)⟩
      obtain ⟨u, hcell⟩ := hcell
      have hfz := hF.1.frozen nn
      clear hF
      have HB : Hid (innerL pp 18 2 true = isPr pp) := rfl
      obtain ⟨B, hB⟩ : ∃ B, B = isPr pp := ⟨_, rfl⟩
      rw [← hB] at HB
      have HBB := Lib.hid hB
      clear hB
      go_wp2
      go_loop [4, 5] (fun is d => ∃ (f2 : Nat) (dd : Int) (b : Bool), d = .int .u64 dd ∧ is = .bool b ∧ dd + f2 = 20 ∧ 2 ≤ dd ∧ innerL pp f2 dd b = B) (fun _ d => (20 - intOf d).toNat)
      case atStart => exact ⟨18, 2, true, rfl, rfl, by omega, by omega, HB.out⟩
      case round =>
        clear HB
        obtain ⟨f2, dd, b, rfl, rfl, hdf, hd2, hi⟩ := hrel
        have hdd0 : 0 ≤ dd * dd := Int.mul_nonneg (by omega) (by omega)
        have hdd1 : dd * dd ≤ 400 := by
          have := Int.mul_le_mul (show dd ≤ 20 by omega) (show dd ≤ 20 by omega) (by omega) (by omega)
          omega
        have hdd2 : 18 ≤ dd → 324 ≤ dd * dd := by
          intro h18
          have := Int.mul_le_mul h18 h18 (by omega) (by omega)
          omega
        have HI := Lib.hid hi
        clear hi
        by_cases hgo : dd * dd ≤ pp ∧ b = true
        · obtain ⟨hle, rfl⟩ := hgo
          have hd18 : dd < 18 := by
            rcases Decidable.em (dd < 18) with h | h
            · exact h
            · have := hdd2 (by omega); omega
          obtain ⟨g2, rfl⟩ : ∃ g2, f2 = g2 + 1 := ⟨f2 - 1, by omega⟩
          clear hdd2
          go_wp2
          go_round
          case rel => exact ⟨g2, dd + 1, _, rfl, rfl, by omega, by omega, by rw [← HI.out, inner_go hle]⟩
          case measure => simp [intOf]; omega
        · have hb : b = B := by
            rw [← HI.out]
            by_cases hle : dd * dd ≤ pp
            · have : b = false := by cases b; rfl; exact absurd ⟨hle, rfl⟩ hgo
              subst this
              exact inner_false.symm
            · exact (inner_stop hle).symm
          have hno : dd * dd ≤ pp → b = false := fun hle => by cases b; rfl; exact absurd ⟨hle, rfl⟩ hgo
          have HNO := Lib.hid hno
          clear hgo hdd2 hno HI
          have HBe := Lib.hid hb
          clear hb
          by_cases hle : dd * dd ≤ pp
          · obtain rfl := HNO.out hle
            go_wp2
            go_roundw
            case rel => exact ⟨g, nn, pp + 1, l, rfl, rfl, by omega, by omega, by omega, HLL.out, by rw [← HO.out, outer_no hlt (by rw [← HBB.out, ← HBe.out])], HF.out⟩
            case measure => simp [intOf]; omega
          · cases b
            · go_wp2
              go_roundw
              case rel => exact ⟨g, nn, pp + 1, l, rfl, rfl, by omega, by omega, by omega, HLL.out, by rw [← HO.out, outer_no hlt (by rw [← HBB.out, ← HBe.out])], HF.out⟩
              case measure => simp [intOf]; omega
            · go_wp2
              go_roundw
              case rel => exact ⟨g, nn + 1, pp + 1, l.set nn pp, by go_num, rfl, by omega, by omega, by omega, by rw [List.length_set]; exact HLL.out, by rw [← HO.out, outer_yes hlt (by rw [← HBB.out, ← HBe.out])], by rw [← vi_set]; exact HF.out.set nn _⟩
              case measure => simp [intOf]; omega
    · have hl : l = PL := by
        have := HO.out
        rw [outer_end hlt] at this
        exact Option.some.inj this
      subst hl
      obtain ⟨h1, h2, h3, h4, h5, h6⟩ := hF
      have hlen := HLL.out
      rw [vi_length, hlen] at h2
      have HLEN := Lib.hid hlen
      clear hlen
      go_wp2_with (first | ((with_reducible show wpList _ _ _ (⟨some _, Op.load 146 _, _, _, _, _⟩ :: _) _ _); refine wpList_load_whole rfl 146 _ rfl _ rfl h1 Tryd.underlying146 rfl (by rw [vi_length, HLEN.out]; kernel_rfl) ?_) | ((with_reducible show wpList _ _ _ (⟨none, Op.store 146 _ _, _, _, _, _⟩ :: _) _ _); refine wpList_store_whole rfl 146 _ _ rfl (vi .u64 l) rfl rfl h2 (by rw [vi_length, HLEN.out]; simp) (by rw [vi_length, HLEN.out]; kernel_rfl) (vi_one _ _) ?_))
      refine bodyPost_ret (results_blk rfl _ _ rfl (h2.setRow (vi .u64 l)) Tryd.underlying146 rfl (by rw [vi_length, HLEN.out]; kernel_rfl)) rfl ⟨rfl, h3.setRow (.inr h4) _⟩

set_option maxHeartbeats 1000000 in
set_option maxRecDepth 100000 in
theorem constants_any (w : World) : Calls Tryd.prog 96 #[] w fun e w' => e = .returned (.agg (vi .u32 K).toArray) ∧ Keeps (fun _ => False) w w' := by
  obtain ⟨L, hL⟩ : ∃ L, L = K := ⟨_, rfl⟩
  obtain ⟨PL, hPL⟩ : ∃ PL, PL = primesL := ⟨_, rfl⟩
  have hp := fun wx => primes_any wx
  have hlen : L.length = 64 := by rw [hL]; rfl
  have hpl : PL.length = 64 := by rw [hPL]; rfl
  have hr : ∀ k, k < 64 → rootF (PL.getD k 0) true = L.getD k 0 := fun k hk => by rw [hPL, hL]; exact root_cube k hk
  rw [← hL]
  rw [← hPL] at hp
  have HP := Lib.hid hp
  have HLEN := Lib.hid hlen
  have HPL := Lib.hid hpl
  have HR := Lib.hid hr
  clear hL hPL hp hlen hpl hr
  go_enter Tryd.func96, Tryd.ntmps96
  go_wp2_with (first
    | (go_at_call 94; refine (HP.out _).mono ?_; rintro e w1 ⟨rfl, hk1⟩; have HK1 := Lib.hid hk1; clear hk1)
    | ((with_reducible show wpList _ _ _ (⟨none, Op.store 146 _ _, _, _, _, _⟩ :: _) _ _); refine wpList_store_whole rfl 146 _ _ rfl (vi .u64 PL) rfl rfl (Blk.new w1 146 (List.replicate 64 (Value.int .u64 0))) (by rw [vi_length, HPL.out]; simp) (by rw [vi_length, HPL.out]; kernel_rfl) (vi_one _ _) ?_))
  have R0 : FillRel w 144 (.int .u32 0) w.heap.size (w.heap.size + 1) (vi .u32 (fillL L 0)) ((w1.alloc (.cells (List.replicate 64 (Value.int .u64 0)).toArray 146)).setRow w1.heap.size (vi .u64 PL).toArray) := by
    have h2 := Blk.new (w.alloc (.cells (List.replicate 64 (Value.int .u32 0)).toArray 144)) 144 (List.replicate 64 (Value.int .u32 0))
    rw [World.size_alloc] at h2
    have h1 := (Blk.new w 144 (List.replicate 64 (Value.int .u32 0))).alloc (.cells (List.replicate 64 (Value.int .u32 0)).toArray 144)
    have k1 := HK1.out.blk h1 (fun h => h)
    have k2 := HK1.out.blk h2 (fun h => h)
    have l1 := k1.lt
    have l2 := k2.lt
    have e : vi .u32 (fillL L 0) = List.replicate 64 (Value.int .u32 0) := by rw [fillL_zero, HLEN.out]; simp [vi]
    rw [e]
    refine ⟨(k2.alloc _).setRow_far (by omega) _, ?_, ?_, by omega, by omega, by omega⟩
    · rw [List.length_replicate]
      exact (k1.alloc _).setRow_far (by omega) _
    · exact (((((Keeps.refl (fun _ => False) w).alloc _).alloc _).trans HK1.out (fun _ _ h => h)).alloc _).setRow (.inr (by omega)) _
  have P0 : Blk ((w1.alloc (.cells (List.replicate 64 (Value.int .u64 0)).toArray 146)).setRow w1.heap.size (vi .u64 PL).toArray) w1.heap.size 146 (vi .u64 PL) := (Blk.new w1 _ _).setRow _
  have hM : w.heap.size + 1 < w1.heap.size := by
    have := HK1.out.size
    simp at this
    omega
  have HR0 := Lib.hid R0
  have HP0 := Lib.hid P0
  clear R0 P0
  go_loopw [3] (fun i wr => ∃ k : Nat, k ≤ 64 ∧ i = .int .i64 k ∧ FillRel w 144 (.int .u32 0) w.heap.size (w.heap.size + 1) (vi .u32 (fillL L k)) wr ∧ Blk wr w1.heap.size 146 (vi .u64 PL)) (fun i _ => 64 - (intOf i).toNat)
  case atStart => exact ⟨0, by omega, rfl, HR0.out, HP0.out⟩
  case round =>
    clear HR0 HP0
    obtain ⟨k, hk, rfl, hF, hB⟩ := hrel
    by_cases hlt : k < 64
    · have hcp : wr.cell? ⟨w1.heap.size, k, none⟩ = some (.int .u64 (PL.getD k 0)) := by
        rw [hB.cell]
        have h64 : k < PL.length := by rw [HPL.out]; omega
        simp [vi, h64]
      have hcell : ∃ u, wr.cell? ⟨w.heap.size + 1, k, none⟩ = some u := by
        rw [hF.1.cell]
        exact ⟨_, List.getElem?_eq_getElem (by rw [vi_length, fillL_length _ _ (by rw [HLEN.out]; exact hk), HLEN.out]; exact hlt)⟩
      obtain ⟨u, hcell⟩ := hcell
      have hfz := hF.1.frozen k
      have hrt := fun wx => root_any wx (PL.getD k 0) true
      simp only [HR.out k hlt] at hrt
      obtain ⟨pk, hpk⟩ : ∃ pk, pk = PL.getD k 0 := ⟨_, rfl⟩
      obtain ⟨ck, hck⟩ : ∃ ck, ck = L.getD k 0 := ⟨_, rfl⟩
      simp only [← hpk, ← hck] at hrt hcp
      have HRT := Lib.hid hrt
      have HF := Lib.hid hF
      have HB := Lib.hid hB
      have HCK := Lib.hid hck
      clear hrt hF hB hck hpk
      go_wp2_with (go_at_call 95; refine (HRT.out _).mono ?_; rintro e w2 ⟨rfl, rfl⟩)
      go_roundw
      case rel =>
        refine ⟨k + 1, by omega, by go_num, ?_, HB.out.far (by show w1.heap.size ≠ w.heap.size + 1; omega) _⟩
        have := HF.out.set k (.int .u32 ck)
        rw [vi_set, HCK.out, fillL_set L k (by rw [HLEN.out]; exact hlt), ← HCK.out] at this
        exact this
      case measure => simp [intOf]; omega
    · obtain rfl : k = 64 := by omega
      obtain ⟨h1, h2, h3, h4, h5, h6⟩ := hF
      have e1 : fillL L 64 = L := by
        have := fillL_all L
        rwa [HLEN.out] at this
      rw [e1] at h1 h2
      rw [vi_length, HLEN.out] at h2
      clear e1
      go_wp2_with (first | ((with_reducible show wpList _ _ _ (⟨some _, Op.load 144 _, _, _, _, _⟩ :: _) _ _); refine wpList_load_whole rfl 144 _ rfl _ rfl h1 Tryd.underlying144 rfl (by rw [vi_length, HLEN.out]; kernel_rfl) ?_) | ((with_reducible show wpList _ _ _ (⟨none, Op.store 144 _ _, _, _, _, _⟩ :: _) _ _); refine wpList_store_whole rfl 144 _ _ rfl (vi .u32 L) rfl rfl h2 (by rw [vi_length, HLEN.out]; simp) (by rw [vi_length, HLEN.out]; kernel_rfl) (vi_one _ _) ?_))
      refine bodyPost_ret (results_blk rfl _ _ rfl (h2.setRow (vi .u32 L)) Tryd.underlying144 rfl (by rw [vi_length, HLEN.out]; kernel_rfl)) rfl ⟨rfl, h3.setRow (.inr h4) _⟩

set_option maxHeartbeats 1000000 in
set_option maxRecDepth 100000 in
theorem refFirst_any (w : World) : Calls Tryd.prog 88 #[] w fun e w' => e = .returned (.agg (vi .u32 firstL).toArray) ∧ Keeps (fun _ => False) w w' := by
  obtain ⟨L, hL⟩ : ∃ L, L = firstL := ⟨_, rfl⟩
  obtain ⟨PL, hPL⟩ : ∃ PL, PL = primesL := ⟨_, rfl⟩
  have hp := fun wx => primes_any wx
  have hlen : L.length = 8 := by rw [hL]; rfl
  have hpl : PL.length = 64 := by rw [hPL]; rfl
  have hr : ∀ k, k < 8 → rootF (PL.getD k 0) false = L.getD k 0 := fun k hk => by rw [hPL, hL]; exact root_square k hk
  rw [← hL]
  rw [← hPL] at hp
  have HP := Lib.hid hp
  have HLEN := Lib.hid hlen
  have HPL := Lib.hid hpl
  have HR := Lib.hid hr
  clear hL hPL hp hlen hpl hr
  go_enter Tryd.func88, Tryd.ntmps88
  go_wp2_with (first
    | (go_at_call 94; refine (HP.out _).mono ?_; rintro e w1 ⟨rfl, hk1⟩; have HK1 := Lib.hid hk1; clear hk1)
    | ((with_reducible show wpList _ _ _ (⟨none, Op.store 146 _ _, _, _, _, _⟩ :: _) _ _); refine wpList_store_whole rfl 146 _ _ rfl (vi .u64 PL) rfl rfl (Blk.new w1 146 (List.replicate 64 (Value.int .u64 0))) (by rw [vi_length, HPL.out]; simp) (by rw [vi_length, HPL.out]; kernel_rfl) (vi_one _ _) ?_))
  have R0 : FillRel w 114 (.int .u32 0) w.heap.size (w.heap.size + 1) (vi .u32 (fillL L 0)) ((w1.alloc (.cells (List.replicate 64 (Value.int .u64 0)).toArray 146)).setRow w1.heap.size (vi .u64 PL).toArray) := by
    have h2 := Blk.new (w.alloc (.cells (List.replicate 8 (Value.int .u32 0)).toArray 114)) 114 (List.replicate 8 (Value.int .u32 0))
    rw [World.size_alloc] at h2
    have h1 := (Blk.new w 114 (List.replicate 8 (Value.int .u32 0))).alloc (.cells (List.replicate 8 (Value.int .u32 0)).toArray 114)
    have k1 := HK1.out.blk h1 (fun h => h)
    have k2 := HK1.out.blk h2 (fun h => h)
    have l1 := k1.lt
    have l2 := k2.lt
    have e : vi .u32 (fillL L 0) = List.replicate 8 (Value.int .u32 0) := by rw [fillL_zero, HLEN.out]; simp [vi]
    rw [e]
    refine ⟨(k2.alloc _).setRow_far (by omega) _, ?_, ?_, by omega, by omega, by omega⟩
    · rw [List.length_replicate]
      exact (k1.alloc _).setRow_far (by omega) _
    · exact (((((Keeps.refl (fun _ => False) w).alloc _).alloc _).trans HK1.out (fun _ _ h => h)).alloc _).setRow (.inr (by omega)) _
  have P0 : Blk ((w1.alloc (.cells (List.replicate 64 (Value.int .u64 0)).toArray 146)).setRow w1.heap.size (vi .u64 PL).toArray) w1.heap.size 146 (vi .u64 PL) := (Blk.new w1 _ _).setRow _
  have hM : w.heap.size + 1 < w1.heap.size := by
    have := HK1.out.size
    simp at this
    omega
  have HR0 := Lib.hid R0
  have HP0 := Lib.hid P0
  clear R0 P0
  go_loopw [3] (fun i wr => ∃ k : Nat, k ≤ 8 ∧ i = .int .i64 k ∧ FillRel w 114 (.int .u32 0) w.heap.size (w.heap.size + 1) (vi .u32 (fillL L k)) wr ∧ Blk wr w1.heap.size 146 (vi .u64 PL)) (fun i _ => 8 - (intOf i).toNat)
  case atStart => exact ⟨0, by omega, rfl, HR0.out, HP0.out⟩
  case round =>
    clear HR0 HP0
    obtain ⟨k, hk, rfl, hF, hB⟩ := hrel
    by_cases hlt : k < 8
    · have hcp : wr.cell? ⟨w1.heap.size, k, none⟩ = some (.int .u64 (PL.getD k 0)) := by
        rw [hB.cell]
        have h64 : k < PL.length := by rw [HPL.out]; omega
        simp [vi, h64]
      have hcell : ∃ u, wr.cell? ⟨w.heap.size + 1, k, none⟩ = some u := by
        rw [hF.1.cell]
        exact ⟨_, List.getElem?_eq_getElem (by rw [vi_length, fillL_length _ _ (by rw [HLEN.out]; exact hk), HLEN.out]; exact hlt)⟩
      obtain ⟨u, hcell⟩ := hcell
      have hfz := hF.1.frozen k
      have hrt := fun wx => root_any wx (PL.getD k 0) false
      simp only [HR.out k hlt] at hrt
      obtain ⟨pk, hpk⟩ : ∃ pk, pk = PL.getD k 0 := ⟨_, rfl⟩
      obtain ⟨ck, hck⟩ : ∃ ck, ck = L.getD k 0 := ⟨_, rfl⟩
      simp only [← hpk, ← hck] at hrt hcp
      have HRT := Lib.hid hrt
      have HF := Lib.hid hF
      have HB := Lib.hid hB
      have HCK := Lib.hid hck
      clear hrt hF hB hck hpk
      go_wp2_with (go_at_call 95; refine (HRT.out _).mono ?_; rintro e w2 ⟨rfl, rfl⟩)
      go_roundw
      case rel =>
        refine ⟨k + 1, by omega, by go_num, ?_, HB.out.far (by show w1.heap.size ≠ w.heap.size + 1; omega) _⟩
        have := HF.out.set k (.int .u32 ck)
        rw [vi_set, HCK.out, fillL_set L k (by rw [HLEN.out]; exact hlt), ← HCK.out] at this
        exact this
      case measure => simp [intOf]; omega
    · obtain rfl : k = 8 := by omega
      obtain ⟨h1, h2, h3, h4, h5, h6⟩ := hF
      have e1 : fillL L 8 = L := by
        have := fillL_all L
        rwa [HLEN.out] at this
      rw [e1] at h1 h2
      rw [vi_length, HLEN.out] at h2
      clear e1
      go_wp2_with (first | ((with_reducible show wpList _ _ _ (⟨some _, Op.load 114 _, _, _, _, _⟩ :: _) _ _); refine wpList_load_whole rfl 114 _ rfl _ rfl h1 Tryd.underlying114 rfl (by rw [vi_length, HLEN.out]; kernel_rfl) ?_) | ((with_reducible show wpList _ _ _ (⟨none, Op.store 114 _ _, _, _, _, _⟩ :: _) _ _); refine wpList_store_whole rfl 114 _ _ rfl (vi .u32 L) rfl rfl h2 (by rw [vi_length, HLEN.out]; simp) (by rw [vi_length, HLEN.out]; kernel_rfl) (vi_one _ _) ?_))
      refine bodyPost_ret (results_blk rfl _ _ rfl (h2.setRow (vi .u32 L)) Tryd.underlying114 rfl (by rw [vi_length, HLEN.out]; kernel_rfl)) rfl ⟨rfl, h3.setRow (.inr h4) _⟩
end Go.Proofs.YtknecjjdegngfaaDoor
