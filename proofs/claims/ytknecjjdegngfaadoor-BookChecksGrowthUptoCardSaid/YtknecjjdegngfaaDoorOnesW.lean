/-
  WALKS: math/bits.OnesCount; the reference's Many: how many one bits.
-/
import Derived.Test.YtknecjjdegngfaaDoorPopP
import Derived.Test.YtknecjjdegngfaaDoorBookW
import Derived.Laws.BitsAllLaws
set_option linter.unusedSimpArgs false
namespace Go.Aff
theorem and_u64 (x m : Nat) (hx : x < 18446744073709551616) (hm : m < 18446744073709551616) : bits .and .u64 (x : Int) (m : Int) = ((x &&& m : Nat) : Int) := by
  show IntKind.u64.wrap ((BitVec.ofInt 64 (x : Int) &&& BitVec.ofInt 64 (m : Int)).toNat : Int) = _
  rw [BitVec.toNat_and, ofInt_u64 x hx, ofInt_u64 m hm]
  have : x &&& m ≤ x := Nat.and_le_left
  exact IntWalk.u64_in _ (by omega)
theorem and_i64_127 (x : Nat) (hx : x < 9223372036854775808) : bits .and .i64 (x : Int) 127 = ((x % 128 : Nat) : Int) := by
  have e : ((2 : Int) ^ 63) = 9223372036854775808 := by decide
  have h := bits_mask .i64 63 (by decide) (fun n h0 h1 => by rw [e] at h1; exact IntWalk.i64_in _ (by omega)) 7 (by decide) (x : Int) (by omega) (by rw [e]; omega)
  have e2 : ((2 : Int) ^ 7 - 1) = 127 := by decide
  rw [e2] at h
  rw [h]
  omega
end Go.Aff
namespace Go.Proofs.YtknecjjdegngfaaDoor
open Go Go.RowKit Go.Sha Go.Aff
set_option maxRecDepth 100000 in
set_option maxHeartbeats 4000000 in
theorem ones64_any (w : World) (x : Nat) (hx : x < 2 ^ 64) : Calls Tryd.prog 78 #[.int .u64 x] w fun e w' => e = .returned (.int .i64 (pc x : Nat)) ∧ w' = w := by
  have hx' : x < 18446744073709551616 := hx
  obtain ⟨A, hA⟩ : ∃ A, A = x / 2 &&& 6148914691236517205 := ⟨_, rfl⟩
  obtain ⟨B, hB⟩ : ∃ B, B = x &&& 6148914691236517205 := ⟨_, rfl⟩
  obtain ⟨X, hX⟩ : ∃ X, X = A + B := ⟨_, rfl⟩
  obtain ⟨C, hC⟩ : ∃ C, C = X / 4 &&& 3689348814741910323 := ⟨_, rfl⟩
  obtain ⟨D, hD⟩ : ∃ D, D = X &&& 3689348814741910323 := ⟨_, rfl⟩
  obtain ⟨Y, hY⟩ : ∃ Y, Y = C + D := ⟨_, rfl⟩
  obtain ⟨Z, hZ⟩ : ∃ Z, Z = Y / 16 + Y := ⟨_, rfl⟩
  obtain ⟨U, hU⟩ : ∃ U, U = Z &&& 1085102592571150095 := ⟨_, rfl⟩
  have lA : A ≤ 6148914691236517205 := by rw [hA]; exact Nat.and_le_right
  have lB : B ≤ 6148914691236517205 := by rw [hB]; exact Nat.and_le_right
  have lC : C ≤ 3689348814741910323 := by rw [hC]; exact Nat.and_le_right
  have lD : D ≤ 3689348814741910323 := by rw [hD]; exact Nat.and_le_right
  have lU : U ≤ 1085102592571150095 := by rw [hU]; exact Nat.and_le_right
  have lX : X ≤ 12297829382473034410 := by omega
  have lY : Y ≤ 7378697629483820646 := by omega
  have lZ : Z ≤ 9223372036854775807 := by omega
  have hs : U = swar x := by rw [hU, hZ, hY, hC, hD, hX, hA, hB]; rfl
  obtain ⟨l1, l2, l3, hend⟩ := swar_end x hx U hs
  obtain ⟨V1, hV1⟩ : ∃ V1, V1 = U + U / 256 := ⟨_, rfl⟩
  rw [← hV1] at l1 l2 l3 hend
  obtain ⟨V2, hV2⟩ : ∃ V2, V2 = V1 + V1 / 65536 := ⟨_, rfl⟩
  rw [← hV2] at l2 l3 hend
  obtain ⟨V3, hV3⟩ : ∃ V3, V3 = V2 + V2 / 4294967296 := ⟨_, rfl⟩
  rw [← hV3] at l3 hend
  have a1 : bits .and .u64 ((x : Int) / 2) 6148914691236517205 = (A : Int) := by rw [hA]; exact and_u64 (x / 2) 6148914691236517205 (by omega) (by omega)
  have a2 : bits .and .u64 (x : Int) 6148914691236517205 = (B : Int) := by rw [hB]; exact and_u64 x 6148914691236517205 hx' (by omega)
  have a3 : IntKind.u64.wrap ((A : Int) + (B : Int)) = (X : Int) := by
    have e : (X : Int) = (A : Int) + (B : Int) := by omega
    rw [← e]
    exact IntWalk.u64_in _ (by omega)
  have a4 : bits .and .u64 ((X : Int) / 4) 3689348814741910323 = (C : Int) := by rw [hC]; exact and_u64 (X / 4) 3689348814741910323 (by omega) (by omega)
  have a5 : bits .and .u64 (X : Int) 3689348814741910323 = (D : Int) := by rw [hD]; exact and_u64 X 3689348814741910323 (by omega) (by omega)
  have a6 : IntKind.u64.wrap ((C : Int) + (D : Int)) = (Y : Int) := by
    have e : (Y : Int) = (C : Int) + (D : Int) := by omega
    rw [← e]
    exact IntWalk.u64_in _ (by omega)
  have a7 : IntKind.u64.wrap ((Y : Int) / 16 + (Y : Int)) = (Z : Int) := by
    have e : (Z : Int) = (Y : Int) / 16 + (Y : Int) := by omega
    rw [← e]
    exact IntWalk.u64_in _ (by omega)
  have a8 : bits .and .u64 (Z : Int) 1085102592571150095 = (U : Int) := by rw [hU]; exact and_u64 Z 1085102592571150095 (by omega) (by omega)
  have a9 : IntKind.u64.wrap ((U : Int) + (U : Int) / 256) = (V1 : Int) := by
    have e : (V1 : Int) = (U : Int) + (U : Int) / 256 := by omega
    rw [← e]
    exact IntWalk.u64_in _ (by omega)
  have a10 : IntKind.u64.wrap ((V1 : Int) + (V1 : Int) / 65536) = (V2 : Int) := by
    have e : (V2 : Int) = (V1 : Int) + (V1 : Int) / 65536 := by omega
    rw [← e]
    exact IntWalk.u64_in _ (by omega)
  have a11 : IntKind.u64.wrap ((V2 : Int) + (V2 : Int) / 4294967296) = (V3 : Int) := by
    have e : (V3 : Int) = (V2 : Int) + (V2 : Int) / 4294967296 := by omega
    rw [← e]
    exact IntWalk.u64_in _ (by omega)
  have a12 : IntKind.i64.wrap (V3 : Int) = (V3 : Int) := IntWalk.i64_in _ (by omega)
  have a13 : bits .and .i64 (V3 : Int) 127 = ((pc x : Nat) : Int) := by rw [← hend]; exact and_i64_127 V3 (by omega)
  clear hA hB hX hC hD hY hZ hU hV1 hV2 hV3 hs hend
  go_enter Tryd.func78, Tryd.ntmps78
  go_wp2
  go_ret
  refine ⟨?_, rfl⟩
  simp only [a1, a2, a3, a4, a5, a6, a7, a8, a9, a10, a11, a12, a13]
  rfl
set_option maxRecDepth 100000 in
theorem ones_any (w : World) (n : Nat) (hx : n < 9223372036854775808) : Calls Tryd.prog 46 #[.int .u64 n] w fun e w' => e = .returned (.int .i64 (pc n : Nat)) ∧ w' = w := by
  have h := Lib.hid (ones64_any w n (by omega))
  go_enter Tryd.func46, Tryd.ntmps46
  go_wp2_with (go_at_call 78; refine h.out.mono ?_; rintro e w' ⟨rfl, rfl⟩)
  go_ret
  exact ⟨rfl, rfl⟩
set_option maxRecDepth 100000 in
/-- The reference's Many. -/
theorem many_any (w : World) (n : Nat) (hn : n < 9223372036854775808) : Calls Tryd.prog 23 #[.int .i64 n] w fun e w' => e = .returned (.int .i64 (pc n : Nat)) ∧ w' = w := by
  obtain ⟨N, hN⟩ : ∃ N, N = pc n := ⟨_, rfl⟩
  have hle : pc n ≤ 63 := pc_le 63 n (by omega)
  have HST : Hid (∀ k, pc k = k % 2 + pc (k / 2)) := Lib.hid pc_step
  rw [← hN] at hle ⊢
  have H0 := Lib.hid hN
  have HZ := Lib.hid pc_zero
  clear hN
  go_enter Tryd.func23, Tryd.ntmps23
  go_wp2
  go_loop [0, 3] (fun x m => ∃ k y : Nat, k < 9223372036854775808 ∧ x = .int .i64 k ∧ m = .int .i64 y ∧ y ≤ 63 ∧ Hid (y + pc k = N)) (fun x _ => (intOf x).toNat)
  case atStart => exact ⟨n, 0, hn, rfl, rfl, by omega, Lib.hid (by rw [H0.out]; omega)⟩
  case round =>
    obtain ⟨k, y, hk, rfl, rfl, hy, HY⟩ := hrel
    by_cases h0 : 0 < k
    · have w1 : (k : Int).tmod 2 = (k : Int) % 2 := Int.tmod_eq_emod_of_nonneg (by omega)
      have w2 : IntKind.i64.wrap ((y : Int) + (k : Int) % 2) = (y : Int) + (k : Int) % 2 := IntWalk.i64_in _ (by omega)
      have w3 : (k : Int).tdiv 2 = (k : Int) / 2 := Int.tdiv_eq_ediv_of_nonneg (by omega)
      have w4 : IntKind.i64.wrap ((k : Int) / 2) = (k : Int) / 2 := IntWalk.i64_in _ (by omega)
      go_wp2
      go_round
      case rel =>
        have h2 := HY.out
        rw [HST.out k] at h2
        exact ⟨k / 2, y + k % 2, by omega, by go_num, by go_num, by omega, Lib.hid (by omega)⟩
      case measure => simp [intOf]; omega
    · obtain rfl : k = 0 := by omega
      have h2 := HY.out
      rw [HZ.out] at h2
      obtain rfl : y = N := by omega
      go_wp2
      go_ret
      exact ⟨rfl, rfl⟩
end Go.Proofs.YtknecjjdegngfaaDoor
