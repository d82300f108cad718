/-
  WALKS: root, primes, Constants, First of the reference.
-/
import Derived.Test.YtknecjjdegngfaaDoorRefW
namespace Go.Proofs.YtknecjjdegngfaaDoor
open Go Go.RowKit Go.Sha Go.Aff

set_option maxHeartbeats 1000000 in
set_option maxRecDepth 100000 in
theorem root_any (w : World) (p : Int) (three : Bool) : Calls Tryd.prog 95 #[.int .u64 p, .bool three] w fun e w' => e = .returned (.int .u32 (rootF p three)) ∧ w = w' := by
  obtain ⟨R, hR⟩ : ∃ R, R = rootL three p 40 0 := ⟨_, rfl⟩
  have HR : Hid (rootF p three = IntKind.u32.wrap R) := by rw [hR]; rfl
  have H0 : Hid (rootL three p 40 0 = R) := hR.symm
  obtain ⟨RF, hRF⟩ : ∃ RF, RF = rootF p three := ⟨_, rfl⟩
  rw [← hRF] at HR ⊢
  clear hR hRF
  cases three
  all_goals
    go_enter Tryd.func95, Tryd.ntmps95
    go_wp2
    go_loop [5, 6, 7] (fun s i _ => ∃ (k : Nat) (x : Int), k ≤ 40 ∧ i = .int .i64 ((k : Int) - 1) ∧ s = .int .u64 x ∧ 0 ≤ x ∧ rootL _ p k x = R) (fun _ i _ => (intOf i + 1).toNat)
    case atStart => exact ⟨40, 0, by omega, by go_num, rfl, by omega, H0.out⟩
    case round =>
      obtain ⟨k, x, hk, rfl, rfl, hx, hl⟩ := hrel
      rcases k with _ | j
      · have HL := Lib.hid hl
        clear hl hx
        rw [show ((0 : Nat) : Int) - 1 = -1 by omega]
        go_wp2
        go_ret
        exact ⟨by rw [HR.out, ← HL.out]; rfl, rfl⟩
      · rw [show ((j + 1 : Nat) : Int) - 1 = (j : Int) by omega]
        have ht0 := rootT_nonneg j x
        obtain ⟨t, ht⟩ : ∃ t, t = rootT j x := ⟨_, rfl⟩
        have HT : Hid (bits BinOp.or IntKind.u64 x (IntKind.u64.wrap (2 ^ j)) = t) := ht.symm
        have hc := fun wx => cube_any wx t p (by rw [ht]; exact ht0)
        have hs := fun wx => square_any wx t p (by rw [ht]; exact ht0)
        rw [← ht] at ht0
        obtain ⟨cu, hcu⟩ : ∃ cu, cu = cubeB t p := ⟨_, rfl⟩
        obtain ⟨sq, hsq⟩ : ∃ sq, sq = sqB t p := ⟨_, rfl⟩
        simp only [← hcu] at hc
        simp only [← hsq] at hs
        have HC := Lib.hid hc
        have HS := Lib.hid hs
        have HL := Lib.hid hl
        have HTT := Lib.hid ht
        have HCU := Lib.hid hcu
        have HSQ := Lib.hid hsq
        clear hc hs hl ht hcu hsq
        go_upto_region 6 with (fail)
        rw [HT.out]
        obtain ⟨b36, h36⟩ : ∃ b, decide (t < 68719476736) = b := ⟨_, rfl⟩
        cases b36
        all_goals
          cases cu
          all_goals
            cases sq
            all_goals
              go_wp2_with (first
                | (go_at_call 98; refine (HC.out _).mono ?_; rintro e w1 ⟨rfl, rfl⟩)
                | (go_at_call 99; refine (HS.out _).mono ?_; rintro e w1 ⟨rfl, rfl⟩))
              go_round
              case rel =>
                refine ⟨j, _, by omega, by go_num, rfl, by first | exact hx | exact ht0, ?_⟩
                rw [← HL.out]
                first
                  | exact (rootL_yes HTT.out (rootC_true h36 HCU.out)).symm
                  | exact (rootL_no HTT.out (rootC_true h36 HCU.out)).symm
                  | exact (rootL_yes HTT.out (rootC_false HSQ.out)).symm
                  | exact (rootL_no HTT.out (rootC_false HSQ.out)).symm
              case measure => simp [intOf]
end Go.Proofs.YtknecjjdegngfaaDoor
