/-
  WALKS: the reference's numbers: Mul64, square, cube, root, primes, Constants, First.
-/
import Derived.Test.YtknecjjdegngfaaDoorBaseW
import Derived.Test.YtknecjjdegngfaaDoorRefP
namespace Go.Proofs.YtknecjjdegngfaaDoor
open Go Go.RowKit Go.Sha Go.Aff

set_option maxRecDepth 100000 in
theorem mul64_any (w : World) (x y : Int) (_hx : 0 ≤ x) (_hy : 0 ≤ y) : Calls Tryd.prog 100 #[.int .u64 x, .int .u64 y] w fun e w' => e = .returned (.tuple #[.int .u64 (mulHi x y), .int .u64 (mulLo x y)]) ∧ w = w' := by
  go_enter Tryd.func100, Tryd.ntmps100
  go_wp2
  go_ret2
  exact ⟨rfl, rfl⟩

set_option maxRecDepth 100000 in
theorem square_any (w : World) (s p : Int) (hs : 0 ≤ s) : Calls Tryd.prog 99 #[.int .u64 s, .int .u64 p] w fun e w' => e = .returned (.bool (sqB s p)) ∧ w = w' := by
  have hm := mul64_any w s s hs hs
  have HB : Hid (sqB s p = (decide (mulHi s s < p) || (mulHi s s == p && mulLo s s == 0))) := rfl
  have h1 := mulHi_nonneg s s
  have h2 := mulLo_nonneg s s
  obtain ⟨R, hR⟩ : ∃ R, R = sqB s p := ⟨_, rfl⟩
  obtain ⟨hi, hhi⟩ : ∃ hi, hi = mulHi s s := ⟨_, rfl⟩
  obtain ⟨lo, hlo⟩ : ∃ lo, lo = mulLo s s := ⟨_, rfl⟩
  rw [← hR, ← hhi, ← hlo] at HB
  rw [← hhi, ← hlo] at hm
  rw [← hhi] at h1
  rw [← hlo] at h2
  rw [← hR]
  have HM := Lib.hid hm
  clear hm hR hhi hlo
  go_enter Tryd.func99, Tryd.ntmps99
  go_wp2_with (go_at_call 100; refine HM.out.mono ?_; rintro e w1 ⟨rfl, rfl⟩)
  all_goals
    go_ret
    refine ⟨?_, rfl⟩
    rw [HB.out]
    congr 2
    first | (simp [*]; done) | (simp; omega)
set_option maxRecDepth 100000 in
theorem cube_any (w : World) (s p : Int) (hs : 0 ≤ s) : Calls Tryd.prog 98 #[.int .u64 s, .int .u64 p] w fun e w' => e = .returned (.bool (cubeB s p)) ∧ w = w' := by
  have hm := mul64_any w s s hs hs
  have hm2 := mul64_any w (mulLo s s) s (mulLo_nonneg _ _) hs
  have HB : Hid (cubeB s p = (decide (cubeTop s < IntKind.u64.wrap (p * 4294967296)) || (cubeTop s == IntKind.u64.wrap (p * 4294967296) && mulLo (mulLo s s) s == 0))) := rfl
  have h1 := mulHi_nonneg s s
  have h2 := mulLo_nonneg s s
  have h3 := mulHi_nonneg (mulLo s s) s
  have h4 := mulLo_nonneg (mulLo s s) s
  rw [show cubeTop s = IntKind.u64.wrap (mulHi (mulLo s s) s + IntKind.u64.wrap (mulHi s s * s)) from rfl] at HB
  obtain ⟨R, hR⟩ : ∃ R, R = cubeB s p := ⟨_, rfl⟩
  obtain ⟨hi, hhi⟩ : ∃ hi, hi = mulHi s s := ⟨_, rfl⟩
  obtain ⟨lo, hlo⟩ : ∃ lo, lo = mulLo s s := ⟨_, rfl⟩
  rw [← hR, ← hhi, ← hlo] at HB
  rw [← hhi, ← hlo] at hm
  rw [← hlo] at hm2 h2 h3 h4
  rw [← hhi] at h1
  rw [← hR]
  clear hR hhi hlo
  obtain ⟨top, htop⟩ : ∃ top, top = mulHi lo s := ⟨_, rfl⟩
  obtain ⟨low, hlow⟩ : ∃ low, low = mulLo lo s := ⟨_, rfl⟩
  rw [← htop, ← hlow] at HB hm2
  rw [← htop] at h3
  rw [← hlow] at h4
  clear htop hlow
  have HM := Lib.hid hm
  have HM2 := Lib.hid hm2
  clear hm hm2
  go_enter Tryd.func98, Tryd.ntmps98
  go_wp2_with (go_at_call 100; (first | (with_reducible refine HM.out.mono ?_) | (with_reducible refine HM2.out.mono ?_)); rintro e w1 ⟨rfl, rfl⟩)
  all_goals
    go_ret
    refine ⟨?_, rfl⟩
    rw [HB.out]
    congr 2
    first | (simp [*]; done) | (simp; omega)
end Go.Proofs.YtknecjjdegngfaaDoor
