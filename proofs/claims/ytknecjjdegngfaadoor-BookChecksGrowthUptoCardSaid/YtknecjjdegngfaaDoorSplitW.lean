/-
  WALKS: bits.Len, the book's split.
-/
import Derived.Test.YtknecjjdegngfaaDoorBookP
import Derived.Test.YtknecjjdegngfaaDoorShaAW
import Derived.Test.YtknecjjdegngfaaDoorLen64W
import Derived.Lib.ItoaNum
set_option linter.unusedSimpArgs false
namespace Go.Proofs.YtknecjjdegngfaaDoor
open Go Go.RowKit Go.Aff Go.Book
theorem bitLen_log {x : Nat} (h0 : 0 < x) (h : x < 18446744073709551616) : Lib.bitLen x = Nat.log2 x + 1 := by
  obtain ⟨h1, h2, h3⟩ := Lib.bitLenAux_bounds 64 x h (by omega)
  have e : Lib.bitLen x = Lib.bitLenAux 64 x := rfl
  rw [e]
  have := log2_eq (a := Lib.bitLenAux 64 x - 1) (m := x) h2 (by rwa [Nat.sub_add_cancel h1])
  omega
set_option maxRecDepth 100000 in
theorem len_bits (n : Nat) (w : World) (h : n < 9223372036854775808) (h0 : 0 < n) : Calls Tryd.prog 68 #[.int .u64 n] w fun e w' => e = .returned (.int .i64 ((Nat.log2 n + 1 : Nat) : Int)) ∧ w' = w := by
  have hl := len64_any (n : Int) w (by omega) (by omega)
  rw [Int.toNat_natCast, bitLen_log h0 (by omega)] at hl
  have HL := Lib.hid hl
  clear hl
  go_enter Tryd.func68, Tryd.ntmps68
  go_wp2_with (go_at_call 83; refine HL.out.mono ?_; rintro e w1 ⟨rfl, rfl⟩)
  go_ret
  exact ⟨rfl, rfl⟩
set_option maxRecDepth 100000 in
/-- split. -/
theorem split_any (n : Nat) (w : World) (h : 2 ≤ n) (h2 : n ≤ 9007199254740992) : Calls Tryd.prog 81 #[.int .i64 n] w fun e w' => e = .returned (.int .i64 (spl n : Nat)) ∧ w' = w := by
  have hlt : Nat.log2 (n - 1) < 53 := (Nat.log2_lt (by omega)).2 (by omega)
  have HL := Lib.hid (len_bits (n - 1) w (by omega) (by omega))
  obtain ⟨q, hq⟩ : ∃ q, q = Nat.log2 (n - 1) := ⟨_, rfl⟩
  have hs : spl n = 2 ^ q := by rw [hq]; rfl
  rw [hs]
  rw [← hq] at HL hlt
  obtain ⟨m, rfl⟩ : ∃ m, n = m + 1 := ⟨n - 1, by omega⟩
  have w1 : IntKind.u64.wrap (m : Int) = m := IntWalk.u64_in _ (by omega)
  have w2 : IntKind.i64.wrap ((2 : Int) ^ q) = 2 ^ q := IntWalk.i64_in _ (by
    have h9 : (2 : Int) ^ q ≤ 2 ^ 53 := by exact_mod_cast Nat.pow_le_pow_right (by omega) (by omega : q ≤ 53)
    have h8 : (0 : Int) ≤ 2 ^ q := by exact_mod_cast Nat.zero_le _
    omega)
  rw [Nat.add_sub_cancel] at HL
  clear hs hq h
  go_enter Tryd.func81, Tryd.ntmps81
  go_wp2_with (go_at_call 68; refine HL.out.mono ?_; rintro e w1 ⟨rfl, rfl⟩)
  go_ret
  refine ⟨?_, rfl⟩

  simp
end Go.Proofs.YtknecjjdegngfaaDoor
