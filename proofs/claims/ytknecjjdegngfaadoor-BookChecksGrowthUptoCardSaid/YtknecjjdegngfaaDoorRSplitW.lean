/-
  WALKS: the reference's Split, entryLen, growthLen.
-/
import Derived.Test.YtknecjjdegngfaaDoorSplitW
set_option linter.unusedSimpArgs false
namespace Go.Proofs.YtknecjjdegngfaaDoor
open Go Go.RowKit Go.Aff Go.Book
set_option maxRecDepth 100000 in
theorem rsplit_any (n : Nat) (w : World) (h : 2 ≤ n) (h2 : n ≤ 9007199254740992) : Calls Tryd.prog 55 #[.int .i64 n] w fun e w' => e = .returned (.int .i64 (spl n : Nat)) ∧ w' = w := by
  have HEND : Hid (∀ a : Nat, 2 ^ a < n → ¬ 2 * 2 ^ a < n → 2 ^ a = spl n) := Lib.hid fun a h1 h2 => (spl_eq h1 (by rw [Nat.pow_succ]; omega)).symm
  obtain ⟨N, hN⟩ : ∃ N, N = spl n := ⟨_, rfl⟩
  rw [← hN] at HEND ⊢
  clear hN
  go_enter Tryd.func55, Tryd.ntmps55
  go_wp2
  go_loop [3] (fun m => ∃ k : Nat, m = .int .i64 k ∧ 0 < k ∧ k < n ∧ Hid (∃ a : Nat, k = 2 ^ a)) (fun m => n - (intOf m).toNat)
  case atStart => exact ⟨1, rfl, by omega, by omega, Lib.hid ⟨0, rfl⟩⟩
  case round =>
    obtain ⟨k, rfl, hk0, hk, HA⟩ := hrel
    have w1 : IntKind.i64.wrap (2 * (k : Int)) = 2 * (k : Int) := IntWalk.i64_in _ (by omega)
    by_cases hlt : 2 * (k : Int) < (n : Int)
    · go_wp2
      go_round
      case rel =>
        refine ⟨2 * k, by go_num, by omega, by omega, Lib.hid ?_⟩
        obtain ⟨a, ha⟩ := HA.out
        exact ⟨a + 1, by rw [ha, Nat.pow_succ]; omega⟩
      case measure => simp [intOf]; omega
    · obtain ⟨a, ha⟩ := HA.out
      have he := HEND.out a (by omega) (by omega)
      rw [← ha] at he
      subst he
      clear ha HEND HA a
      go_wp2
      go_ret
      exact ⟨rfl, rfl⟩
set_option maxRecDepth 100000 in
set_option maxHeartbeats 4000000 in
theorem elen_any : ∀ (n i : Nat) (w : World), n ≤ 9007199254740992 → i < n →
    Calls Tryd.prog 53 #[.int .i64 i, .int .i64 n] w fun e w' => e = .returned (.int .i64 ((wayF i n).length : Nat)) ∧ w' = w := by
  intro n
  induction n using Nat.strongRecOn with
  | _ n ih =>
  intro i w hn hi
  rcases Nat.lt_or_ge n 2 with hsm | hbig
  · obtain rfl : n = 1 := by omega
    have e0 : wayF i 1 = [] := by rw [wayF]; rfl
    rw [e0]
    clear e0 ih
    go_enter Tryd.func53, Tryd.ntmps53
    go_wp2
    go_ret
    exact ⟨rfl, rfl⟩
  · have hs1 := spl_lt hbig
    have hs0 := spl_pos n
    have HS := Lib.hid (rsplit_any n w hbig hn)
    have e0 : wayF i n = if i < spl n then wayF i (spl n) ++ [true] else wayF (i - spl n) (n - spl n) ++ [false] := by rw [wayF, dif_pos hbig]
    obtain ⟨k, hk⟩ : ∃ k, k = spl n := ⟨_, rfl⟩
    rw [← hk] at HS hs1 hs0 e0
    have hn1 : ((n : Int) == 1) = false := by simp; omega
    by_cases hik : i < k
    · have hlt : (i : Int) < (k : Int) := by omega
      rw [if_pos hik] at e0
      have hI := ih k hs1 i w (by omega) hik
      have hL : (wayF i k).length ≤ 53 := way_short i k 53 (by omega)
      obtain ⟨L, hLL⟩ : ∃ L, L = (wayF i k).length := ⟨_, rfl⟩
      rw [e0, List.length_append, List.length_singleton]
      rw [← hLL] at hI hL ⊢
      have HI := Lib.hid hI
      have w1 : IntKind.i64.wrap (1 + (L : Int)) = ((L + 1 : Nat) : Int) := by rw [IntWalk.i64_in _ (by omega)]; omega
      clear ih hI e0 hLL hk
      go_enter Tryd.func53, Tryd.ntmps53
      go_wp2_with (first
        | (go_at_call 55; refine HS.out.mono ?_; rintro e w9 ⟨rfl, hw9⟩; have hw8 := hw9.symm; clear hw9; subst hw8)
        | (go_at_call 53; refine HI.out.mono ?_; rintro e w5 ⟨rfl, hw5⟩; have hw4 := hw5.symm; clear hw5; subst hw4))
      go_ret
      exact ⟨rfl, rfl⟩
    · have hlt : ¬ (i : Int) < (k : Int) := by omega
      rw [if_neg hik] at e0
      have hsub : IntKind.i64.wrap ((i : Int) - (k : Int)) = ((i - k : Nat) : Int) := by
        rw [IntWalk.i64_in _ (by omega)]; omega
      have hsub2 : IntKind.i64.wrap ((n : Int) - (k : Int)) = ((n - k : Nat) : Int) := by
        rw [IntWalk.i64_in _ (by omega)]; omega
      have hI := ih (n - k) (by omega) (i - k) w (by omega) (by omega)
      have hL : (wayF (i - k) (n - k)).length ≤ 53 := way_short (i - k) (n - k) 53 (by omega)
      obtain ⟨L, hLL⟩ : ∃ L, L = (wayF (i - k) (n - k)).length := ⟨_, rfl⟩
      rw [e0, List.length_append, List.length_singleton]
      rw [← hLL] at hI hL ⊢
      have HI := Lib.hid hI
      have d1 : ((i : Int) - (k : Int)) = ((i - k : Nat) : Int) := by omega
      have d2 : ((n : Int) - (k : Int)) = ((n - k : Nat) : Int) := by omega
      have w1 : IntKind.i64.wrap (1 + (L : Int)) = ((L + 1 : Nat) : Int) := by rw [IntWalk.i64_in _ (by omega)]; omega
      clear ih hI e0 hLL hk
      go_enter Tryd.func53, Tryd.ntmps53
      go_wp2_with (first
        | (go_at_call 55; refine HS.out.mono ?_; rintro e w9 ⟨rfl, hw9⟩; have hw8 := hw9.symm; clear hw9; subst hw8)
        | (go_at_call 53; refine HI.out.mono ?_; rintro e w5 ⟨rfl, hw5⟩; have hw4 := hw5.symm; clear hw5; subst hw4))
      go_ret
      exact ⟨rfl, rfl⟩
/-- How many digests a growth has. -/
def glenF (m n : Nat) (b : Bool) : Nat := (gwayF m n b).1.length + (if (gwayF m n b).2 then 0 else 1)
set_option maxRecDepth 100000 in
set_option maxHeartbeats 4000000 in
theorem glen_any : ∀ (n m : Nat) (b : Bool) (w : World), n ≤ 9007199254740992 → 0 < m → m ≤ n →
    Calls Tryd.prog 61 #[.int .i64 m, .int .i64 n, .bool b] w fun e w' => e = .returned (.int .i64 (glenF m n b : Nat)) ∧ w' = w := by
  intro n
  induction n using Nat.strongRecOn with
  | _ n ih =>
  intro m b w hn hm0 hmn
  by_cases hme : m = n
  · subst hme
    have e0 : glenF m m b = if b then 0 else 1 := by unfold glenF; rw [gwayF, if_pos rfl]; simp
    rw [e0]
    have hq : ((m : Int) == (m : Int)) = true := by simp
    clear e0 ih
    cases b
    all_goals
      go_enter Tryd.func61, Tryd.ntmps61
      go_wp2
      go_ret
      exact ⟨rfl, rfl⟩
  · have hbig : 2 ≤ n := by omega
    have hs1 := spl_lt hbig
    have hs0 := spl_pos n
    have HS := Lib.hid (rsplit_any n w hbig hn)
    have e0 : glenF m n b = if m ≤ spl n then glenF m (spl n) b + 1 else glenF (m - spl n) (n - spl n) false + 1 := by
      unfold glenF
      rw [gwayF, if_neg hme, dif_pos hbig]
      split
      · simp only [List.length_append, List.length_singleton]; omega
      · simp only [List.length_append, List.length_singleton, gway_false]
        simp
    have hL0 : glenF m n b ≤ 54 := by
      unfold glenF
      have := gway_short m n 53 b (by omega)
      split <;> omega
    obtain ⟨k, hk⟩ : ∃ k, k = spl n := ⟨_, rfl⟩
    rw [← hk] at HS hs1 hs0 e0
    have hn1 : ((m : Int) == (n : Int)) = false := by simp; omega
    by_cases hik : m ≤ k
    · have hlt : (m : Int) ≤ (k : Int) := by omega
      rw [if_pos hik] at e0
      have hI := ih k hs1 m b w (by omega) hm0 hik
      rw [e0] at hL0 ⊢
      obtain ⟨L, hLL⟩ : ∃ L, L = glenF m k b := ⟨_, rfl⟩
      rw [← hLL] at hI hL0 ⊢
      have HI := Lib.hid hI
      have w1 : IntKind.i64.wrap (1 + (L : Int)) = ((L + 1 : Nat) : Int) := by rw [IntWalk.i64_in _ (by omega)]; omega
      clear ih hI e0 hLL hk
      go_enter Tryd.func61, Tryd.ntmps61
      go_wp2_with (first
        | (go_at_call 55; refine HS.out.mono ?_; rintro e w9 ⟨rfl, hw9⟩; have hw8 := hw9.symm; clear hw9; subst hw8)
        | (go_at_call 61; refine HI.out.mono ?_; rintro e w5 ⟨rfl, hw5⟩; have hw4 := hw5.symm; clear hw5; subst hw4))
      go_ret
      exact ⟨rfl, rfl⟩
    · have hlt : ¬ (m : Int) ≤ (k : Int) := by omega
      rw [if_neg hik] at e0
      have hsub : IntKind.i64.wrap ((m : Int) - (k : Int)) = ((m - k : Nat) : Int) := by
        rw [IntWalk.i64_in _ (by omega)]; omega
      have hsub2 : IntKind.i64.wrap ((n : Int) - (k : Int)) = ((n - k : Nat) : Int) := by
        rw [IntWalk.i64_in _ (by omega)]; omega
      have hI := ih (n - k) (by omega) (m - k) false w (by omega) (by omega) (by omega)
      rw [e0] at hL0 ⊢
      obtain ⟨L, hLL⟩ : ∃ L, L = glenF (m - k) (n - k) false := ⟨_, rfl⟩
      rw [← hLL] at hI hL0 ⊢
      have HI := Lib.hid hI
      have d1 : ((m : Int) - (k : Int)) = ((m - k : Nat) : Int) := by omega
      have d2 : ((n : Int) - (k : Int)) = ((n - k : Nat) : Int) := by omega
      have w1 : IntKind.i64.wrap (1 + (L : Int)) = ((L + 1 : Nat) : Int) := by rw [IntWalk.i64_in _ (by omega)]; omega
      clear ih hI e0 hLL hk
      go_enter Tryd.func61, Tryd.ntmps61
      go_wp2_with (first
        | (go_at_call 55; refine HS.out.mono ?_; rintro e w9 ⟨rfl, hw9⟩; have hw8 := hw9.symm; clear hw9; subst hw8)
        | (go_at_call 61; refine HI.out.mono ?_; rintro e w5 ⟨rfl, hw5⟩; have hw4 := hw5.symm; clear hw5; subst hw4))
      go_ret
      exact ⟨rfl, rfl⟩
end Go.Proofs.YtknecjjdegngfaaDoor
