/-
  WALKS: the ways of the book's proofs.
-/
import Derived.Test.YtknecjjdegngfaaDoorSplitW
import Derived.Test.YtknecjjdegngfaaDoorAppendW
import Derived.Test.YtknecjjdegngfaaDoorBookP
set_option linter.unusedSimpArgs false
namespace Go.Proofs.YtknecjjdegngfaaDoor
open Go Go.RowKit Go.Sha Go.Aff Go.Book
theorem infoBool : (Tryd.prog.info? 4).map (fun i => (i.zero, i.size, i.bytes)) = some (some (.bool false), 1, 1) := by kernel_rfl
/-- Bools as cells. -/
def vbool (l : List Bool) : List Value := l.map Value.bool
theorem vbool_app (l r : List Bool) : vbool (l ++ r) = vbool l ++ vbool r := List.map_append
theorem way_len (i n : Nat) (h : n ≤ 2 ^ 53) : (wayF i n).length ≤ 53 := way_short i n 53 h
set_option maxRecDepth 100000 in
set_option maxHeartbeats 4000000 in
theorem way_any : ∀ (n i : Nat) (w : World), n ≤ 9007199254740992 → i < n →
    Calls Tryd.prog 49 #[.int .i64 i, .int .i64 n] w fun e w' => ∃ A' c', e = .returned (.slice A' (wayF i n).length c') ∧ Mine w w' 4 A' (wayF i n).length c' (vbool (wayF i n)) := by
  intro n
  induction n using Nat.strongRecOn with
  | _ n ih =>
  intro i w hn hi
  rcases Nat.lt_or_ge n 2 with hsm | hbig
  · obtain rfl : n = 1 := by omega
    have e0 : wayF i 1 = [] := by rw [wayF]; rfl
    rw [e0]
    clear e0 ih
    go_enter Tryd.func49, Tryd.ntmps49
    go_wp2
    go_ret
    exact ⟨none, 0, rfl, World.ownsRow_nil _ _ _ _, Keeps.refl _ _, fun g h => by cases h⟩
  · have hs1 := spl_lt hbig
    have hs0 := spl_pos n
    have HS := Lib.hid fun W => split_any n W hbig hn
    have e0 : wayF i n = if i < spl n then wayF i (spl n) ++ [true] else wayF (i - spl n) (n - spl n) ++ [false] := by rw [wayF, dif_pos hbig]
    obtain ⟨k, hk⟩ : ∃ k, k = spl n := ⟨_, rfl⟩
    rw [← hk] at HS hs1 hs0 e0
    have hn1 : ((n : Int) == 1) = false := by simp; omega
    by_cases hik : i < k
    · have hlt : (i : Int) < (k : Int) := by omega
      rw [if_pos hik] at e0
      have hI := ih k hs1 i w (by omega) hik
      have hL := way_len i k (by omega)
      obtain ⟨S0, hS0⟩ : ∃ S, S = wayF i k := ⟨_, rfl⟩
      rw [← hS0] at hI hL e0
      rw [e0]
      obtain ⟨L, hLL⟩ : ∃ L, L = S0.length := ⟨_, rfl⟩
      rw [← hLL] at hI hL
      rw [List.length_append, ← hLL]
      have HI := Lib.hid hI
      clear ih hI e0 hS0 hLL hk
      go_enter Tryd.func49, Tryd.ntmps49
      go_wp2_with (first
        | (go_at_call 81; refine (HS.out _).mono ?_; rintro e w9 ⟨rfl, hw9⟩; have hw8 := hw9.symm; clear hw9; subst hw8)
        | (go_at_call 49; refine HI.out.mono ?_; rintro e w5 ⟨A5, c5, rfl, hm5⟩; have HM5 := Lib.hid hm5; clear hm5)
        | (at_builtin; refine wpList_append_rd _ rfl (.tmp 15) (.tmp 16) 84 rfl 4 (.bool false) 1 Tryd.underlying84 infoBool rfl (.slice A5 L c5) L (vbool S0) rfl (own_keepA HM5.out.1 ((Keeps.refl (fun _ => False) w5).alloc (.cells #[.bool true] 4))) _ 1 1 [.bool true] rfl (Rd.of_blk (Blk.new w5 4 [.bool true]) (n := 1) rfl) (by intro x hx; rw [List.mem_singleton.1 hx]; rfl) (by unfold maxLen; omega) (by omega) ?_; intro A6 c6 w6 hown6 hg6 hb6; have hm6 := Mine.app HM5.out hown6 hg6 (by simpa using hb6); have HM6 := Lib.hid hm6; clear hown6 hg6 hb6 hm6))
      go_ret
      exact ⟨_, _, rfl, by rw [vbool_app]; exact HM6.out⟩
    · have hlt : ¬ (i : Int) < (k : Int) := by omega
      rw [if_neg hik] at e0
      have hsub : IntKind.i64.wrap ((i : Int) - (k : Int)) = ((i - k : Nat) : Int) := by
        rw [IntWalk.i64_in _ (by omega)]; omega
      have hsub2 : IntKind.i64.wrap ((n : Int) - (k : Int)) = ((n - k : Nat) : Int) := by
        rw [IntWalk.i64_in _ (by omega)]; omega
      have hI := ih (n - k) (by omega) (i - k) w (by omega) (by omega)
      have hL := way_len (i - k) (n - k) (by omega)
      obtain ⟨S0, hS0⟩ : ∃ S, S = wayF (i - k) (n - k) := ⟨_, rfl⟩
      rw [← hS0] at hI hL e0
      rw [e0]
      obtain ⟨L, hLL⟩ : ∃ L, L = S0.length := ⟨_, rfl⟩
      rw [← hLL] at hI hL
      rw [List.length_append, ← hLL]
      have HI := Lib.hid hI
      have d1 : ((i : Int) - (k : Int)) = ((i - k : Nat) : Int) := by omega
      have d2 : ((n : Int) - (k : Int)) = ((n - k : Nat) : Int) := by omega
      clear ih hI e0 hS0 hLL hk
      go_enter Tryd.func49, Tryd.ntmps49
      go_wp2_with (first
        | (go_at_call 81; refine (HS.out _).mono ?_; rintro e w9 ⟨rfl, hw9⟩; have hw8 := hw9.symm; clear hw9; subst hw8)
        | (go_at_call 49; refine HI.out.mono ?_; rintro e w5 ⟨A5, c5, rfl, hm5⟩; have HM5 := Lib.hid hm5; clear hm5)
        | (at_builtin; refine wpList_append_rd _ rfl (.tmp 24) (.tmp 25) 84 rfl 4 (.bool false) 1 Tryd.underlying84 infoBool rfl (.slice A5 L c5) L (vbool S0) rfl (own_keepA HM5.out.1 ((Keeps.refl (fun _ => False) w5).alloc (.cells #[.bool false] 4))) _ 1 1 [.bool false] rfl (Rd.of_blk (Blk.new w5 4 [.bool false]) (n := 1) rfl) (by intro x hx; rw [List.mem_singleton.1 hx]; rfl) (by unfold maxLen; omega) (by omega) ?_; intro A6 c6 w6 hown6 hg6 hb6; have hm6 := Mine.app HM5.out hown6 hg6 (by simpa using hb6); have HM6 := Lib.hid hm6; clear hown6 hg6 hb6 hm6))
      go_ret
      exact ⟨_, _, rfl, by rw [vbool_app]; exact HM6.out⟩
set_option maxRecDepth 100000 in
set_option maxHeartbeats 4000000 in
theorem gway_any : ∀ (n m : Nat) (b : Bool) (w : World), n ≤ 9007199254740992 → 0 < m → m ≤ n →
    Calls Tryd.prog 56 #[.int .i64 m, .int .i64 n, .bool b] w fun e w' => ∃ A' c', e = .returned (.tuple #[.slice A' (gwayF m n b).1.length c', .bool (gwayF m n b).2]) ∧ Mine w w' 4 A' (gwayF m n b).1.length c' (vbool (gwayF m n b).1) := by
  intro n
  induction n using Nat.strongRecOn with
  | _ n ih =>
  intro m b w hn hm0 hmn
  by_cases hme : m = n
  · subst hme
    have e0 : gwayF m m b = ([], b) := by rw [gwayF, if_pos rfl]
    rw [e0]
    clear e0 ih
    go_enter Tryd.func56, Tryd.ntmps56
    go_wp2
    go_ret2
    exact ⟨none, 0, rfl, World.ownsRow_nil _ _ _ _, Keeps.refl _ _, fun g h => by cases h⟩
  · have hbig : 2 ≤ n := by omega
    have hs1 := spl_lt hbig
    have hs0 := spl_pos n
    have HS := Lib.hid fun W => split_any n W hbig hn
    have e0 : gwayF m n b = if m ≤ spl n then ((gwayF m (spl n) b).1 ++ [true], (gwayF m (spl n) b).2) else ((gwayF (m - spl n) (n - spl n) false).1 ++ [false], false) := by rw [gwayF, if_neg hme, dif_pos hbig]
    obtain ⟨k, hk⟩ : ∃ k, k = spl n := ⟨_, rfl⟩
    rw [← hk] at HS hs1 hs0 e0
    have hn1 : ((m : Int) == (n : Int)) = false := by simp; omega
    by_cases hik : m ≤ k
    · have hlt : (m : Int) ≤ (k : Int) := by omega
      rw [if_pos hik] at e0
      have hI := ih k hs1 m b w (by omega) hm0 hik
      have hL := gway_short m k 53 b (by omega)
      obtain ⟨S0, hS0⟩ : ∃ S, S = (gwayF m k b).1 := ⟨_, rfl⟩
      obtain ⟨b0, hb0⟩ : ∃ S, S = (gwayF m k b).2 := ⟨_, rfl⟩
      rw [← hS0, ← hb0] at hI
      rw [← hS0] at hL
      rw [← hS0, ← hb0] at e0
      rw [e0]
      obtain ⟨L, hLL⟩ : ∃ L, L = S0.length := ⟨_, rfl⟩
      rw [← hLL] at hI hL
      simp only [List.length_append, ← hLL]
      have HI := Lib.hid hI
      clear ih hI e0 hS0 hb0 hLL hk
      go_enter Tryd.func56, Tryd.ntmps56
      go_wp2_with (first
        | (go_at_call 81; refine (HS.out _).mono ?_; rintro e w9 ⟨rfl, hw9⟩; have hw8 := hw9.symm; clear hw9; subst hw8)
        | (go_at_call 56; refine HI.out.mono ?_; rintro e w5 ⟨A5, c5, rfl, hm5⟩; have HM5 := Lib.hid hm5; clear hm5)
        | (at_builtin; refine wpList_append_rd _ rfl (.tmp 29) (.tmp 30) 84 rfl 4 (.bool false) 1 Tryd.underlying84 infoBool rfl (.slice A5 L c5) L (vbool S0) rfl (own_keepA HM5.out.1 ((Keeps.refl (fun _ => False) w5).alloc (.cells #[.bool true] 4))) _ 1 1 [.bool true] rfl (Rd.of_blk (Blk.new w5 4 [.bool true]) (n := 1) rfl) (by intro x hx; rw [List.mem_singleton.1 hx]; rfl) (by unfold maxLen; omega) (by omega) ?_; intro A6 c6 w6 hown6 hg6 hb6; have hm6 := Mine.app HM5.out hown6 hg6 (by simpa using hb6); have HM6 := Lib.hid hm6; clear hown6 hg6 hb6 hm6))
      go_ret2
      exact ⟨_, _, rfl, by rw [vbool_app]; exact HM6.out⟩
    · have hlt : ¬ (m : Int) ≤ (k : Int) := by omega
      rw [if_neg hik] at e0
      have hsub : IntKind.i64.wrap ((m : Int) - (k : Int)) = ((m - k : Nat) : Int) := by
        rw [IntWalk.i64_in _ (by omega)]; omega
      have hsub2 : IntKind.i64.wrap ((n : Int) - (k : Int)) = ((n - k : Nat) : Int) := by
        rw [IntWalk.i64_in _ (by omega)]; omega
      have hI := ih (n - k) (by omega) (m - k) false w (by omega) (by omega) (by omega)
      have hL := gway_short (m - k) (n - k) 53 false (by omega)
      obtain ⟨S0, hS0⟩ : ∃ S, S = (gwayF (m - k) (n - k) false).1 := ⟨_, rfl⟩
      obtain ⟨b0, hb0⟩ : ∃ S, S = (gwayF (m - k) (n - k) false).2 := ⟨_, rfl⟩
      rw [← hS0, ← hb0] at hI
      rw [← hS0] at hL e0
      rw [e0]
      obtain ⟨L, hLL⟩ : ∃ L, L = S0.length := ⟨_, rfl⟩
      rw [← hLL] at hI hL
      simp only [List.length_append, ← hLL]
      have HI := Lib.hid hI
      have d1 : ((m : Int) - (k : Int)) = ((m - k : Nat) : Int) := by omega
      have d2 : ((n : Int) - (k : Int)) = ((n - k : Nat) : Int) := by omega
      clear ih hI e0 hS0 hb0 hLL hk
      go_enter Tryd.func56, Tryd.ntmps56
      go_wp2_with (first
        | (go_at_call 81; refine (HS.out _).mono ?_; rintro e w9 ⟨rfl, hw9⟩; have hw8 := hw9.symm; clear hw9; subst hw8)
        | (go_at_call 56; refine HI.out.mono ?_; rintro e w5 ⟨A5, c5, rfl, hm5⟩; have HM5 := Lib.hid hm5; clear hm5)
        | (at_builtin; refine wpList_append_rd _ rfl (.tmp 43) (.tmp 44) 84 rfl 4 (.bool false) 1 Tryd.underlying84 infoBool rfl (.slice A5 L c5) L (vbool S0) rfl (own_keepA HM5.out.1 ((Keeps.refl (fun _ => False) w5).alloc (.cells #[.bool false] 4))) _ 1 1 [.bool false] rfl (Rd.of_blk (Blk.new w5 4 [.bool false]) (n := 1) rfl) (by intro x hx; rw [List.mem_singleton.1 hx]; rfl) (by unfold maxLen; omega) (by omega) ?_; intro A6 c6 w6 hown6 hg6 hb6; have hm6 := Mine.app HM5.out hown6 hg6 (by simpa using hb6); have HM6 := Lib.hid hm6; clear hown6 hg6 hb6 hm6))
      go_ret2
      exact ⟨_, _, rfl, by rw [vbool_app]; exact HM6.out⟩
end Go.Proofs.YtknecjjdegngfaaDoor
