/-
  WALKS: the law's number; slices.Equal of two rows of what was seen.
-/
import Derived.Test.YtinonjfnhedlpaaFTypesK
import Derived.Laws.StructEq
import Derived.Deep.LoopGhost
set_option linter.unusedSimpArgs false
namespace Go.Proofs.Ytinonjfnhedlpaa
open Go Go.RowKit Go.Aff Go.Fault
theorem number_num (w : World) (n : Int) (hn : n ≠ 0) : Calls Try.prog 23 #[.iface 32 (.int .i64 n)] w fun e w' => e = .returned (.int .i64 n) ∧ Keeps (fun _ => False) w w' := by
  have x1 := as_num_num
  have hz : (n == 0) = false := by simp [hn]
  go_enter Try.func23, Try.ntmps23
  go_wp2
  go_ret
  exact ⟨rfl, Keeps.refl _ _⟩
set_option maxRecDepth 100000 in
theorem ne_seen6 (k d n a c : Int) (s : ByteArray) (w : World) : (binOp .neq 34 (.agg #[.int .i64 k, .int .i64 d, .int .i64 n, .int .i64 a, .string s, .int .i64 c]) (.agg #[.int .i64 k, .int .i64 d, .int .i64 n, .int .i64 a, .string s, .int .i64 c])).run Try.prog w = .ok (.bool false) w := by
  have hS : Try.prog.underlying 34 = some (.struct (Try.prog.fieldsOf 34)) := by kernel_rfl
  have u1 := Try.underlying32
  have u2 := Try.underlying3
  have u3 := Try.underlying9
  rw [run_neq_struct, show (10000 : Nat) = 9999 + 1 from rfl, run_equalIn_agg w 9999 34 _ _ hS (by kernel_rfl)]
  simp only [Program.fieldsOf, Try.underlying34]
  go_simp
theorem ne_seen (d : Nat) (x : VT) (w : World) : (binOp .neq 34 (.agg (seenV d x).toArray) (.agg (seenV d x).toArray)).run Try.prog w = .ok (.bool false) w := by
  cases x <;> exact ne_seen6 _ _ _ _ _ _ w
theorem guard_seen (op : BinOp) (x y : Operand) (xs ys : Array Value) (w : World) : (eqGuard op 34 x y (.agg xs) (.agg ys)).run Try.prog w = .ok () w := run_eqGuard_agg w op 34 x y xs ys (by kernel_rfl)
set_option maxHeartbeats 4000000 in
set_option maxRecDepth 100000 in
theorem sEqualSeen_any (w : World) (A A2 : Option Addr) (n c c2 : Nat) (L : List (Nat × VT)) (hn : L.length = n) (hb : n ≤ 1048576)
    (h1 : ∀ (k : Nat) (p : Nat × VT), L[k]? = some p → ∃ g, A = some ⟨g, 0, none⟩ ∧ w.rangeAt g (k * 6) (seenV p.1 p.2)) (h2 : ∀ (k : Nat) (p : Nat × VT), L[k]? = some p → ∃ g, A2 = some ⟨g, 0, none⟩ ∧ w.rangeAt g (k * 6) (seenV p.1 p.2)) :
    Calls Try.prog 21 #[.slice A n c, .slice A2 n c2] w fun e w' => e = .returned (.bool true) ∧ Keeps (fun _ => False) w w' := by
  have HAT : Hid (∀ k, k < n → ∃ (p : Nat × VT) (g g2 : Nat), A = some ⟨g, 0, none⟩ ∧ A2 = some ⟨g2, 0, none⟩ ∧ w.rangeAt g (k * 6) (seenV p.1 p.2) ∧ w.rangeAt g2 (k * 6) (seenV p.1 p.2)) := Lib.hid fun k hk => by
    obtain ⟨p, hp⟩ : ∃ p, L[k]? = some p := ⟨_, List.getElem?_eq_getElem (by omega)⟩
    obtain ⟨g, e1, q1⟩ := h1 k p hp
    obtain ⟨g2, e2, q2⟩ := h2 k p hp
    exact ⟨p, g, g2, e1, e2, q1, q2⟩
  clear h1 h2 hn
  go_enter Try.func21, Try.ntmps21
  go_upto_block 0 with fail
  go_wp2
  go_loopg [13] n (fun g2 i w3 => ∃ j, j ≤ n ∧ i = .int .i64 j ∧ g2 = n - j ∧ Hid (Keeps (fun _ => False) w w3))
  case atStart => exact ⟨0, by omega, rfl, rfl, Lib.hid (Keeps.refl _ w)⟩
  case round =>
    obtain ⟨j, hj, rfl, hg2, HA⟩ := hrel
    have HG2 := Lib.hid hg2
    clear hg2
    by_cases hlt : j < n
    · obtain ⟨p, g, g3, rfl, rfl, c1, c3⟩ := HAT.out j hlt
      obtain ⟨SC, hSC⟩ : ∃ SC, SC = seenV p.1 p.2 := ⟨_, rfl⟩
      have hne := ne_seen p.1 p.2
      rw [← hSC] at hne c1 c3
      have HSI : Hid ((Try.prog.info? 34).map (·.size) = some SC.length) := Lib.hid (by rw [hSC, seenV_length]; kernel_rfl)
      have hgd := guard_seen
      have HC1 : Hid (wr.rangeAt g (j * 6) SC) := Lib.hid fun f y hf => cell_keep HA.out (c1 f y hf)
      have HC2 : Hid (wr.rangeAt g3 (j * 6) SC) := Lib.hid fun f y hf => cell_keep HA.out (c3 f y hf)
      clear c1 c3 hSC
      go_upto_region 6 with fail
      refine wp_region_held_drew (S := Keeps (fun _ => False) wr) (by kernel_rfl) (Keeps.refl _ _).drew (fun hHeld => ?_)
      refine wpAnyH_take (i := 0) (oi := ⟨some 16, _, _, _, _, _⟩) (v := ?_) rfl (by kernel_rfl) (by kernel_rfl) (by kernel_rfl) (fun _ _ _ h => h) (Or.inl ⟨by rfl, ?_⟩) hHeld ?_
      rotate_left
      · intro w' hSw
        go_simp
        first | done | rfl
      try simp only [Act.put, List.setIfInBounds_toArray, List.set_cons_zero, List.set_cons_succ]
      refine wpAnyH_take (i := 1) (oi := ⟨some 17, _, _, _, _, _⟩) (v := ?_) rfl (by kernel_rfl) (by kernel_rfl) (by kernel_rfl) (fun _ _ _ h => h) (Or.inl ⟨by rfl, ?_⟩) hHeld ?_
      rotate_left
      · intro w' hSw
        go_simp
        first | done | rfl
      try simp only [Act.put, List.setIfInBounds_toArray, List.set_cons_zero, List.set_cons_succ]
      refine wpAnyH_take (i := 2) (oi := ⟨some 18, _, _, _, _, _⟩) (v := ?_) rfl (by kernel_rfl) (by kernel_rfl) (by kernel_rfl) (fun _ _ _ h => h) (Or.inl ⟨by rfl, ?_⟩) hHeld ?_
      rotate_left
      · intro w' hSw
        go_simp
        first | done | rfl
      try simp only [Act.put, List.setIfInBounds_toArray, List.set_cons_zero, List.set_cons_succ]
      refine wpAnyH_take (i := 3) (oi := ⟨some 19, _, _, _, _, _⟩) (v := _) rfl (by kernel_rfl) (by kernel_rfl) (by kernel_rfl) (fun _ _ _ h => h) (yieldsIf_load_mid (by rfl) _ _ rfl _ _ rfl SC _ (fun w' h => (fun f y hf => cell_keep h (HC1.out f y hf))) Try.underlying34 rfl HSI.out) hHeld ?_
      try simp only [Act.put, List.setIfInBounds_toArray, List.set_cons_zero, List.set_cons_succ]
      refine wpAnyH_take (i := 4) (oi := ⟨some 20, _, _, _, _, _⟩) (v := ?_) rfl (by kernel_rfl) (by kernel_rfl) (by kernel_rfl) (fun _ _ _ h => h) (Or.inl ⟨by rfl, ?_⟩) hHeld ?_
      rotate_left
      · intro w' hSw
        go_simp
        first | done | rfl
      try simp only [Act.put, List.setIfInBounds_toArray, List.set_cons_zero, List.set_cons_succ]
      refine wpAnyH_take (i := 5) (oi := ⟨some 21, _, _, _, _, _⟩) (v := ?_) rfl (by kernel_rfl) (by kernel_rfl) (by kernel_rfl) (fun _ _ _ h => h) (Or.inl ⟨by rfl, ?_⟩) hHeld ?_
      rotate_left
      · intro w' hSw
        go_simp
        first | done | rfl
      try simp only [Act.put, List.setIfInBounds_toArray, List.set_cons_zero, List.set_cons_succ]
      refine wpAnyH_take (i := 6) (oi := ⟨some 22, _, _, _, _, _⟩) (v := ?_) rfl (by kernel_rfl) (by kernel_rfl) (by kernel_rfl) (fun _ _ _ h => h) (Or.inl ⟨by rfl, ?_⟩) hHeld ?_
      rotate_left
      · intro w' hSw
        go_simp
        first | done | rfl
      try simp only [Act.put, List.setIfInBounds_toArray, List.set_cons_zero, List.set_cons_succ]
      refine wpAnyH_take (i := 7) (oi := ⟨some 23, _, _, _, _, _⟩) (v := _) rfl (by kernel_rfl) (by kernel_rfl) (by kernel_rfl) (fun _ _ _ h => h) (yieldsIf_load_mid (by rfl) _ _ rfl _ _ rfl SC _ (fun w' h => (fun f y hf => cell_keep h (HC2.out f y hf))) Try.underlying34 rfl HSI.out) hHeld ?_
      try simp only [Act.put, List.setIfInBounds_toArray, List.set_cons_zero, List.set_cons_succ]
      refine wpAnyH_take (i := 8) (oi := ⟨some 24, _, _, _, _, _⟩) (v := ?_) rfl (by kernel_rfl) (by kernel_rfl) (by kernel_rfl) (fun _ _ _ h => h) (Or.inl ⟨by rfl, ?_⟩) hHeld ?_
      rotate_left
      · intro w' hSw
        go_simp
        first | done | rfl
      try simp only [Act.put, List.setIfInBounds_toArray, List.set_cons_zero, List.set_cons_succ]
      refine wpAnyH_done (by kernel_rfl) ?_ _
      go_wp2
      go_roundg (n - (j + 1))
      case measure => rw [HG2.out]; omega
      case rel => exact ⟨j + 1, by omega, by go_num, rfl, Lib.hid (HA.out.trans hHeld (fun _ _ h => h))⟩
    · obtain rfl : j = n := by omega
      go_wp2
      go_ret
      exact ⟨rfl, HA.out⟩
end Go.Proofs.Ytinonjfnhedlpaa
