/-
  WALK: slices.Equal of two lists of flat errors.
-/
import Derived.Test.YtinonjfnhedlpaaFEvenP
import Derived.Test.YtinonjfnhedlpaaFHeldW
import Derived.Deep.LoopGhost
set_option linter.unusedSimpArgs false
namespace Go.Proofs.Ytinonjfnhedlpaa
open Go Go.RowKit Go.Aff Go.Fault
theorem plain_notAll {t : VT} (h : t.plain = true) : t.isAll = false := by cases t <;> first | rfl | (simp [VT.plain] at h)
theorem plain_notNil {t : VT} (h : t.plain = true) : t.isNil = false := by cases t <;> first | rfl | (simp [VT.plain] at h)
/-- '!=' of an error and itself. -/
theorem ne_plain (t : VT) (h : t.plain = true) (w : World) : (binOp .neq 25 (vv t) (vv t)).run Try.prog w = .ok (.bool false) w := by
  have h1 := eq_any (D := fun _ => True) (E := fun _ => True) w t t (At.plain h) (At.plain h) (by rw [plain_notAll h]; rfl)
  rw [eqV_self t (plain_notAll h)] at h1
  obtain ⟨T0, x0, hx0⟩ := vv_iface (plain_notNil h)
  rw [hx0] at h1 ⊢
  simp only [binOp] at h1 ⊢
  rw [Sem.run_bind] at h1 ⊢
  cases hr : (Op.equal 25 (.iface T0 x0) (.iface T0 x0)).run Try.prog w with
  | ok b w2 =>
    rw [hr] at h1
    simp only [Result.andThen_ok, Sem.run_pure, Result.ok.injEq, Value.bool.injEq] at h1
    obtain ⟨rfl, rfl⟩ := h1
    simp
  | halt x w2 =>
    rw [hr] at h1
    simp [Result.andThen] at h1
theorem guard_plain (op : BinOp) (x y : Operand) (t : VT) (h : t.plain = true) (w : World) : (eqGuard op 25 x y (vv t) (vv t)).run Try.prog w = .ok () w := by
  cases t <;> first | (simp [VT.plain] at h; done) | (cases op <;> rfl)
set_option maxHeartbeats 4000000 in
set_option maxRecDepth 100000 in
theorem sEqual_any (w : World) (A A2 : Option Addr) (n c c2 : Nat) (L : List VT) (hn : L.length = n) (hp : ∀ x, x ∈ L → x.plain = true) (h1 : Rd w A n (L.map vv)) (h2 : Rd w A2 n (L.map vv)) (hb : n ≤ 1048576) :
    Calls Try.prog 20 #[.slice A n c, .slice A2 n c2] w fun e w' => e = .returned (.bool true) ∧ Keeps (fun _ => False) w w' := by
  have HAT : Hid (∀ k, k < n → ∃ y g o g2 o2, y.plain = true ∧ A = some ⟨g, o, none⟩ ∧ A2 = some ⟨g2, o2, none⟩ ∧ w.cell? ⟨g, o + k, none⟩ = some (vv y) ∧ w.cell? ⟨g2, o2 + k, none⟩ = some (vv y)) := Lib.hid fun k hk => by
    obtain ⟨g, o, e1, q1⟩ := h1.2 (by omega)
    obtain ⟨g2, o2, e2, q2⟩ := h2.2 (by omega)
    obtain ⟨y, hy⟩ : ∃ y, L[k]? = some y := ⟨_, List.getElem?_eq_getElem (by omega)⟩
    refine ⟨y, g, o, g2, o2, hp y (List.mem_of_getElem? hy), e1, e2, ?_, ?_⟩
    · rw [q1 k hk, List.getElem?_map, hy]; rfl
    · rw [q2 k hk, List.getElem?_map, hy]; rfl
  clear h1 h2 hp hn
  go_enter Try.func20, Try.ntmps20
  go_upto_block 0 with fail
  go_wp2
  go_loopg [13] n (fun g2 i w3 => ∃ j, j ≤ n ∧ i = .int .i64 j ∧ g2 = n - j ∧ Hid (Keeps (fun _ => False) w w3))
  case atStart => exact ⟨0, by omega, rfl, rfl, Lib.hid (Keeps.refl _ w)⟩
  case round =>
    obtain ⟨j, hj, rfl, hg2, HA⟩ := hrel
    have HG2 := Lib.hid hg2
    clear hg2
    by_cases hlt : j < n
    · obtain ⟨y, g, o, g3, o3, hpy, rfl, rfl, c1, c3⟩ := HAT.out j hlt
      have HC1 := Lib.hid (cell_keep HA.out c1)
      have HC2 := Lib.hid (cell_keep HA.out c3)
      have hne := ne_plain y hpy
      have hgd := fun op x z => guard_plain op x z y hpy
      obtain ⟨yv, hyv⟩ : ∃ v, v = vv y := ⟨_, rfl⟩
      rw [← hyv] at HC1 HC2 hne hgd
      clear c1 c3 hyv
      go_upto_region 6 with fail
      refine wp_region_held_drew (S := Keeps (fun _ => False) wr) (by kernel_rfl) (Keeps.refl _ _).drew (fun hHeld => ?_)
      refine wpAnyH_take (i := 0) (oi := ⟨some 16, _, _, _, _, _⟩) (v := ?_) rfl (by kernel_rfl) (by kernel_rfl) (by kernel_rfl) (fun _ _ _ h => h) (Or.inl ⟨by rfl, ?_⟩) hHeld ?_
      rotate_left
      · intro w' hSw
        go_simp
        first | done | rfl
      try simp only [Act.put, List.setIfInBounds_toArray, List.set_cons_zero, List.set_cons_succ]
      refine wpAnyH_take (i := 1) (oi := ⟨some 17, _, _, _, _, _⟩) (v := ?_) rfl (by kernel_rfl) (by kernel_rfl) (by kernel_rfl) (fun _ _ _ h => h) (Or.inl ⟨by rfl, ?_⟩) hHeld ?_
      rotate_left
      · intro w' hSw
        go_simp
        first | done | rfl
      try simp only [Act.put, List.setIfInBounds_toArray, List.set_cons_zero, List.set_cons_succ]
      refine wpAnyH_take (i := 2) (oi := ⟨some 18, _, _, _, _, _⟩) (v := ?_) rfl (by kernel_rfl) (by kernel_rfl) (by kernel_rfl) (fun _ _ _ h => h) (Or.inl ⟨by rfl, ?_⟩) hHeld ?_
      rotate_left
      · intro w' hSw
        go_simp
        first | done | rfl
      try simp only [Act.put, List.setIfInBounds_toArray, List.set_cons_zero, List.set_cons_succ]
      refine wpAnyH_take (i := 3) (oi := ⟨some 19, _, _, _, _, _⟩) (v := ?_) rfl (by kernel_rfl) (by kernel_rfl) (by kernel_rfl) (fun _ _ _ h => h) (Or.inl ⟨by rfl, ?_⟩) hHeld ?_
      rotate_left
      · intro w' hSw
        have cv := cell_keep hSw HC1.out
        go_simp
        first | done | rfl
      try simp only [Act.put, List.setIfInBounds_toArray, List.set_cons_zero, List.set_cons_succ]
      refine wpAnyH_take (i := 4) (oi := ⟨some 20, _, _, _, _, _⟩) (v := ?_) rfl (by kernel_rfl) (by kernel_rfl) (by kernel_rfl) (fun _ _ _ h => h) (Or.inl ⟨by rfl, ?_⟩) hHeld ?_
      rotate_left
      · intro w' hSw
        go_simp
        first | done | rfl
      try simp only [Act.put, List.setIfInBounds_toArray, List.set_cons_zero, List.set_cons_succ]
      refine wpAnyH_take (i := 5) (oi := ⟨some 21, _, _, _, _, _⟩) (v := ?_) rfl (by kernel_rfl) (by kernel_rfl) (by kernel_rfl) (fun _ _ _ h => h) (Or.inl ⟨by rfl, ?_⟩) hHeld ?_
      rotate_left
      · intro w' hSw
        go_simp
        first | done | rfl
      try simp only [Act.put, List.setIfInBounds_toArray, List.set_cons_zero, List.set_cons_succ]
      refine wpAnyH_take (i := 6) (oi := ⟨some 22, _, _, _, _, _⟩) (v := ?_) rfl (by kernel_rfl) (by kernel_rfl) (by kernel_rfl) (fun _ _ _ h => h) (Or.inl ⟨by rfl, ?_⟩) hHeld ?_
      rotate_left
      · intro w' hSw
        go_simp
        first | done | rfl
      try simp only [Act.put, List.setIfInBounds_toArray, List.set_cons_zero, List.set_cons_succ]
      refine wpAnyH_take (i := 7) (oi := ⟨some 23, _, _, _, _, _⟩) (v := ?_) rfl (by kernel_rfl) (by kernel_rfl) (by kernel_rfl) (fun _ _ _ h => h) (Or.inl ⟨by rfl, ?_⟩) hHeld ?_
      rotate_left
      · intro w' hSw
        have cv := cell_keep hSw HC2.out
        go_simp
        first | done | rfl
      try simp only [Act.put, List.setIfInBounds_toArray, List.set_cons_zero, List.set_cons_succ]
      refine wpAnyH_take (i := 8) (oi := ⟨some 24, _, _, _, _, _⟩) (v := ?_) rfl (by kernel_rfl) (by kernel_rfl) (by kernel_rfl) (fun _ _ _ h => h) (Or.inl ⟨by rfl, ?_⟩) hHeld ?_
      rotate_left
      · intro w' hSw
        go_simp
        first | done | rfl
      try simp only [Act.put, List.setIfInBounds_toArray, List.set_cons_zero, List.set_cons_succ]
      refine wpAnyH_done (by kernel_rfl) ?_ _
      go_wp2
      go_roundg (n - (j + 1))
      case measure => rw [HG2.out]; omega
      case rel => exact ⟨j + 1, by omega, by go_num, rfl, Lib.hid (HA.out.trans hHeld (fun _ _ h => h))⟩
    · obtain rfl : j = n := by omega
      go_wp2
      go_ret
      exact ⟨rfl, HA.out⟩
end Go.Proofs.Ytinonjfnhedlpaa
