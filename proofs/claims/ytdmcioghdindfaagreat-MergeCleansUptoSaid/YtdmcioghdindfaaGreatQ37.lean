/-
  Texts put together: LBeyW; MergeCleansW.
-/
import Derived.Test.YtdmcioghdindfaaGreatQ30
import Derived.Test.YtdmcioghdindfaaGreatQ36
import Derived.Test.YtdmcioghdindfaaGreatQ29
set_option linter.unusedSimpArgs false
namespace Go.Proofs.YtdmcioghdindfaaGreat
open Go Go.RowKit Go.Aff Go.Json
def bulkTo (l : List StepV) (i : Nat) : Nat := sumN ((l.take i).map bulkS)
theorem bulkTo_next {l : List StepV} {i : Nat} {s : StepV} (h : l[i]? = some s) : bulkTo l (i + 1) = bulkTo l i + bulkS s := by
  unfold bulkTo
  rw [List.map_take, List.map_take]
  exact sumN_take (by rw [List.getElem?_map, h]; rfl)
theorem bulkTo_le {l : List StepV} (h : Modest l) (i : Nat) : bulkTo l i ≤ 1048576 := by
  unfold bulkTo
  rw [List.map_take]
  exact Nat.le_trans (sumN_pre _ i) h.all
set_option maxHeartbeats 4000000 in
set_option maxRecDepth 100000 in
theorem beyond_any (w : World) (A : Option Addr) (n c : Nat) (css : List (List Value)) (l : List StepV) (hS : StepsIn w A n css l) (hM : Modest l) :
    Calls Tryz.prog 5 #[.slice A n c] w fun e w' => e = .returned (.bool false) ∧ Keeps (fun _ => False) w w' := by
  have HS := Lib.hid hS
  have HM := Lib.hid hM
  have hn : n ≤ 1048576 := by rw [← hS.len]; exact hM.len
  clear hS hM
  go_enter Tryz.func5, Tryz.ntmps5
  go_wp2
  go_loopg [3, 4] n (fun gk y t wx => ∃ (i z : Nat), i ≤ n ∧ y = .int .i64 z ∧ t = .int .i64 i ∧ gk = n - i ∧ Hid (z = bulkTo l i) ∧ Hid (Keeps (fun _ => False) w wx))
  case atStart => exact ⟨0, 0, by omega, rfl, rfl, rfl, Lib.hid (by simp [bulkTo, sumN]), Lib.hid (Keeps.refl _ _)⟩
  case round =>
    obtain ⟨i, z, hin, rfl, rfl, hgk, HZ, HK⟩ := hrel
    have HGK := Lib.hid hgk
    clear hgk
    by_cases hlt : i < n
    · have hI := HS.out.stay HK.out
      obtain ⟨s, hs⟩ : ∃ s, l[i]? = some s := ⟨_, List.getElem?_eq_getElem (by rw [hI.len]; exact hlt)⟩
      obtain ⟨B, d, hcs, hrk, _⟩ := hI.at_ i s hs
      obtain ⟨g, o, hA, hc⟩ := hI.rd.2 (by omega)
      subst hA
      have hrg := item_range hc hlt (fun c hc => (hI.six c hc).1) hcs
      obtain ⟨kl, hkl⟩ : ∃ kl, kl = s.keys.length := ⟨_, rfl⟩
      obtain ⟨tl, htl⟩ : ∃ tl, tl = s.text.size := ⟨_, rfl⟩
      have HX : Hid (∀ W, Keeps (fun _ => False) wr W → W.cell? ⟨g, o + i * 6 + 3, none⟩ = some (.string s.text) ∧ W.cell? ⟨g, o + i * 6 + 5, none⟩ = some (.slice B kl d)) := Lib.hid fun W hW => ⟨cell_keep hW (hrg 3 _ rfl), cell_keep hW (by rw [hkl]; exact hrg 5 _ rfl)⟩
      have HRK : Hid (Rd wr B kl (s.keys.map .string)) := Lib.hid (by rw [hkl]; exact hrk)
      have HNX : Hid (bulkTo l (i + 1) = z + (1 + tl + kl + byF s.keys) ∧ z + (1 + tl + kl + byF s.keys) ≤ 1048576) := Lib.hid (by
        have h1 := bulkTo_next hs
        have h2 := bulkTo_le HM.out (i + 1)
        rw [h1, ← HZ.out] at h2
        rw [h1, ← HZ.out]
        unfold bulkS at h2 ⊢
        rw [htl, hkl]
        exact ⟨rfl, h2⟩)
      have hbd : z + (1 + tl + kl) ≤ 1048576 := by have := HNX.out.2; omega
      have hw1 : IntKind.i64.wrap (1 + (tl : Int)) = 1 + (tl : Int) := IntWalk.i64_in _ (by omega)
      have hw2 : IntKind.i64.wrap (1 + (tl : Int) + (kl : Int)) = 1 + (tl : Int) + (kl : Int) := IntWalk.i64_in _ (by omega)
      have hw3 : IntKind.i64.wrap ((z : Int) + (1 + (tl : Int) + (kl : Int))) = ((z + (1 + tl + kl) : Nat) : Int) := by rw [IntWalk.i64_in _ (by omega)]; omega
      have hi0 : (0 : Int) ≤ (i : Int) := by omega
      have hiN : (i : Int) < (n : Int) := by omega
      have HKL := Lib.hid hkl
      have htl' := htl.symm
      clear hI hs hcs hc hrg hrk hkl htl
      go_upto_region 5 with fail
      refine wp_region_held_drew (S := Keeps (fun _ => False) wr) (by kernel_rfl) (Keeps.refl _ _).drew (fun hHeld => ?_)
      refine wpAnyH_take (i := 0) (oi := ⟨some 12, _, _, _, _, _⟩) (v := ?_) rfl (by kernel_rfl) (by kernel_rfl) (by kernel_rfl) (fun _ _ _ h => h) (Or.inl ⟨by rfl, ?_⟩) hHeld ?_
      rotate_left
      · intro w' hSw
        go_simp
        first | done | rfl
      try simp only [Act.put, List.setIfInBounds_toArray, List.set_cons_zero, List.set_cons_succ]
      refine wpAnyH_take (i := 1) (oi := ⟨some 13, _, _, _, _, _⟩) (v := ?_) rfl (by kernel_rfl) (by kernel_rfl) (by kernel_rfl) (fun _ _ _ h => h) (Or.inl ⟨by rfl, ?_⟩) hHeld ?_
      rotate_left
      · intro w' hSw
        go_simp
        first | done | rfl
      try simp only [Act.put, List.setIfInBounds_toArray, List.set_cons_zero, List.set_cons_succ]
      refine wpAnyH_take (i := 2) (oi := ⟨some 14, _, _, _, _, _⟩) (v := ?_) rfl (by kernel_rfl) (by kernel_rfl) (by kernel_rfl) (fun _ _ _ h => h) (Or.inl ⟨by rfl, ?_⟩) hHeld ?_
      rotate_left
      · intro w' hSw
        go_simp
        first | done | rfl
      try simp only [Act.put, List.setIfInBounds_toArray, List.set_cons_zero, List.set_cons_succ]
      refine wpAnyH_take (i := 3) (oi := ⟨some 15, _, _, _, _, _⟩) (v := ?_) rfl (by kernel_rfl) (by kernel_rfl) (by kernel_rfl) (fun _ _ _ h => h) (Or.inl ⟨by rfl, ?_⟩) hHeld ?_
      rotate_left
      · intro w' hSw
        go_simp
        first | done | rfl
      try simp only [Act.put, List.setIfInBounds_toArray, List.set_cons_zero, List.set_cons_succ]
      refine wpAnyH_take (i := 4) (oi := ⟨some 16, _, _, _, _, _⟩) (v := ?_) rfl (by kernel_rfl) (by kernel_rfl) (by kernel_rfl) (fun _ _ _ h => h) (Or.inl ⟨by rfl, ?_⟩) hHeld ?_
      rotate_left
      · intro w' hSw
        go_simp
        first | done | rfl
      try simp only [Act.put, List.setIfInBounds_toArray, List.set_cons_zero, List.set_cons_succ]
      refine wpAnyH_take (i := 5) (oi := ⟨some 17, _, _, _, _, _⟩) (v := ?_) rfl (by kernel_rfl) (by kernel_rfl) (by kernel_rfl) (fun _ _ _ h => h) (Or.inl ⟨by rfl, ?_⟩) hHeld ?_
      rotate_left
      · intro w' hSw
        have cv := (HX.out _ hSw).1
        go_simp
        first | done | rfl
      try simp only [Act.put, List.setIfInBounds_toArray, List.set_cons_zero, List.set_cons_succ]
      refine wpAnyH_take (i := 6) (oi := ⟨some 18, _, _, _, _, _⟩) (v := ?_) rfl (by kernel_rfl) (by kernel_rfl) (by kernel_rfl) (fun _ _ _ h => h) (Or.inl ⟨by rfl, ?_⟩) hHeld ?_
      rotate_left
      · intro w' hSw
        go_simp
        first | done | rfl
      try simp only [Act.put, List.setIfInBounds_toArray, List.set_cons_zero, List.set_cons_succ]
      refine wpAnyH_take (i := 7) (oi := ⟨some 19, _, _, _, _, _⟩) (v := ?_) rfl (by kernel_rfl) (by kernel_rfl) (by kernel_rfl) (fun _ _ _ h => h) (Or.inl ⟨by rfl, ?_⟩) hHeld ?_
      rotate_left
      · intro w' hSw
        go_simp
        first | done | rfl
      try simp only [Act.put, List.setIfInBounds_toArray, List.set_cons_zero, List.set_cons_succ]
      refine wpAnyH_take (i := 8) (oi := ⟨some 20, _, _, _, _, _⟩) (v := ?_) rfl (by kernel_rfl) (by kernel_rfl) (by kernel_rfl) (fun _ _ _ h => h) (Or.inl ⟨by rfl, ?_⟩) hHeld ?_
      rotate_left
      · intro w' hSw
        go_simp
        first | done | rfl
      try simp only [Act.put, List.setIfInBounds_toArray, List.set_cons_zero, List.set_cons_succ]
      refine wpAnyH_take (i := 9) (oi := ⟨some 21, _, _, _, _, _⟩) (v := ?_) rfl (by kernel_rfl) (by kernel_rfl) (by kernel_rfl) (fun _ _ _ h => h) (Or.inl ⟨by rfl, ?_⟩) hHeld ?_
      rotate_left
      · intro w' hSw
        go_simp
        first | done | rfl
      try simp only [Act.put, List.setIfInBounds_toArray, List.set_cons_zero, List.set_cons_succ]
      refine wpAnyH_take (i := 10) (oi := ⟨some 22, _, _, _, _, _⟩) (v := ?_) rfl (by kernel_rfl) (by kernel_rfl) (by kernel_rfl) (fun _ _ _ h => h) (Or.inl ⟨by rfl, ?_⟩) hHeld ?_
      rotate_left
      · intro w' hSw
        go_simp
        first | done | rfl
      try simp only [Act.put, List.setIfInBounds_toArray, List.set_cons_zero, List.set_cons_succ]
      refine wpAnyH_take (i := 11) (oi := ⟨some 23, _, _, _, _, _⟩) (v := ?_) rfl (by kernel_rfl) (by kernel_rfl) (by kernel_rfl) (fun _ _ _ h => h) (Or.inl ⟨by rfl, ?_⟩) hHeld ?_
      rotate_left
      · intro w' hSw
        go_simp
        first | done | rfl
      try simp only [Act.put, List.setIfInBounds_toArray, List.set_cons_zero, List.set_cons_succ]
      refine wpAnyH_take (i := 12) (oi := ⟨some 24, _, _, _, _, _⟩) (v := ?_) rfl (by kernel_rfl) (by kernel_rfl) (by kernel_rfl) (fun _ _ _ h => h) (Or.inl ⟨by rfl, ?_⟩) hHeld ?_
      rotate_left
      · intro w' hSw
        have cv := (HX.out _ hSw).2
        go_simp
        first | done | rfl
      try simp only [Act.put, List.setIfInBounds_toArray, List.set_cons_zero, List.set_cons_succ]
      refine wpAnyH_take (i := 13) (oi := ⟨some 25, _, _, _, _, _⟩) (v := ?_) rfl (by kernel_rfl) (by kernel_rfl) (by kernel_rfl) (fun _ _ _ h => h) (Or.inl ⟨by rfl, ?_⟩) hHeld ?_
      rotate_left
      · intro w' hSw
        go_simp
        first | done | rfl
      try simp only [Act.put, List.setIfInBounds_toArray, List.set_cons_zero, List.set_cons_succ]
      refine wpAnyH_take (i := 14) (oi := ⟨some 26, _, _, _, _, _⟩) (v := ?_) rfl (by kernel_rfl) (by kernel_rfl) (by kernel_rfl) (fun _ _ _ h => h) (Or.inl ⟨by rfl, ?_⟩) hHeld ?_
      rotate_left
      · intro w' hSw
        go_simp
        first | done | rfl
      try simp only [Act.put, List.setIfInBounds_toArray, List.set_cons_zero, List.set_cons_succ]
      refine wpAnyH_take (i := 15) (oi := ⟨some 27, _, _, _, _, _⟩) (v := ?_) rfl (by kernel_rfl) (by kernel_rfl) (by kernel_rfl) (fun _ _ _ h => h) (Or.inl ⟨by rfl, ?_⟩) hHeld ?_
      rotate_left
      · intro w' hSw
        go_simp
        first | done | rfl
      try simp only [Act.put, List.setIfInBounds_toArray, List.set_cons_zero, List.set_cons_succ]
      refine wpAnyH_take (i := 16) (oi := ⟨some 3, _, _, _, _, _⟩) (v := ?_) rfl (by kernel_rfl) (by kernel_rfl) (by kernel_rfl) (fun _ _ _ h => h) (Or.inl ⟨by rfl, ?_⟩) hHeld ?_
      rotate_left
      · intro w' hSw
        go_simp
        first | done | rfl
      try simp only [Act.put, List.setIfInBounds_toArray, List.set_cons_zero, List.set_cons_succ]
      refine wpAnyH_done (by kernel_rfl) ?_ _
      have HK5 := Lib.hid hHeld
      clear hHeld hw1 hw2 hw3 htl'
      obtain ⟨z5, hz5⟩ : ∃ z5, z5 = z + (1 + tl + kl) := ⟨_, rfl⟩
      have hzc : (z : Int) + (1 + (tl : Int) + (kl : Int)) = (z5 : Int) := by omega
      rw [hzc]
      have HZ5 := Lib.hid hz5
      clear hz5 hbd hzc
      go_upto_block 2 with fail
      go_wp2
      go_loopg [3, 5] kl (fun gk y t wx => ∃ (q v : Nat), q ≤ kl ∧ y = .int .i64 v ∧ t = .int .i64 q ∧ gk = kl - q ∧ Hid (v = z5 + byF (s.keys.take q)) ∧ Hid (Keeps (fun _ => False) wr wx))
      case atStart => exact ⟨0, z5, by omega, rfl, rfl, rfl, Lib.hid (by simp [byF, sumN]), HK5⟩
      case round =>
        obtain ⟨q, v, hqk, rfl, rfl, hgk2, HV, HKQ⟩ := hrel
        have HGK2 := Lib.hid hgk2
        clear hgk2
        have hvb : v ≤ 1048576 := by
          have h1 := HV.out
          have h2 := byF_le s.keys q
          have h3 := HNX.out.2
          have h4 := HZ5.out
          omega
        have hkb : kl ≤ 1048576 := by have := HNX.out.2; omega
        obtain ⟨x3, x5⟩ := HX.out _ HKQ.out
        have d1 : decide ((v : Int) < 2147483648) = true := decide_eq_true (by omega)
        by_cases hlq : q < kl
        · obtain ⟨g3, o3, t, hB, hkt, hck⟩ := textAt (HRK.out.keep HKQ.out (fun _ _ _ h => h)) hlq
          subst hB
          obtain ⟨ts, hts⟩ : ∃ ts, ts = t.size := ⟨_, rfl⟩
          have hts' := hts.symm
          have HNV : Hid (v + ts = z5 + byF (s.keys.take (q + 1)) ∧ v + ts ≤ 1048576) := Lib.hid (by
            have h1 := byF_take hkt
            have h2 := byF_le s.keys (q + 1)
            have h3 := HNX.out.2
            have h4 := HZ5.out
            have h5 := HV.out
            rw [hts]
            exact ⟨by omega, by omega⟩)
          have hvt := HNV.out.2
          clear hkt hts
          go_wp2
          go_roundg (kl - (q + 1))
          case measure => rw [HGK2.out]; omega
          case rel => exact ⟨q + 1, v + ts, by omega, by go_num, by go_num, rfl, Lib.hid HNV.out.1, HKQ⟩
        · obtain rfl : q = kl := by omega
          have d2 : decide ((2147483648 : Int) ≤ (v : Int)) = false := decide_eq_false (by omega)
          have HE : Hid (v = bulkTo l (i + 1)) := Lib.hid (by
            rw [HV.out, HNX.out.1, HZ5.out, List.take_of_length_le (by have := HKL.out; omega)]
            omega)
          go_wp2
          go_roundg (n - (i + 1))
          case measure => rw [HGK.out]; omega
          case rel => exact ⟨i + 1, v, by omega, rfl, by go_num, rfl, HE, Lib.hid (HK.out.trans HKQ.out (fun _ _ h => h))⟩
    · obtain rfl : i = n := by omega
      go_wp2
      go_ret
      exact ⟨rfl, HK.out⟩
end Go.Proofs.YtdmcioghdindfaaGreat

set_option linter.unusedSimpArgs false
namespace Go.Proofs.YtdmcioghdindfaaGreat
open Go Go.RowKit Go.Aff Go.Json
attribute [local go_sem] Oper.semAt_some
set_option maxHeartbeats 4000000 in
set_option maxRecDepth 100000 in
theorem cleans_bad (w : World) (A : Option Addr) (n c : Nat) (css : List (List Value)) (l : List StepV) (hS : StepsIn w A n css l) (hM : Modest l) (er : Int × Option Nat) (hb : buildF l = .inl er) :
    Calls Tryz.prog 3 #[.slice A n c] w fun e w' => e = .returned (.bool true) ∧ Keeps (fun _ => False) w w' := by
  have HBY := Lib.hid (beyond_any w A n c css l hS hM)
  have HMK : Hid (∀ W, Keeps (fun _ => False) w W → Calls Tryz.prog 6 #[.slice A n c] W fun e w' => e = .returned (.tuple #[.pointer none, .agg #[.int .i64 0, .bool false, .int .u64 0, .string .empty, .slice none 0 0, .slice none 0 0], .bool false, .bool true]) ∧ Hid (Keeps (fun _ => False) w w')) := Lib.hid fun W hW => (lmade_any W A n c css l (hS.stay hW) hM).mono fun e w' h => by
    unfold LMadePost at h
    rw [hb] at h
    exact ⟨h.2, Lib.hid (hW.trans h.1 fun _ _ h => h)⟩
  clear hS hM hb
  go_enter Tryz.func3, Tryz.ntmps3
  go_wp2_with (first
    | (go_at_call 5; refine HBY.out.mono ?_; rintro e w1 ⟨rfl, hk1⟩)
    | (go_at_call 6; refine (HMK.out _ hk1).mono ?_; rintro e w2 ⟨rfl, hk2⟩; have hz := Blk.new w2 29 [.int .i64 0, .bool false, .int .u64 0, .string .empty, .slice none 0 0, .slice none 0 0]; have f0 := hz.frozen 0; have f1 := hz.frozen 1; have f2 := hz.frozen 2; have f3 := hz.frozen 3; have f4 := hz.frozen 4; have f5 := hz.frozen 5; clear hz))
  go_ret
  exact ⟨rfl, hk2.out.alloc _⟩
set_option maxHeartbeats 4000000 in
set_option maxRecDepth 100000 in
theorem cleans_ok (w : World) (A : Option Addr) (n c : Nat) (css : List (List Value)) (l : List StepV) (hS : StepsIn w A n css l) (hM : Modest l) (j : JV) (hb : buildF l = .inr j) :
    Calls Tryz.prog 3 #[.slice A n c] w fun e w' => e = .returned (.bool true) ∧ Keeps (fun _ => False) w w' := by
  obtain ⟨hok, hwi⟩ := buildF_ok hb
  have hcw := clean_within hwi
  have HBY := Lib.hid (beyond_any w A n c css l hS hM)
  have HMK : Hid (∀ W, Keeps (fun _ => False) w W → Calls Tryz.prog 6 #[.slice A n c] W fun e w' => ∃ q v u0 u1 u2 u3 A4 m4 c4 A5 m5 c5, e = .returned (.tuple #[.pointer (some ⟨q, 0, none⟩), .agg #[.int .i64 u0, .bool u1, .int .u64 u2, .string u3, .slice A4 m4 c4, .slice A5 m5 c5], .bool true, .bool true]) ∧ Hid (TreeAt (fun _ => True) w' q v j ∧ RAt (fun _ => True) w' [.int .i64 u0, .bool u1, .int .u64 u2, .string u3, .slice A4 m4 c4, .slice A5 m5 c5] j ∧ Keeps (fun _ => False) w w')) := Lib.hid fun W hW => (lmade_any W A n c css l (hS.stay hW) hM).mono fun e w' h => by
    unfold LMadePost at h
    rw [hb] at h
    obtain ⟨hk, q, v, rv, he, ht, hr⟩ := h
    obtain ⟨A4, c4, A5, c5, _, rfl, _⟩ := hr.form
    exact ⟨q, v, _, _, _, _, A4, _, c4, A5, _, c5, he, Lib.hid ⟨⟨trivial, ht.2.1, ht.2.2.mono fun _ _ _ => trivial⟩, hr.mono fun _ _ _ => trivial, hW.trans hk fun _ _ h => h⟩⟩
  have HCL : Hid (∀ W q v, Keeps (fun _ => False) w W → TreeAt (fun _ => True) W q v j → Calls Tryz.prog 7 #[.pointer (some ⟨q, 0, none⟩)] W fun e w' => ∃ q2 v2, e = .returned (.tuple #[.pointer (some ⟨q2, 0, none⟩), .nilIface]) ∧ Hid (TreeAt (fun _ => True) w' q2 v2 j.clean ∧ Keeps (fun _ => False) W w' ∧ Keeps (fun _ => False) w w')) := Lib.hid fun W q v hW ht => (clean_tree W q v j ht hok hwi).mono fun e w' h => by
    rcases h with ⟨⟨q2, v2, he, ht2, _⟩ | ⟨_, h2⟩, hk⟩
    · exact ⟨q2, v2, he, Lib.hid ⟨⟨trivial, ht2.2.1, ht2.2.2.mono fun _ _ _ => trivial⟩, hk, hW.trans hk fun _ _ h => h⟩⟩
    · exact absurd hcw h2
  have HRC : Hid (∀ W rv, Keeps (fun _ => False) w W → RAt (fun _ => True) W rv j → Calls Tryz.prog 9 #[.agg rv.toArray] W fun e w' => ∃ v', e = .returned (.agg v'.toArray) ∧ Hid (RAt (fun _ => True) w' v' j.clean ∧ Keeps (fun _ => False) W w' ∧ Keeps (fun _ => False) w w')) := Lib.hid fun W rv hW hr => (rclean_any W rv j hr hok (Nat.le_trans hwi.1 (by decide))).mono fun e w' h => by
    obtain ⟨v', he, hr2, hk⟩ := h
    exact ⟨v', he, Lib.hid ⟨hr2.mono fun _ _ _ => trivial, hk, hW.trans hk fun _ _ h => h⟩⟩
  have HIS : Hid (∀ W q v rv, Keeps (fun _ => False) w W → TreeAt (fun _ => True) W q v j.clean → RAt (fun _ => True) W rv j.clean → Calls Tryz.prog 8 #[.pointer (some ⟨q, 0, none⟩), .agg rv.toArray] W fun e w' => e = .returned (.bool true) ∧ Hid (Keeps (fun _ => False) w w')) := Lib.hid fun W q v rv hW ht hr => (is_same W q v rv j.clean ht hr (clean_ok hok) (Nat.le_trans hcw.1 (by decide))).mono fun e w' h => ⟨h.1, Lib.hid (hW.trans h.2 fun _ _ h => h)⟩
  clear hS hM hb hok hwi hcw
  go_enter Tryz.func3, Tryz.ntmps3
  go_wp2_with (first
    | (go_at_call 5; refine HBY.out.mono ?_; rintro e w1 ⟨rfl, hk1⟩)
    | (go_at_call 6; refine (HMK.out _ hk1).mono ?_; rintro e w2 ⟨q, v, u0, u1, u2, u3, A4, m4, c4, A5, m5, c5, rfl, H2⟩; have hz := Blk.new w2 29 [.int .i64 0, .bool false, .int .u64 0, .string .empty, .slice none 0 0, .slice none 0 0]; have f0 := hz.frozen 0; have f1 := hz.frozen 1; have f2 := hz.frozen 2; have f3 := hz.frozen 3; have f4 := hz.frozen 4; have f5 := hz.frozen 5; clear hz)
    | (go_at_call 7; refine (HCL.out _ q v (H2.out.2.2.alloc _) ⟨trivial, (H2.out.1.2.1.alloc _), H2.out.1.2.2.stay ((Keeps.refl _ _).alloc _)⟩).mono ?_; rintro e w4 ⟨q4, v4, rfl, H4⟩; have hc := H4.out.2.1.blk (Blk.new w2 29 [.int .i64 u0, .bool u1, .int .u64 u2, .string u3, .slice A4 m4 c4, .slice A5 m5 c5]) (fun h => h); have d0 := hc.cell 0; have d1 := hc.cell 1; have d2 := hc.cell 2; have d3 := hc.cell 3; have d4 := hc.cell 4; have d5 := hc.cell 5; clear hc)
    | (go_at_call 9; refine (HRC.out _ [.int .i64 u0, .bool u1, .int .u64 u2, .string u3, .slice A4 m4 c4, .slice A5 m5 c5] H4.out.2.2 ((H2.out.2.1.stay ((Keeps.refl _ _).alloc _)).stay H4.out.2.1)).mono ?_; rintro e w5 ⟨v5, rfl, H5⟩)
    | (go_at_call 8; refine (HIS.out _ q4 v4 v5 H5.out.2.2 ⟨trivial, H5.out.2.1.blk H4.out.1.2.1 (fun h => h), H4.out.1.2.2.stay H5.out.2.1⟩ H5.out.1).mono ?_; rintro e w6 ⟨rfl, H6⟩))
  go_ret
  exact ⟨rfl, H6.out⟩
theorem cleans_any (w : World) (A : Option Addr) (n c : Nat) (css : List (List Value)) (l : List StepV) (hS : StepsIn w A n css l) (hM : Modest l) :
    Calls Tryz.prog 3 #[.slice A n c] w fun e w' => e = .returned (.bool true) ∧ Keeps (fun _ => False) w w' := by
  cases hb : buildF l with
  | inl er => exact cleans_bad w A n c css l hS hM er hb
  | inr j => exact cleans_ok w A n c css l hS hM j hb
end Go.Proofs.YtdmcioghdindfaaGreat
