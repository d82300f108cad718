/-
  WALK: the law FaultTypes, where the error is refused.
-/
import Derived.Test.YtinonjfnhedlpaaFTypesK
set_option linter.unusedSimpArgs false
namespace Go.Proofs.Ytinonjfnhedlpaa
open Go Go.RowKit Go.Shelf Go.Aff Go.Fault
attribute [local go_sem] Oper.semAt_some
set_option maxHeartbeats 4000000 in
set_option maxRecDepth 100000 in
theorem types_bad (w : World) (A : Option Addr) (n c : Nat) (cs : List CauseV) (hn : cs.length = n) (hS : CausesAt w A cs) (er : Int × Nat) (hb : buildF cs = .inl er) :
    Calls Try.prog 3 #[.slice A n c] w fun e w' => e = .returned (.bool true) ∧ Keeps (fun _ => False) w w' := by
  have hdd : ∀ k : Nat, (Fence.wide.depth.isSome = true → 1 ≤ k) := fun k h => by cases h
  have HL : Hid (∀ W, Keeps (fun _ => False) w W → Calls Try.prog 8 #[.slice A n c] W fun e w' => e = .returned (.tuple #[.slice none 0 0, .iface 62 (.agg #[.int .i64 er.1, .int .i64 er.2])]) ∧ Hid (Keeps (fun _ => False) W w')) := Lib.hid fun W hW =>
    (Look_any W A n c cs hn (hS.keep hW)).mono fun e w' h => ⟨h.2.1 er hb, Lib.hid h.1⟩
  have HE : Hid (∀ W, Keeps (fun _ => False) w W → Calls Try.prog 9 #[.slice A n c] W fun e w' => e = .returned (.func (.func 26) #[] #[]) ∧ Hid (Keeps (fun _ => False) W w')) := Lib.hid fun W hW =>
    (Each_any W A n c cs hn (hS.keep hW)).mono fun e w' h => ⟨h.2.1 er hb, Lib.hid h.1⟩
  have hfn := eql_func
  clear hS hn hb
  refine (callsIn_wide (n := 8)).1 ?_
  refine callsIn_of_wp_marks Try.func3 rfl trivial ?_ rfl
  simp only [Try.ntmps3, List.size_toArray, List.length_cons, List.length_nil, Nat.reduceAdd, Nat.reduceSub, Array.replicate_succ, Array.replicate_zero, List.push_toArray, List.append_toArray, List.nil_append, List.cons_append]
  gi_wp2_with (first
    | ((try refine ⟨trivial, ?_⟩); (try refine ⟨hdd _, ?_⟩); gi_at_call 8; refine (callsIn_wide.2 (HL.out _ ((Keeps.refl _ w).alloc _))).mono ?_; rintro e w1 ⟨rfl, HK1⟩)
    | ((try refine ⟨trivial, ?_⟩); (try refine ⟨hdd _, ?_⟩); gi_at_call 9; refine (callsIn_wide.2 (HE.out _ ((((((Keeps.refl (fun _ => False) w).alloc _).trans HK1.out (fun _ _ h => h)).alloc _).alloc _)))).mono ?_; rintro e w3 ⟨rfl, HK3⟩))
  have k1 := HK1.out
  have k3 := HK3.out
  obtain ⟨r, hr⟩ : ∃ r, r = w.heap.size := ⟨_, rfl⟩
  obtain ⟨p, hp⟩ : ∃ p, p = w1.heap.size := ⟨_, rfl⟩
  obtain ⟨i, hi⟩ : ∃ i, i = p + 1 := ⟨_, rfl⟩
  have ka : Keeps (fun _ => False) w1 w3 := (((Keeps.refl _ w1).alloc _).alloc _).trans k3 (fun _ _ h => h)
  have kw : Keeps (fun _ => False) w w1 := ((Keeps.refl _ w).alloc _).trans k1 (fun _ _ h => h)
  have br : Blk w3 r 4 [.bool false] := by rw [hr]; exact ka.blk (k1.blk (Blk.new w _ _) (fun h => h)) (fun h => h)
  have bp : Blk w3 p 23 [.slice none 0 0] := by rw [hp]; exact k3.blk ((Blk.new w1 _ _).alloc _) (fun h => h)
  have bi : Blk w3 i 3 [.int .i64 0] := by
    have h1 := Blk.new (w1.alloc (.cells #[.slice none 0 0] 23)) 3 [.int .i64 0]
    rw [World.size_alloc] at h1
    rw [hi, hp]
    exact k3.blk h1 (fun h => h)
  have hkw : Keeps (fun _ => False) w w3 := kw.trans ka (fun _ _ h => h)
  rw [← hr, ← hp, ← hi]
  have HRR := Lib.hid hr
  have HD := Lib.hid hkw.size
  clear hr hp hi HK1 HK3 k1 k3 ka kw
  refine wpIn_rangeFunc_ownG rfl (by omega) (gf := 26) (lb := #[]) rfl trivial (enters_of Try.func26 (by kernel_rfl) rfl)
    (none_stops (X := []) _ (fun _ _ => True) (fun ys => ys = []) (fun _ => False) rfl 0 w3) (fun _ _ => trivial) (fun _ _ _ _ _ _ _ _ => trivial) (Below.refl _ _) (fun _ => rfl)
    (fun _ W => Keeps (fun _ => False) w W ∧ Blk W r 4 [.bool false] ∧ Blk W p 23 [.slice none 0 0] ∧ Blk W i 3 [.int .i64 0]) (fun _ _ _ => False)
    (ownFrom_cells _ _ fun _ _ _ h k => ⟨k.keeps h.1 HD.out, k.blk h.2.1, k.blk h.2.2.1, k.blk h.2.2.2⟩) (fun _ _ _ _ _ h _ _ => h) ⟨hkw, br, bp, bi⟩
    (fun _ => { tmps := #[], defers := [] }) ?assign ?body ?done ?stop
  case assign =>
    intro l x
    exact absurd x.2 (by simp)
  case stop =>
    rintro D c2 pre W _ _ h _
    exact h.elim
  case body =>
    intro l pre x
    exact absurd x.2 (by simp)
  case done =>
    rintro D ys W hDl _ ⟨h1, h2, h3, h4⟩ hK
    have HBR := Lib.hid h2
    have HBP := Lib.hid h3
    have HBI := Lib.hid h4
    have HKW := Lib.hid h1
    have HK := Lib.hid hK
    have HDL := Lib.hid hDl
    clear hK hkw hDl h1 h2 h3 h4 br bp bi
    gi_wp2
    refine wpIn_wide.2 (wp_onlyN ?_)
    refine wp_region_tail (S := Keeps (fun _ => False) W) 14 (by kernel_rfl) (Keeps.refl _ _).drew (fun hHeld => ?_)
    refine wpAnyT_take [0] (i := 0) (oi := ⟨some 134, _, _, _, _, _⟩) (v := ?_) rfl (by kernel_rfl) (by kernel_rfl) (by kernel_rfl) (by kernel_rfl) (by kernel_rfl) (fun _ _ _ h => h) (Or.inl ⟨by rfl, ?_⟩) hHeld ?_
    rotate_left
    · intro w' hSw
      have cv := (hSw.blk HBI.out (fun h => h)).cell 0
      go_simp
      first | done | rfl
    try simp only [Act.put, List.setIfInBounds_toArray, List.set_cons_zero, List.set_cons_succ]
    refine wpAnyT_take [1] (i := 1) (oi := ⟨some 135, _, _, _, _, _⟩) (v := ?_) rfl (by kernel_rfl) (by kernel_rfl) (by kernel_rfl) (by kernel_rfl) (by kernel_rfl) (fun _ _ _ h => h) (Or.inl ⟨by rfl, ?_⟩) hHeld ?_
    rotate_left
    · intro w' hSw
      have cv := (hSw.blk HBP.out (fun h => h)).cell 0
      go_simp
      first | done | rfl
    try simp only [Act.put, List.setIfInBounds_toArray, List.set_cons_zero, List.set_cons_succ]
    refine wpAnyT_take [2] (i := 2) (oi := ⟨some 136, _, _, _, _, _⟩) (v := ?_) rfl (by kernel_rfl) (by kernel_rfl) (by kernel_rfl) (by kernel_rfl) (by kernel_rfl) (fun _ _ _ h => h) (Or.inl ⟨by rfl, ?_⟩) hHeld ?_
    rotate_left
    · intro w' hSw
      go_simp
      first | done | rfl
    try simp only [Act.put, List.setIfInBounds_toArray, List.set_cons_zero, List.set_cons_succ]
    refine wpAnyT_pure (i := 3) (oi := ⟨some 137, _, _, _, _, _⟩) (v := ?_) rfl (by kernel_rfl) (by kernel_rfl) (by kernel_rfl) (fun _ _ _ h => h) (Or.inl ⟨by rfl, ?_⟩) ?_
    rotate_left
    · intro w' hSw
      go_simp
      first | done | rfl
    try simp only [Act.put, List.setIfInBounds_toArray, List.set_cons_zero, List.set_cons_succ]
    refine wpAnyT_pure (i := 4) (oi := ⟨some 138, _, _, _, _, _⟩) (v := ?_) rfl (by kernel_rfl) (by kernel_rfl) (by kernel_rfl) (fun _ _ _ h => h) (Or.inl ⟨by rfl, ?_⟩) ?_
    rotate_left
    · intro w' hSw
      go_simp
      first | done | rfl
    try simp only [Act.put, List.setIfInBounds_toArray, List.set_cons_zero, List.set_cons_succ]
    refine wpAnyT_pure (i := 5) (oi := ⟨some 139, _, _, _, _, _⟩) (v := ?_) rfl (by kernel_rfl) (by kernel_rfl) (by kernel_rfl) (fun _ _ _ h => h) (Or.inl ⟨by rfl, ?_⟩) ?_
    rotate_left
    · intro w' hSw
      go_simp
      first | done | rfl
    try simp only [Act.put, List.setIfInBounds_toArray, List.set_cons_zero, List.set_cons_succ]
    refine wpAnyT_pure (i := 6) (oi := ⟨some 140, _, _, _, _, _⟩) (v := ?_) rfl (by kernel_rfl) (by kernel_rfl) (by kernel_rfl) (fun _ _ _ h => h) (Or.inl ⟨by rfl, ?_⟩) ?_
    rotate_left
    · intro w' hSw
      go_simp
      first | done | rfl
    try simp only [Act.put, List.setIfInBounds_toArray, List.set_cons_zero, List.set_cons_succ]
    refine wpAnyT_take [7] (i := 7) (oi := ⟨some 141, _, _, _, _, _⟩) (v := ?_) rfl (by kernel_rfl) (by kernel_rfl) (by kernel_rfl) (by kernel_rfl) (by kernel_rfl) (fun _ _ _ h => h) (Or.inl ⟨by rfl, ?_⟩) hHeld ?_
    rotate_left
    · intro w' hSw
      have cv := (hSw.blk HBI.out (fun h => h)).cell 0
      go_simp
      first | done | rfl
    try simp only [Act.put, List.setIfInBounds_toArray, List.set_cons_zero, List.set_cons_succ]
    refine wpAnyT_pure (i := 8) (oi := ⟨some 142, _, _, _, _, _⟩) (v := ?_) rfl (by kernel_rfl) (by kernel_rfl) (by kernel_rfl) (fun _ _ _ h => h) (Or.inl ⟨by rfl, ?_⟩) ?_
    rotate_left
    · intro w' hSw
      go_simp
      first | done | rfl
    try simp only [Act.put, List.setIfInBounds_toArray, List.set_cons_zero, List.set_cons_succ]
    refine wpAnyT_pure (i := 9) (oi := ⟨some 143, _, _, _, _, _⟩) (v := ?_) rfl (by kernel_rfl) (by kernel_rfl) (by kernel_rfl) (fun _ _ _ h => h) (Or.inl ⟨by rfl, ?_⟩) ?_
    rotate_left
    · intro w' hSw
      go_simp
      first | done | rfl
    try simp only [Act.put, List.setIfInBounds_toArray, List.set_cons_zero, List.set_cons_succ]
    refine wpAnyT_pure (i := 10) (oi := ⟨some 144, _, _, _, _, _⟩) (v := ?_) rfl (by kernel_rfl) (by kernel_rfl) (by kernel_rfl) (fun _ _ _ h => h) (Or.inl ⟨by rfl, ?_⟩) ?_
    rotate_left
    · intro w' hSw
      go_simp
      first | done | rfl
    try simp only [Act.put, List.setIfInBounds_toArray, List.set_cons_zero, List.set_cons_succ]
    refine wpAnyT_pure (i := 11) (oi := ⟨some 145, _, _, _, _, _⟩) (v := ?_) rfl (by kernel_rfl) (by kernel_rfl) (by kernel_rfl) (fun _ _ _ h => h) (Or.inl ⟨by rfl, ?_⟩) ?_
    rotate_left
    · intro w' hSw
      go_simp
      first | done | rfl
    try simp only [Act.put, List.setIfInBounds_toArray, List.set_cons_zero, List.set_cons_succ]
    refine wpAnyT_step (i := 12) (o := ⟨some 146, _, _, _, _, _⟩) (by kernel_rfl) rfl (fun K hK => ?_)
    go_simp
    refine (works_any _).mono ?_
    rintro e W2 ⟨rfl, hk2⟩
    have hU2 := hHeld.trans hk2 (fun _ _ h => h)
    have hbr := hU2.blk HBR.out (fun h => h)
    have hst := hbr.cell 0
    have hst2 := hbr.frozen 0
    refine hK.out _ _ hU2 (fun hHeld => ?_)
    clear hK K
    try simp only [Act.put, List.setIfInBounds_toArray, List.set_cons_zero, List.set_cons_succ]
    refine wpAnyT_pure (i := 13) (oi := ⟨some 147, _, _, _, _, _⟩) (v := ?_) rfl (by kernel_rfl) (by kernel_rfl) (by kernel_rfl) (fun _ _ _ h => h) (Or.inl ⟨by rfl, ?_⟩) ?_
    rotate_left
    · intro w' hSw
      go_simp
      first | done | rfl
    try simp only [Act.put, List.setIfInBounds_toArray, List.set_cons_zero, List.set_cons_succ]
    refine wpAnyT_tail (i := 14) (o := ⟨none, _, _, _, _, _⟩) (by kernel_rfl) (by kernel_rfl) rfl (fun K hK => ?_)
    go_simp
    refine hK.out _ _ ?_
    clear hK K
    try simp only [Act.put, List.setIfInBounds_toArray, List.set_cons_zero, List.set_cons_succ]
    refine wpAnyT_done (by kernel_rfl) ?_
    simp only [onlyN]
    have hk3 : Keeps (fun k => k = r) W (W2.setCell ⟨r, 0, none⟩ (.bool true)) := (hHeld.mono (G := fun k => k = r) (fun _ _ h => h.elim)).setCell (p := ⟨r, 0, none⟩) (.inl rfl) _
    have hb3 := hbr.set_ 0 (.bool true)
    have hr3 := hb3.cell 0
    gi_wp2
    have hK3 : (W2.setCell ⟨r, 0, none⟩ (.bool true)).heap[D]? = some (.deferred (some [])) := (hk3.block D (Array.getElem?_eq_some_iff.1 HK.out).1 (fun e => by
      have h1 := HBR.out
      rw [← e] at h1
      have h2 := HK.out
      rw [show W.heap[D]? = _ from h1] at h2
      cases h2)).trans HK.out
    refine ⟨by simp, .inl ⟨_, _, rfl, run_takeDeferred hK3, ?_⟩⟩
    have kq : CK w3.heap.size (W2.setCell ⟨r, 0, none⟩ (.bool true)) ((W2.setCell ⟨r, 0, none⟩ (.bool true)).putObj D (.deferred none)) := CK.putObj hK3 rfl HDL.out _
    refine ⟨.bool true, results_bool rfl _ _ r true rfl ((kq.blk hb3).cell 0), rfl, kq.keeps (HKW.out.trans hk3 (fun q hq e => ?_)) HD.out⟩
    have h1 := HRR.out
    omega
end Go.Proofs.Ytinonjfnhedlpaa
