/-
  WALK: the statement ShaPlays.
-/
import Derived.Test.YtgblndddcbfdiaaDoorPlaysL
import Derived.Test.YtgblndddcbfdiaaDoorWorksW
import Derived.Deep.LoopGhost
import Derived.Deep.CutBlock
import Derived.Deep.DeepCutAuto
import Derived.LaidEqlPtr
set_option linter.unusedSimpArgs false
namespace Go.Proofs.YtgblndddcbfdiaaDoor
open Go Go.RowKit Go.Sha Go.Aff
section
variable {w wr w' : World} {gl gw gt : Nat} {s : Nat → Slot}
theorem Plays.cl (h : Plays w wr gl gw gt s) {i : Nat} (hi : i < 4) : wr.cell? ⟨gl, i, none⟩ = some (s i).ptr := by rw [h.bl.cell]; exact four_at _ hi
theorem Plays.ct (h : Plays w wr gl gw gt s) {i : Nat} (hi : i < 4) : wr.cell? ⟨gt, i, none⟩ = some (s i).there := by rw [h.bt.cell]; exact four_at _ hi
theorem Plays.fl (h : Plays w wr gl gw gt s) (i : Nat) : wr.frozen? ⟨gl, i, none⟩ = false := h.bl.frozen i
theorem Plays.ft (h : Plays w wr gl gw gt s) (i : Nat) : wr.frozen? ⟨gt, i, none⟩ = false := h.bt.frozen i
theorem Plays.rowAt (h : Plays w wr gl gw gt s) (i : Nat) (hi : i < 4) : wr.rangeAt gw (i * 10) (s i).row := fun j v hj => by
  rw [h.bw.cell]
  rw [← rows_take s hi] at hj
  have hlt := (List.getElem?_eq_some_iff.1 hj).1
  rw [List.length_take] at hlt
  rw [List.getElem?_take, if_pos (by omega), List.getElem?_drop] at hj
  exact hj
end
theorem infoMC (S : Nat → Int) (n : Int) (v : Value) : (Tryd.prog.info? 49).map (·.size) = some (hcells S n v).length := by rw [hcells_length]; kernel_rfl
theorem gen_code2 {P : Program} {c : Code} {a : Act} {Q : Exit → Act → World → Prop} {w : World} (R : World → Prop) (hR : R w) (h : ∀ W, R W → Code.wp P c Q a W) : Code.wp P c Q a w := h w hR
theorem gen_K {K : Act → World → Prop} {a : Act} {w : World} (R : World → Prop) (hR : R w) (h : ∀ W, R W → K a W) : K a w := h w hR
theorem neq_ptrs {w : World} {p q : Nat} {cp cq : List Value} (hp : Blk w p 88 cp) (hq : Blk w q 88 cq) (hne : p ≠ q) : (binOp .neq 44 (.pointer (some ⟨p, 0, none⟩)) (.pointer (some ⟨q, 0, none⟩))).run Tryd.prog w = .ok (.bool true) w := by
  obtain ⟨j, hj⟩ : ∃ j, Tryd.prog.info? 88 = some j := Option.isSome_iff_exists.1 (by kernel_rfl)
  have hs : j.size ≠ 0 := by
    have h1 : (Tryd.prog.info? 88).map (·.size) = some 10 := by kernel_rfl
    rw [hj] at h1
    simp at h1
    omega
  have h1 := run_eql_ptr_other w (P := Tryd.prog) Tryd.underlying44 hj hs (a := ⟨p, 0, none⟩) (b := ⟨q, 0, none⟩) (by intro e; injection e with e; exact hne e) hp hq
  simp only [binOp] at h1 ⊢
  cases hr : (Op.equal 44 (.pointer (some ⟨p, 0, none⟩)) (.pointer (some ⟨q, 0, none⟩))).run Tryd.prog w with
  | halt a b => simp [hr] at h1
  | ok a b =>
    simp [hr] at h1 ⊢
    exact h1
def stepZ : List Value := .int .i64 0 :: .int .i64 0 :: .int .i64 0 :: .slice none 0 0 :: hcells (fun _ => 0) 0 (.slice none 0 0)
theorem stepCells_length (o : StepV) : (stepCells o).length = 14 := by simp [stepCells, hcells_length]
theorem stepCells_one (o : StepV) : ∀ u ∈ stepCells o, u.oneCell' = true := by
  intro u hu
  simp only [stepCells, List.mem_cons] at hu
  rcases hu with rfl | rfl | rfl | rfl | hu
  · rfl
  · rfl
  · rfl
  · rfl
  · exact hcells_one _ _ _ _ _ u hu
set_option maxHeartbeats 40000000 in
set_option maxRecDepth 100000 in
theorem plays_any (w : World) (hG : Glob w) (E : Option Addr) (N ce : Nat) (ops : List StepV) (hN : ops.length = N) (hS : StepsAt w E ops) (hN2 : N ≤ 1048576) :
    Calls Tryd.prog 12 #[.slice E N ce] w fun e w' => e = .returned (.bool true) ∧ Keeps (fun _ => False) w w' := by
  have HG := Lib.hid hG
  have HS : Hid (∀ k, k < N → ∃ op ge oe, E = some ⟨ge, oe, none⟩ ∧ w.rangeAt ge (oe + k * 14) (stepCells op) ∧ StepOK w op) := Lib.hid fun k hk => by
    obtain ⟨op, hop⟩ : ∃ op, ops[k]? = some op := ⟨_, List.getElem?_eq_getElem (by omega)⟩
    obtain ⟨g, o, h1, h2, h3⟩ := hS k op hop
    exact ⟨op, g, o, h1, h2, h3⟩
  clear hS hN hG
  go_enter Tryd.func12, Tryd.ntmps12
  go_upto_region 4 with fail
  refine gen_code2 (fun W => Plays w W w.heap.size (w.heap.size + 1) (w.heap.size + 2) (fun _ => slot0)) (plays_start w) ?_
  intro W0 hp0
  obtain ⟨gl, hgl⟩ : ∃ gl, gl = w.heap.size := ⟨_, rfl⟩
  rw [← hgl] at hp0 ⊢
  obtain ⟨gw, hgw⟩ : ∃ gw, gw = gl + 1 := ⟨_, rfl⟩
  rw [← hgw] at hp0 ⊢
  obtain ⟨gt, hgt⟩ : ∃ gt, gt = gw + 1 := ⟨_, rfl⟩
  rw [show gl + 2 = gw + 1 by omega, ← hgt] at hp0
  rw [← hgt]
  have HP0 := Lib.hid hp0
  clear hp0 hgl hgw hgt
  go_wp2
  go_loopg [14] N (fun gk i wr => ∃ (k : Nat) (s : Nat → Slot), k ≤ N ∧ i = .int .i64 k ∧ gk = N - k ∧ Hid (Plays w wr gl gw gt s))
  case atStart => exact ⟨0, _, by omega, rfl, by omega, HP0⟩
  case round =>
    obtain ⟨k, s, hk, rfl, hgk, HP⟩ := hrel
    have HGK := Lib.hid hgk
    clear hgk
    by_cases hlt : k < N
    · obtain ⟨op, ge, oe, hE, hre, hok⟩ := HS.out k hlt
      subst hE
      have HOK := Lib.hid hok
      obtain ⟨i, hi, hwi⟩ := and3 op.who
      obtain ⟨j, hj, hwj⟩ := and3 op.dst
      have HI := Lib.hid hi
      have HJ := Lib.hid hj
      have hi4 : (i : Int) < 4 := by omega
      have hj4 : (j : Int) < 4 := by omega
      obtain ⟨kd, hkd⟩ : ∃ kd, kd = op.kind := ⟨_, rfl⟩
      obtain ⟨who, hwho⟩ : ∃ who, who = op.who := ⟨_, rfl⟩
      obtain ⟨dst, hdst⟩ : ∃ dst, dst = op.dst := ⟨_, rfl⟩
      obtain ⟨SC, hSC⟩ : ∃ SC, SC = stepCells op := ⟨_, rfl⟩
      obtain ⟨MC, hMC⟩ : ∃ MC, MC = hcells op.st (op.nb : Int) (.slice op.MA op.X.length op.mc) := ⟨_, rfl⟩
      obtain ⟨PV, hPV⟩ : ∃ PV, PV = Value.slice op.PA op.pss.length op.pc := ⟨_, rfl⟩
      rw [← hwho] at hwi
      rw [← hdst] at hwj
      have HWI := Lib.hid hwi
      have HWJ := Lib.hid hwj
      have HC0 : Hid (SC[0]? = some (.int .i64 kd)) := Lib.hid (by rw [hSC, hkd]; rfl)
      have HC1 : Hid (SC[1]? = some (.int .i64 who)) := Lib.hid (by rw [hSC, hwho]; rfl)
      have HC2 : Hid (SC[2]? = some (.int .i64 dst)) := Lib.hid (by rw [hSC, hdst]; rfl)
      have HC3 : Hid (SC[3]? = some PV) := Lib.hid (by rw [hSC, hPV]; rfl)
      have HC4 : Hid (∀ n v, MC[n]? = some v → SC[4 + n]? = some v) := Lib.hid fun n v hv => by
        rw [hSC, show 4 + n = n + 1 + 1 + 1 + 1 by omega]
        simp only [stepCells, List.getElem?_cons_succ]
        rw [← hMC]; exact hv
      have HSL : Hid (SC.length = 14) := Lib.hid (by rw [hSC]; exact stepCells_length _)
      have HSI : Hid ((Tryd.prog.info? 71).map (·.size) = some SC.length) := Lib.hid (by rw [HSL.out]; kernel_rfl)
      have HSO : Hid (∀ u ∈ SC, u.oneCell' = true) := Lib.hid (by rw [hSC]; exact stepCells_one _)
      have HMI : Hid ((Tryd.prog.info? 49).map (·.size) = some MC.length) := Lib.hid (by rw [hMC]; exact infoMC _ _ _)
      have HRE : Hid (wr.rangeAt ge (oe + k * 14) SC) := Lib.hid fun n v hv => by
        rw [hSC] at hv
        have h1 := hre n v hv
        exact (HP.out.keep.cell (p := ⟨ge, oe + k * 14 + n, none⟩) (World.block_lt_of_cell? w _ h1) (fun h => h)).trans h1
      have HZL : Hid (stepZ.length = 14) := Lib.hid rfl
      have HMV := Lib.hid hMC
      have HPV := Lib.hid hPV
      clear hre hok hi hj hkd hwho hdst hSC hMC hPV hwi hwj
      go_upto_region 7 with (first
        | ((with_reducible show wpList _ _ _ (⟨some 17, _, _, _, _, _⟩ :: _) _ _); refine wpList_load_mid rfl 71 _ rfl _ _ rfl SC _ HRE.out Tryd.underlying71 rfl HSI.out ?_)
        | ((with_reducible show wpList _ _ _ (⟨none, Op.store 71 _ _, _, _, _, _⟩ :: _) _ _); refine wpList_store_whole rfl 71 _ _ rfl SC rfl rfl (Blk.new wr 71 stepZ) (by rw [HSL.out, HZL.out]) HSI.out HSO.out ?_; refine gen_world (fun W => Blk W wr.heap.size 71 SC ∧ Keeps (fun _ => False) wr W) ⟨(Blk.new wr 71 stepZ).setRow SC, ((Keeps.refl _ wr).alloc _).setRow (.inr (Nat.le_refl _)) _⟩ ?_; rintro wa ⟨hba, hka⟩; have HBA := Lib.hid hba; have HKA := Lib.hid hka; clear hba hka))
      refine wp_region_held_drew (S := Keeps (fun _ => False) wa) (by kernel_rfl) (Keeps.refl (fun _ => False) _).drew (fun hHeld => ?_)
      refine wpAnyH_take (i := 0) (oi := ⟨some 18, _, _, _, _, _⟩) (v := ?_) rfl (by kernel_rfl) (by kernel_rfl) (by kernel_rfl) (fun _ _ _ h => h) (Or.inl ⟨by rfl, ?_⟩) hHeld ?_
      rotate_left
      · intro w' hSw
        go_simp
        first | done | rfl
      try simp only [Act.put, List.setIfInBounds_toArray, List.set_cons_zero, List.set_cons_succ]
      refine wpAnyH_take (i := 1) (oi := ⟨some 19, _, _, _, _, _⟩) (v := ?_) rfl (by kernel_rfl) (by kernel_rfl) (by kernel_rfl) (fun _ _ _ h => h) (Or.inl ⟨by rfl, ?_⟩) hHeld ?_
      rotate_left
      · intro w' hSw
        have cv := ((hSw.blk HBA.out (fun h => h)).cell 1).trans HC1.out
        go_simp
        first | done | rfl
      try simp only [Act.put, List.setIfInBounds_toArray, List.set_cons_zero, List.set_cons_succ]
      refine wpAnyH_take (i := 2) (oi := ⟨some 20, _, _, _, _, _⟩) (v := ?_) rfl (by kernel_rfl) (by kernel_rfl) (by kernel_rfl) (fun _ _ _ h => h) (Or.inl ⟨by rfl, ?_⟩) hHeld ?_
      rotate_left
      · intro w' hSw
        have cv := HWI.out
        go_simp
        first | done | rfl
      try simp only [Act.put, List.setIfInBounds_toArray, List.set_cons_zero, List.set_cons_succ]
      refine wpAnyH_take (i := 3) (oi := ⟨some 21, _, _, _, _, _⟩) (v := ?_) rfl (by kernel_rfl) (by kernel_rfl) (by kernel_rfl) (fun _ _ _ h => h) (Or.inl ⟨by rfl, ?_⟩) hHeld ?_
      rotate_left
      · intro w' hSw
        go_simp
        first | done | rfl
      try simp only [Act.put, List.setIfInBounds_toArray, List.set_cons_zero, List.set_cons_succ]
      refine wpAnyH_take (i := 4) (oi := ⟨some 22, _, _, _, _, _⟩) (v := ?_) rfl (by kernel_rfl) (by kernel_rfl) (by kernel_rfl) (fun _ _ _ h => h) (Or.inl ⟨by rfl, ?_⟩) hHeld ?_
      rotate_left
      · intro w' hSw
        have cv := ((hSw.blk HBA.out (fun h => h)).cell 2).trans HC2.out
        go_simp
        first | done | rfl
      try simp only [Act.put, List.setIfInBounds_toArray, List.set_cons_zero, List.set_cons_succ]
      refine wpAnyH_take (i := 5) (oi := ⟨some 23, _, _, _, _, _⟩) (v := ?_) rfl (by kernel_rfl) (by kernel_rfl) (by kernel_rfl) (fun _ _ _ h => h) (Or.inl ⟨by rfl, ?_⟩) hHeld ?_
      rotate_left
      · intro w' hSw
        have cv := HWJ.out
        go_simp
        first | done | rfl
      try simp only [Act.put, List.setIfInBounds_toArray, List.set_cons_zero, List.set_cons_succ]
      refine wpAnyH_take (i := 6) (oi := ⟨some 8, _, _, _, _, _⟩) (v := ?_) rfl (by kernel_rfl) (by kernel_rfl) (by kernel_rfl) (fun _ _ _ h => h) (Or.inl ⟨by rfl, ?_⟩) hHeld ?_
      rotate_left
      · intro w' hSw
        go_simp
        first | done | rfl
      try simp only [Act.put, List.setIfInBounds_toArray, List.set_cons_zero, List.set_cons_succ]
      refine wpAnyH_take (i := 7) (oi := ⟨some 9, _, _, _, _, _⟩) (v := ?_) rfl (by kernel_rfl) (by kernel_rfl) (by kernel_rfl) (fun _ _ _ h => h) (Or.inl ⟨by rfl, ?_⟩) hHeld ?_
      rotate_left
      · intro w' hSw
        go_simp
        first | done | rfl
      try simp only [Act.put, List.setIfInBounds_toArray, List.set_cons_zero, List.set_cons_succ]
      refine wpAnyH_done (by kernel_rfl) ?_ _

      have HKX0 := Lib.hid hHeld
      have ck := ((hHeld.blk HBA.out (fun h => h)).cell 0).trans HC0.out
      have ck2 := (HBA.out.cell 0).trans HC0.out
      clear hHeld
      go_upto_block 2 with fail
      refine gen_code2 (fun W => Keeps (fun _ => False) wa W) HKX0.out ?_
      intro wx hkx
      clear ck ck2 HKX0
      have HPX : Hid (Plays w wx gl gw gt s) := Lib.hid (HP.out.read (HKA.out.trans hkx (fun _ _ h => h)))
      have HBX := Lib.hid (hkx.blk HBA.out (fun h => h))
      clear hkx
      go_cut [10] (fun ok wz => ok = .bool true ∧ ∃ s2, Hid (Plays w wz gl gw gt s2))
      case first =>
        have hkk : kd = 0 ∨ kd = 4 ∨ kd = 5 ∨ kd = 6 ∨ kd = 7 ∨ kd = 8 ∨ (kd ≠ 0 ∧ kd ≠ 4 ∧ kd ≠ 5 ∧ kd ≠ 6 ∧ kd ≠ 7 ∧ kd ≠ 8) := by omega
        have HN5 : Hid (∀ (W : World) (u : Value) (cs : Array Value), Plays w W gl gw gt s → ((W.setCell ⟨gl, j, none⟩ u).setRow gw cs).cell? ⟨gt, j, none⟩ = some (s j).there ∧ ((W.setCell ⟨gl, j, none⟩ u).setRow gw cs).frozen? ⟨gt, j, none⟩ = false) := Lib.hid fun W u cs hW => by
          have hb := (hW.bt.far (p := ⟨gl, j, none⟩) hW.n2.symm u).setRow_far hW.n3.symm cs
          exact ⟨(hb.cell j).trans (four_at _ HJ.out), hb.frozen j⟩
        have HB5 : Hid (∀ (W : World) (u : Value), Plays w W gl gw gt s → Blk (W.setCell ⟨gl, j, none⟩ u) gw 68 (rows s)) := Lib.hid fun W u hW => hW.bw.far (p := ⟨gl, j, none⟩) hW.n1.symm u
        rcases hkk with rfl | rfl | rfl | rfl | rfl | rfl | ⟨z0, z4, z5, z6, z7, z8⟩
        · have HWR : Hid (∀ W, Keeps (fun _ => False) wx W → Calls Tryd.prog 37 #[(s i).ptr, .pointer (some ⟨gw, i * 10, none⟩), (s i).there, PV] W fun e w' => e = .returned (.bool true) ∧ ∃ s2, Plays w w' gl gw gt s2) := Lib.hid fun W hW => by
            rw [HPV.out]
            exact play_write HG.out (HPX.out.read hW) HI.out HOK.out
          go_upto_region 11 with fail
          refine wp_region_tail (S := Keeps (fun _ => False) wx) 10 (by kernel_rfl) (Keeps.refl (fun _ => False) _).drew (fun hHeld => ?_)
          refine wpAnyT_pure (i := 0) (oi := ⟨some 28, _, _, _, _, _⟩) (v := ?_) rfl (by kernel_rfl) (by kernel_rfl) (by kernel_rfl) (fun _ _ _ h => h) (Or.inl ⟨by rfl, ?_⟩) ?_
          rotate_left
          · intro w' hSw
            go_simp
            first | done | rfl
          try simp only [Act.put, List.setIfInBounds_toArray, List.set_cons_zero, List.set_cons_succ]
          refine wpAnyT_pure (i := 1) (oi := ⟨some 29, _, _, _, _, _⟩) (v := ?_) rfl (by kernel_rfl) (by kernel_rfl) (by kernel_rfl) (fun _ _ _ h => h) (Or.inl ⟨by rfl, ?_⟩) ?_
          rotate_left
          · intro w' hSw
            go_simp
            first | done | rfl
          try simp only [Act.put, List.setIfInBounds_toArray, List.set_cons_zero, List.set_cons_succ]
          refine wpAnyT_take [2] (i := 2) (oi := ⟨some 30, _, _, _, _, _⟩) (v := ?_) rfl (by kernel_rfl) (by kernel_rfl) (by kernel_rfl) (by kernel_rfl) (by kernel_rfl) (fun _ _ _ h => h) (Or.inl ⟨by rfl, ?_⟩) hHeld ?_
          rotate_left
          · intro w' hSw
            have cv := (HPX.out.read hSw).cl HI.out
            go_simp
            first | done | rfl
          try simp only [Act.put, List.setIfInBounds_toArray, List.set_cons_zero, List.set_cons_succ]
          refine wpAnyT_pure (i := 3) (oi := ⟨some 31, _, _, _, _, _⟩) (v := ?_) rfl (by kernel_rfl) (by kernel_rfl) (by kernel_rfl) (fun _ _ _ h => h) (Or.inl ⟨by rfl, ?_⟩) ?_
          rotate_left
          · intro w' hSw
            go_simp
            first | done | rfl
          try simp only [Act.put, List.setIfInBounds_toArray, List.set_cons_zero, List.set_cons_succ]
          refine wpAnyT_pure (i := 4) (oi := ⟨some 32, _, _, _, _, _⟩) (v := ?_) rfl (by kernel_rfl) (by kernel_rfl) (by kernel_rfl) (fun _ _ _ h => h) (Or.inl ⟨by rfl, ?_⟩) ?_
          rotate_left
          · intro w' hSw
            go_simp
            first | done | rfl
          try simp only [Act.put, List.setIfInBounds_toArray, List.set_cons_zero, List.set_cons_succ]
          refine wpAnyT_pure (i := 5) (oi := ⟨some 33, _, _, _, _, _⟩) (v := ?_) rfl (by kernel_rfl) (by kernel_rfl) (by kernel_rfl) (fun _ _ _ h => h) (Or.inl ⟨by rfl, ?_⟩) ?_
          rotate_left
          · intro w' hSw
            go_simp
            first | done | rfl
          try simp only [Act.put, List.setIfInBounds_toArray, List.set_cons_zero, List.set_cons_succ]
          refine wpAnyT_pure (i := 6) (oi := ⟨some 34, _, _, _, _, _⟩) (v := ?_) rfl (by kernel_rfl) (by kernel_rfl) (by kernel_rfl) (fun _ _ _ h => h) (Or.inl ⟨by rfl, ?_⟩) ?_
          rotate_left
          · intro w' hSw
            go_simp
            first | done | rfl
          try simp only [Act.put, List.setIfInBounds_toArray, List.set_cons_zero, List.set_cons_succ]
          refine wpAnyT_take [7] (i := 7) (oi := ⟨some 35, _, _, _, _, _⟩) (v := ?_) rfl (by kernel_rfl) (by kernel_rfl) (by kernel_rfl) (by kernel_rfl) (by kernel_rfl) (fun _ _ _ h => h) (Or.inl ⟨by rfl, ?_⟩) hHeld ?_
          rotate_left
          · intro w' hSw
            have cv := (HPX.out.read hSw).ct HI.out
            go_simp
            first | done | rfl
          try simp only [Act.put, List.setIfInBounds_toArray, List.set_cons_zero, List.set_cons_succ]
          refine wpAnyT_pure (i := 8) (oi := ⟨some 36, _, _, _, _, _⟩) (v := ?_) rfl (by kernel_rfl) (by kernel_rfl) (by kernel_rfl) (fun _ _ _ h => h) (Or.inl ⟨by rfl, ?_⟩) ?_
          rotate_left
          · intro w' hSw
            go_simp
            first | done | rfl
          try simp only [Act.put, List.setIfInBounds_toArray, List.set_cons_zero, List.set_cons_succ]
          refine wpAnyT_take [9] (i := 9) (oi := ⟨some 37, _, _, _, _, _⟩) (v := ?_) rfl (by kernel_rfl) (by kernel_rfl) (by kernel_rfl) (by kernel_rfl) (by kernel_rfl) (fun _ _ _ h => h) (Or.inl ⟨by rfl, ?_⟩) hHeld ?_
          rotate_left
          · intro w' hSw
            have cv := ((hSw.blk HBX.out (fun h => h)).cell 3).trans HC3.out
            go_simp
            first | done | rfl
          try simp only [Act.put, List.setIfInBounds_toArray, List.set_cons_zero, List.set_cons_succ]
          refine wpAnyT_tail (i := 10) (o := ⟨some 38, _, _, _, _, _⟩) (by kernel_rfl) (by kernel_rfl) rfl (fun K hK => ?_)
          go_simp
          refine (HWR.out _ hHeld).mono ?_
          rintro e w2 ⟨rfl, s2, hp2⟩
          have HP2 := Lib.hid hp2
          clear hp2
          refine hK.out _ _ ?_
          clear hK K
          try simp only [Act.put, List.setIfInBounds_toArray, List.set_cons_zero, List.set_cons_succ]
          refine wpAnyT_tail (i := 11) (o := ⟨some 10, _, _, _, _, _⟩) (by kernel_rfl) (by kernel_rfl) rfl (fun K hK => ?_)
          go_simp
          refine hK.out _ _ ?_
          clear hK K
          try simp only [Act.put, List.setIfInBounds_toArray, List.set_cons_zero, List.set_cons_succ]
          refine wpAnyT_done (by kernel_rfl) ?_

          go_wp2
          go_meet
          exact ⟨rfl, s2, HP2⟩
        · have HRC : Hid (∀ W, Keeps (fun _ => False) wx W → Calls Tryd.prog 38 #[.agg (s i).row.toArray] W fun e w' => ∃ A c, e = .returned (.agg (Slot.row { s i with A := A, c := c }).toArray) ∧ Rd w' A ((s i).X.length % 64) (vb ((s i).X.drop (64 * ((s i).X.length / 64)))) ∧ Keeps (fun _ => False) W w' ∧ ∀ ad, 0 < (s i).X.length % 64 → A = some ad → W.heap.size ≤ ad.block) := Lib.hid fun W hW => play_rcopy (HPX.out.read hW) HI.out
          cases hq : (s i).q with
          | none =>
            have c1 : wx.cell? ⟨gl, i, none⟩ = some (.pointer none) := by rw [HPX.out.cl HI.out]; unfold Slot.ptr; rw [hq]; rfl
            have c2 : wx.cell? ⟨gt, i, none⟩ = some (.bool false) := by rw [HPX.out.ct HI.out]; unfold Slot.there; rw [hq]; rfl
            have HQ := Lib.hid hq
            clear hq
            go_upto_region 15 with (go_at_call 25; refine (Copy_nil _).mono ?_; rintro e w1 ⟨rfl, h1⟩; subst h1)
            have HTH : Hid (some (s i).there = some (.bool false)) := Lib.hid (by unfold Slot.there; rw [HQ.out]; rfl)
            clear c1 c2
            refine wp_region_tail (S := Keeps (fun _ => False) wx) 11 (by kernel_rfl) (Keeps.refl (fun _ => False) _).drew (fun hHeld => ?_)
            refine wpAnyT_pure (i := 0) (oi := ⟨some 62, _, _, _, _, _⟩) (v := ?_) rfl (by kernel_rfl) (by kernel_rfl) (by kernel_rfl) (fun _ _ _ h => h) (Or.inl ⟨by rfl, ?_⟩) ?_
            rotate_left
            · intro w' hSw
              go_simp
              first | done | rfl
            try simp only [Act.put, List.setIfInBounds_toArray, List.set_cons_zero, List.set_cons_succ]
            refine wpAnyT_pure (i := 1) (oi := ⟨some 63, _, _, _, _, _⟩) (v := ?_) rfl (by kernel_rfl) (by kernel_rfl) (by kernel_rfl) (fun _ _ _ h => h) (Or.inl ⟨by rfl, ?_⟩) ?_
            rotate_left
            · intro w' hSw
              go_simp
              first | done | rfl
            try simp only [Act.put, List.setIfInBounds_toArray, List.set_cons_zero, List.set_cons_succ]
            refine wpAnyT_pure (i := 2) (oi := ⟨some 64, _, _, _, _, _⟩) (v := ?_) rfl (by kernel_rfl) (by kernel_rfl) (by kernel_rfl) (fun _ _ _ h => h) (Or.inl ⟨by rfl, ?_⟩) ?_
            rotate_left
            · intro w' hSw
              go_simp
              first | done | rfl
            try simp only [Act.put, List.setIfInBounds_toArray, List.set_cons_zero, List.set_cons_succ]
            refine wpAnyT_pure (i := 3) (oi := ⟨some 65, _, _, _, _, _⟩) (v := ?_) rfl (by kernel_rfl) (by kernel_rfl) (by kernel_rfl) (fun _ _ _ h => h) (Or.inl ⟨by rfl, ?_⟩) ?_
            rotate_left
            · intro w' hSw
              go_simp
              first | done | rfl
            try simp only [Act.put, List.setIfInBounds_toArray, List.set_cons_zero, List.set_cons_succ]
            refine wpAnyT_pure (i := 4) (oi := ⟨some 66, _, _, _, _, _⟩) (v := ?_) rfl (by kernel_rfl) (by kernel_rfl) (by kernel_rfl) (fun _ _ _ h => h) (Or.inl ⟨by rfl, ?_⟩) ?_
            rotate_left
            · intro w' hSw
              go_simp
              first | done | rfl
            try simp only [Act.put, List.setIfInBounds_toArray, List.set_cons_zero, List.set_cons_succ]
            refine wpAnyT_pure (i := 5) (oi := ⟨some 67, _, _, _, _, _⟩) (v := ?_) rfl (by kernel_rfl) (by kernel_rfl) (by kernel_rfl) (fun _ _ _ h => h) (Or.inl ⟨by rfl, ?_⟩) ?_
            rotate_left
            · intro w' hSw
              go_simp
              first | done | rfl
            try simp only [Act.put, List.setIfInBounds_toArray, List.set_cons_zero, List.set_cons_succ]
            refine wpAnyT_take [6] (i := 6) (oi := ⟨some 68, _, _, _, _, _⟩) (v := _) rfl (by kernel_rfl) (by kernel_rfl) (by kernel_rfl) (by kernel_rfl) (by kernel_rfl) (fun _ _ _ h => h) (yieldsIf_load_mid (by rfl) _ _ rfl _ _ rfl (s i).row _ (fun w' h => (HPX.out.read h).rowAt i HI.out) Tryd.underlying67 rfl (by rw [Slot.row_length]; exact infoRH)) hHeld ?_
            try simp only [Act.put, List.setIfInBounds_toArray, List.set_cons_zero, List.set_cons_succ]
            refine wpAnyT_pure (i := 8) (oi := ⟨some 70, _, _, _, _, _⟩) (v := ?_) rfl (by kernel_rfl) (by kernel_rfl) (by kernel_rfl) (fun _ _ _ h => h) (Or.inl ⟨by rfl, ?_⟩) ?_
            rotate_left
            · intro w' hSw
              go_simp
              first | done | rfl
            try simp only [Act.put, List.setIfInBounds_toArray, List.set_cons_zero, List.set_cons_succ]
            refine wpAnyT_pure (i := 9) (oi := ⟨some 71, _, _, _, _, _⟩) (v := ?_) rfl (by kernel_rfl) (by kernel_rfl) (by kernel_rfl) (fun _ _ _ h => h) (Or.inl ⟨by rfl, ?_⟩) ?_
            rotate_left
            · intro w' hSw
              go_simp
              first | done | rfl
            try simp only [Act.put, List.setIfInBounds_toArray, List.set_cons_zero, List.set_cons_succ]
            refine wpAnyT_take [10] (i := 10) (oi := ⟨some 72, _, _, _, _, _⟩) (v := ?_) rfl (by kernel_rfl) (by kernel_rfl) (by kernel_rfl) (by kernel_rfl) (by kernel_rfl) (fun _ _ _ h => h) (Or.inl ⟨by rfl, ?_⟩) hHeld ?_
            rotate_left
            · intro w' hSw
              have cv := ((HPX.out.read hSw).ct HI.out).trans HTH.out
              go_simp
              first | done | rfl
            try simp only [Act.put, List.setIfInBounds_toArray, List.set_cons_zero, List.set_cons_succ]
            refine wpAnyT_step (i := 7) (o := ⟨some 69, _, _, _, _, _⟩) (by kernel_rfl) rfl (fun K hK => ?_)
            go_simp
            refine (HRC.out _ hHeld).mono ?_
            rintro e w2 ⟨A5, c5, rfl, hr5, hk5, hg5⟩
            have hk25 := hHeld.trans hk5 (fun _ _ h => h)
            have HP2 := Lib.hid (HPX.out.read hk25)
            have HR5 := Lib.hid hr5
            have HK5 := Lib.hid hk25
            have HG5 : Hid (∀ ad, 0 < (s i).X.length % 64 → A5 = some ad → wx.heap.size ≤ ad.block) := Lib.hid fun ad h0 ea => Nat.le_trans hHeld.size (hg5 ad h0 ea)
            have s1 := HP2.out.cl HJ.out
            have s2 := HP2.out.fl j
            refine hK.out _ _ (hHeld.trans hk5 (fun _ _ h => h)) (fun hHeld => ?_)
            clear hK K
            try simp only [Act.put, List.setIfInBounds_toArray, List.set_cons_zero, List.set_cons_succ]
            refine wpAnyT_tail (i := 11) (o := ⟨some 73, _, _, _, _, _⟩) (by kernel_rfl) (by kernel_rfl) rfl (fun K hK => ?_)
            go_simp
            refine hK.out _ _ ?_
            clear hK K
            try simp only [Act.put, List.setIfInBounds_toArray, List.set_cons_zero, List.set_cons_succ]
            refine wpAnyT_tail (i := 12) (o := ⟨none, _, _, _, _, _⟩) (by kernel_rfl) (by kernel_rfl) rfl (fun K hK => ?_)
            go_simp
            refine hK.out _ _ ?_
            clear hK K
            try simp only [Act.put, List.setIfInBounds_toArray, List.set_cons_zero, List.set_cons_succ]
            refine wpAnyT_tail (i := 13) (o := ⟨some 74, _, _, _, _, _⟩) (by kernel_rfl) (by kernel_rfl) rfl (fun K hK => ?_)
            go_simp
            refine hK.out _ _ ?_
            clear hK K
            try simp only [Act.put, List.setIfInBounds_toArray, List.set_cons_zero, List.set_cons_succ]
            refine wpAnyT_tail (i := 14) (o := ⟨none, _, _, _, _, _⟩) (by kernel_rfl) (by kernel_rfl) rfl (fun K hK => ?_)
            refine stepH_store_at rfl 67 _ _ rfl (j * 10) (Slot.row { s i with A := A5, c := c5 }) rfl rfl (HB5.out _ _ HP2.out) (by rw [Slot.row_length, rows_length]; have := HJ.out; omega) (by rw [Slot.row_length]; exact infoRH) (Slot.row_one _) ?_
            refine gen_K (fun W => W = (w2.setCell ⟨gl, j, none⟩ (.pointer none)).setRow gw (Go.Aff.splice (rows s) (j * 10) (Slot.row { s i with A := A5, c := c5 })).toArray ∧ W.cell? ⟨gt, j, none⟩ = some (s j).there ∧ W.frozen? ⟨gt, j, none⟩ = false) ⟨rfl, HN5.out _ _ _ HP2.out⟩ ?_
            rintro w5 ⟨h5, hs3, hs4⟩
            have H5 := Lib.hid h5
            clear h5
            refine hK.out _ _ ?_
            clear hK K
            try simp only [Act.put, List.setIfInBounds_toArray, List.set_cons_zero, List.set_cons_succ]
            refine wpAnyT_tail (i := 15) (o := ⟨some 75, _, _, _, _, _⟩) (by kernel_rfl) (by kernel_rfl) rfl (fun K hK => ?_)
            go_simp
            refine hK.out _ _ ?_
            clear hK K
            try simp only [Act.put, List.setIfInBounds_toArray, List.set_cons_zero, List.set_cons_succ]
            refine wpAnyT_tail (i := 16) (o := ⟨none, _, _, _, _, _⟩) (by kernel_rfl) (by kernel_rfl) rfl (fun K hK => ?_)
            go_simp
            refine hK.out _ _ ?_
            clear hK K
            try simp only [Act.put, List.setIfInBounds_toArray, List.set_cons_zero, List.set_cons_succ]
            refine wpAnyT_done (by kernel_rfl) ?_

            go_wp2
            go_meet
            rw [H5.out]
            refine ⟨rfl, _, Lib.hid (HP2.out.put3 (w' := wx) HJ.out (sl := { s i with q := none, A := A5, c := c5 }) ⟨fun p hp => (by cases hp), HR5.out, (HPX.out.ok i HI.out).by_, (HPX.out.ok i HI.out).le⟩ (fun x ⟨p, hp, _⟩ => (by cases hp)) HK5.out HPX.out (fun ad h0 ea => ⟨HG5.out ad h0 ea, fun ⟨p, hp, _⟩ => (by cases hp)⟩))⟩
          | some p =>
            have c1 : wx.cell? ⟨gl, i, none⟩ = some (.pointer (some ⟨p, 0, none⟩)) := by rw [HPX.out.cl HI.out]; unfold Slot.ptr; rw [hq]; rfl
            have HQ := Lib.hid hq
            have hat := (HPX.out.ok i HI.out).at_ p hq
            have HPL := Lib.hid (hat.lt p (.inl rfl))
            have HCP := Lib.hid (copy_any wx p _ _ _ _ hat)
            have HBP := Lib.hid hat.1
            clear hq hat
            go_upto_region 15 with (go_at_call 25; refine HCP.out.mono ?_; rintro e w1 ⟨q1, u1, rfl, hh1, hk1, hf1⟩; have HH1 := Lib.hid hh1; have HK1 := Lib.hid hk1; have HF1 := Lib.hid hf1; have HP1 := Lib.hid (HPX.out.read hk1); have hne := neq_ptrs hh1.1 (hk1.blk HBP.out (fun h => h)) (by have h1 := hf1 q1 (.inl rfl); have h2 := HPL.out; omega); clear hh1 hk1 hf1 c1; have c1 := (HP1.out.cl HI.out).trans (show some (s i).ptr = some (.pointer (some ⟨p, 0, none⟩)) by unfold Slot.ptr; rw [HQ.out]; rfl); have c2 := (HP1.out.ct HI.out).trans (show some (s i).there = some (.bool true) by unfold Slot.there; rw [HQ.out]; rfl))
            have HTH : Hid (some (s i).there = some (.bool true)) := Lib.hid (by unfold Slot.there; rw [HQ.out]; rfl)
            clear c1 c2 hne
            refine wp_region_tail (S := Keeps (fun _ => False) w1) 11 (by kernel_rfl) (Keeps.refl (fun _ => False) _).drew (fun hHeld => ?_)
            refine wpAnyT_pure (i := 0) (oi := ⟨some 62, _, _, _, _, _⟩) (v := ?_) rfl (by kernel_rfl) (by kernel_rfl) (by kernel_rfl) (fun _ _ _ h => h) (Or.inl ⟨by rfl, ?_⟩) ?_
            rotate_left
            · intro w' hSw
              go_simp
              first | done | rfl
            try simp only [Act.put, List.setIfInBounds_toArray, List.set_cons_zero, List.set_cons_succ]
            refine wpAnyT_pure (i := 1) (oi := ⟨some 63, _, _, _, _, _⟩) (v := ?_) rfl (by kernel_rfl) (by kernel_rfl) (by kernel_rfl) (fun _ _ _ h => h) (Or.inl ⟨by rfl, ?_⟩) ?_
            rotate_left
            · intro w' hSw
              go_simp
              first | done | rfl
            try simp only [Act.put, List.setIfInBounds_toArray, List.set_cons_zero, List.set_cons_succ]
            refine wpAnyT_pure (i := 2) (oi := ⟨some 64, _, _, _, _, _⟩) (v := ?_) rfl (by kernel_rfl) (by kernel_rfl) (by kernel_rfl) (fun _ _ _ h => h) (Or.inl ⟨by rfl, ?_⟩) ?_
            rotate_left
            · intro w' hSw
              go_simp
              first | done | rfl
            try simp only [Act.put, List.setIfInBounds_toArray, List.set_cons_zero, List.set_cons_succ]
            refine wpAnyT_pure (i := 3) (oi := ⟨some 65, _, _, _, _, _⟩) (v := ?_) rfl (by kernel_rfl) (by kernel_rfl) (by kernel_rfl) (fun _ _ _ h => h) (Or.inl ⟨by rfl, ?_⟩) ?_
            rotate_left
            · intro w' hSw
              go_simp
              first | done | rfl
            try simp only [Act.put, List.setIfInBounds_toArray, List.set_cons_zero, List.set_cons_succ]
            refine wpAnyT_pure (i := 4) (oi := ⟨some 66, _, _, _, _, _⟩) (v := ?_) rfl (by kernel_rfl) (by kernel_rfl) (by kernel_rfl) (fun _ _ _ h => h) (Or.inl ⟨by rfl, ?_⟩) ?_
            rotate_left
            · intro w' hSw
              go_simp
              first | done | rfl
            try simp only [Act.put, List.setIfInBounds_toArray, List.set_cons_zero, List.set_cons_succ]
            refine wpAnyT_pure (i := 5) (oi := ⟨some 67, _, _, _, _, _⟩) (v := ?_) rfl (by kernel_rfl) (by kernel_rfl) (by kernel_rfl) (fun _ _ _ h => h) (Or.inl ⟨by rfl, ?_⟩) ?_
            rotate_left
            · intro w' hSw
              go_simp
              first | done | rfl
            try simp only [Act.put, List.setIfInBounds_toArray, List.set_cons_zero, List.set_cons_succ]
            refine wpAnyT_take [6] (i := 6) (oi := ⟨some 68, _, _, _, _, _⟩) (v := _) rfl (by kernel_rfl) (by kernel_rfl) (by kernel_rfl) (by kernel_rfl) (by kernel_rfl) (fun _ _ _ h => h) (yieldsIf_load_mid (by rfl) _ _ rfl _ _ rfl (s i).row _ (fun w' h => (HP1.out.read h).rowAt i HI.out) Tryd.underlying67 rfl (by rw [Slot.row_length]; exact infoRH)) hHeld ?_
            try simp only [Act.put, List.setIfInBounds_toArray, List.set_cons_zero, List.set_cons_succ]
            refine wpAnyT_pure (i := 8) (oi := ⟨some 70, _, _, _, _, _⟩) (v := ?_) rfl (by kernel_rfl) (by kernel_rfl) (by kernel_rfl) (fun _ _ _ h => h) (Or.inl ⟨by rfl, ?_⟩) ?_
            rotate_left
            · intro w' hSw
              go_simp
              first | done | rfl
            try simp only [Act.put, List.setIfInBounds_toArray, List.set_cons_zero, List.set_cons_succ]
            refine wpAnyT_pure (i := 9) (oi := ⟨some 71, _, _, _, _, _⟩) (v := ?_) rfl (by kernel_rfl) (by kernel_rfl) (by kernel_rfl) (fun _ _ _ h => h) (Or.inl ⟨by rfl, ?_⟩) ?_
            rotate_left
            · intro w' hSw
              go_simp
              first | done | rfl
            try simp only [Act.put, List.setIfInBounds_toArray, List.set_cons_zero, List.set_cons_succ]
            refine wpAnyT_take [10] (i := 10) (oi := ⟨some 72, _, _, _, _, _⟩) (v := ?_) rfl (by kernel_rfl) (by kernel_rfl) (by kernel_rfl) (by kernel_rfl) (by kernel_rfl) (fun _ _ _ h => h) (Or.inl ⟨by rfl, ?_⟩) hHeld ?_
            rotate_left
            · intro w' hSw
              have cv := ((HP1.out.read hSw).ct HI.out).trans HTH.out
              go_simp
              first | done | rfl
            try simp only [Act.put, List.setIfInBounds_toArray, List.set_cons_zero, List.set_cons_succ]
            refine wpAnyT_step (i := 7) (o := ⟨some 69, _, _, _, _, _⟩) (by kernel_rfl) rfl (fun K hK => ?_)
            go_simp
            refine (HRC.out _ (HK1.out.trans hHeld (fun _ _ h => h))).mono ?_
            rintro e w2 ⟨A5, c5, rfl, hr5, hk5, hg5⟩
            have hk25 := hHeld.trans hk5 (fun _ _ h => h)
            have HP2 := Lib.hid (HP1.out.read hk25)
            have HR5 := Lib.hid hr5
            have HK5 := Lib.hid hk25
            have HG5 : Hid (∀ ad, 0 < (s i).X.length % 64 → A5 = some ad → w1.heap.size ≤ ad.block) := Lib.hid fun ad h0 ea => Nat.le_trans hHeld.size (hg5 ad h0 ea)
            have s1 := HP2.out.cl HJ.out
            have s2 := HP2.out.fl j
            refine hK.out _ _ (hHeld.trans hk5 (fun _ _ h => h)) (fun hHeld => ?_)
            clear hK K
            try simp only [Act.put, List.setIfInBounds_toArray, List.set_cons_zero, List.set_cons_succ]
            refine wpAnyT_tail (i := 11) (o := ⟨some 73, _, _, _, _, _⟩) (by kernel_rfl) (by kernel_rfl) rfl (fun K hK => ?_)
            go_simp
            refine hK.out _ _ ?_
            clear hK K
            try simp only [Act.put, List.setIfInBounds_toArray, List.set_cons_zero, List.set_cons_succ]
            refine wpAnyT_tail (i := 12) (o := ⟨none, _, _, _, _, _⟩) (by kernel_rfl) (by kernel_rfl) rfl (fun K hK => ?_)
            go_simp
            refine hK.out _ _ ?_
            clear hK K
            try simp only [Act.put, List.setIfInBounds_toArray, List.set_cons_zero, List.set_cons_succ]
            refine wpAnyT_tail (i := 13) (o := ⟨some 74, _, _, _, _, _⟩) (by kernel_rfl) (by kernel_rfl) rfl (fun K hK => ?_)
            go_simp
            refine hK.out _ _ ?_
            clear hK K
            try simp only [Act.put, List.setIfInBounds_toArray, List.set_cons_zero, List.set_cons_succ]
            refine wpAnyT_tail (i := 14) (o := ⟨none, _, _, _, _, _⟩) (by kernel_rfl) (by kernel_rfl) rfl (fun K hK => ?_)
            refine stepH_store_at rfl 67 _ _ rfl (j * 10) (Slot.row { s i with A := A5, c := c5 }) rfl rfl (HB5.out _ _ HP2.out) (by rw [Slot.row_length, rows_length]; have := HJ.out; omega) (by rw [Slot.row_length]; exact infoRH) (Slot.row_one _) ?_
            refine gen_K (fun W => W = (w2.setCell ⟨gl, j, none⟩ (.pointer (some ⟨q1, 0, none⟩))).setRow gw (Go.Aff.splice (rows s) (j * 10) (Slot.row { s i with A := A5, c := c5 })).toArray ∧ W.cell? ⟨gt, j, none⟩ = some (s j).there ∧ W.frozen? ⟨gt, j, none⟩ = false) ⟨rfl, HN5.out _ _ _ HP2.out⟩ ?_
            rintro w5 ⟨h5, hs3, hs4⟩
            have H5 := Lib.hid h5
            clear h5
            refine hK.out _ _ ?_
            clear hK K
            try simp only [Act.put, List.setIfInBounds_toArray, List.set_cons_zero, List.set_cons_succ]
            refine wpAnyT_tail (i := 15) (o := ⟨some 75, _, _, _, _, _⟩) (by kernel_rfl) (by kernel_rfl) rfl (fun K hK => ?_)
            go_simp
            refine hK.out _ _ ?_
            clear hK K
            try simp only [Act.put, List.setIfInBounds_toArray, List.set_cons_zero, List.set_cons_succ]
            refine wpAnyT_tail (i := 16) (o := ⟨none, _, _, _, _, _⟩) (by kernel_rfl) (by kernel_rfl) rfl (fun K hK => ?_)
            go_simp
            refine hK.out _ _ ?_
            clear hK K
            try simp only [Act.put, List.setIfInBounds_toArray, List.set_cons_zero, List.set_cons_succ]
            refine wpAnyT_done (by kernel_rfl) ?_

            go_wp2
            go_meet
            rw [H5.out]
            refine ⟨rfl, _, Lib.hid (HP2.out.put3 (w' := wx) HJ.out (sl := { s i with q := some q1, v := u1, A := A5, c := c5 }) ⟨fun p' hp => ?_, HR5.out, (HPX.out.ok i HI.out).by_, (HPX.out.ok i HI.out).le⟩ (fun x ⟨p', hp, hx⟩ => ?_) (HK1.out.trans HK5.out (fun _ _ h => h)) HPX.out (fun ad h0 ea => ⟨Nat.le_trans HK1.out.size (HG5.out ad h0 ea), fun ⟨p', hp, hx⟩ => ?_⟩))⟩
            · injection hp with hp
              subst hp
              exact HH1.out.keep HK5.out (fun _ _ h => h)
            · injection hp with hp
              subst hp
              exact HF1.out x hx
            · injection hp with hp
              subst hp
              have h1 := HH1.out.lt _ hx
              have h2 := HG5.out ad h0 ea
              omega
        · have HRS : Hid (Calls Tryd.prog 32 #[(s i).ptr] wx fun e w' => e = .returned (.tuple #[]) ∧ Keeps (s i).foot wx w' ∧ ∀ p, (s i).q = some p → HashAt w' p (.slice none 0 0) first 0 []) := Lib.hid (play_reset HG.out HPX.out HI.out)
          have c1 := HPX.out.cl HI.out
          go_wp2_with (first
            | (go_at_call 32; refine HRS.out.mono ?_; rintro e w1 ⟨rfl, hk1, hh1⟩; have HK1 := Lib.hid hk1; have HH1 := Lib.hid hh1; clear hk1 hh1)
            | (go_at_call 39; refine (rnew_any _).mono ?_; rintro e w2 ⟨rfl, hk2⟩; have HRE3 := Lib.hid (HPX.out.reset HI.out (HK1.out.trans hk2 (fun _ _ h => h.elim)) (fun p hp => (HH1.out p hp).keep hk2 (fun _ _ h => h))); clear hk2)
            | ((with_reducible show wpList _ _ _ (⟨none, Op.store 67 _ _, _, _, _, _⟩ :: _) _ _); refine wpList_store_at rfl 67 _ _ rfl (i * 10) (hcells first 0 (.slice none 0 0)) rfl rfl HRE3.out.1 (by rw [hcells_length, rows_length]; have := HI.out; omega) (by rw [hcells_length]; exact infoRH) (hcells_one _ _ _ _ _) ?_))
          go_meet
          exact ⟨rfl, _, Lib.hid HRE3.out.2⟩
        · have HRE2 : Hid (∀ W, Keeps (fun _ => False) wx W → Calls Tryd.prog 40 #[.pointer (some ⟨gl, j, none⟩), .pointer (some ⟨gw, j * 10, none⟩), .pointer (some ⟨gt, j, none⟩), .agg MC.toArray] W fun e w' => e = .returned (.bool true) ∧ ∃ s2, Plays w w' gl gw gt s2) := Lib.hid fun W hW => by
            rw [HMV.out]
            exact play_resume (HPX.out.read hW) HJ.out HOK.out
          have HMR : Hid (∀ W, Keeps (fun _ => False) wx W → W.rangeAt wr.heap.size 4 MC) := Lib.hid fun W hW n v hv => by
            rw [(hW.blk HBX.out (fun h => h)).cell]
            exact HC4.out n v hv
          go_upto_region 20 with fail
          refine wp_region_tail (S := Keeps (fun _ => False) wx) 8 (by kernel_rfl) (Keeps.refl (fun _ => False) _).drew (fun hHeld => ?_)
          refine wpAnyT_pure (i := 0) (oi := ⟨some 87, _, _, _, _, _⟩) (v := ?_) rfl (by kernel_rfl) (by kernel_rfl) (by kernel_rfl) (fun _ _ _ h => h) (Or.inl ⟨by rfl, ?_⟩) ?_
          rotate_left
          · intro w' hSw
            go_simp
            first | done | rfl
          try simp only [Act.put, List.setIfInBounds_toArray, List.set_cons_zero, List.set_cons_succ]
          refine wpAnyT_pure (i := 1) (oi := ⟨some 88, _, _, _, _, _⟩) (v := ?_) rfl (by kernel_rfl) (by kernel_rfl) (by kernel_rfl) (fun _ _ _ h => h) (Or.inl ⟨by rfl, ?_⟩) ?_
          rotate_left
          · intro w' hSw
            go_simp
            first | done | rfl
          try simp only [Act.put, List.setIfInBounds_toArray, List.set_cons_zero, List.set_cons_succ]
          refine wpAnyT_pure (i := 2) (oi := ⟨some 89, _, _, _, _, _⟩) (v := ?_) rfl (by kernel_rfl) (by kernel_rfl) (by kernel_rfl) (fun _ _ _ h => h) (Or.inl ⟨by rfl, ?_⟩) ?_
          rotate_left
          · intro w' hSw
            go_simp
            first | done | rfl
          try simp only [Act.put, List.setIfInBounds_toArray, List.set_cons_zero, List.set_cons_succ]
          refine wpAnyT_pure (i := 3) (oi := ⟨some 90, _, _, _, _, _⟩) (v := ?_) rfl (by kernel_rfl) (by kernel_rfl) (by kernel_rfl) (fun _ _ _ h => h) (Or.inl ⟨by rfl, ?_⟩) ?_
          rotate_left
          · intro w' hSw
            go_simp
            first | done | rfl
          try simp only [Act.put, List.setIfInBounds_toArray, List.set_cons_zero, List.set_cons_succ]
          refine wpAnyT_pure (i := 4) (oi := ⟨some 91, _, _, _, _, _⟩) (v := ?_) rfl (by kernel_rfl) (by kernel_rfl) (by kernel_rfl) (fun _ _ _ h => h) (Or.inl ⟨by rfl, ?_⟩) ?_
          rotate_left
          · intro w' hSw
            go_simp
            first | done | rfl
          try simp only [Act.put, List.setIfInBounds_toArray, List.set_cons_zero, List.set_cons_succ]
          refine wpAnyT_pure (i := 5) (oi := ⟨some 92, _, _, _, _, _⟩) (v := ?_) rfl (by kernel_rfl) (by kernel_rfl) (by kernel_rfl) (fun _ _ _ h => h) (Or.inl ⟨by rfl, ?_⟩) ?_
          rotate_left
          · intro w' hSw
            go_simp
            first | done | rfl
          try simp only [Act.put, List.setIfInBounds_toArray, List.set_cons_zero, List.set_cons_succ]
          refine wpAnyT_pure (i := 6) (oi := ⟨some 93, _, _, _, _, _⟩) (v := ?_) rfl (by kernel_rfl) (by kernel_rfl) (by kernel_rfl) (fun _ _ _ h => h) (Or.inl ⟨by rfl, ?_⟩) ?_
          rotate_left
          · intro w' hSw
            go_simp
            first | done | rfl
          try simp only [Act.put, List.setIfInBounds_toArray, List.set_cons_zero, List.set_cons_succ]
          refine wpAnyT_take [7] (i := 7) (oi := ⟨some 94, _, _, _, _, _⟩) (v := _) rfl (by kernel_rfl) (by kernel_rfl) (by kernel_rfl) (by kernel_rfl) (by kernel_rfl) (fun _ _ _ h => h) (yieldsIf_load_mid (by rfl) _ _ rfl _ _ rfl MC _ (fun w' h => HMR.out w' h) Tryd.underlying49 rfl HMI.out) hHeld ?_
          try simp only [Act.put, List.setIfInBounds_toArray, List.set_cons_zero, List.set_cons_succ]
          refine wpAnyT_tail (i := 8) (o := ⟨some 95, _, _, _, _, _⟩) (by kernel_rfl) (by kernel_rfl) rfl (fun K hK => ?_)
          go_simp
          refine (HRE2.out _ hHeld).mono ?_
          rintro e w2 ⟨rfl, s2, hp2⟩
          have HP2 := Lib.hid hp2
          clear hp2
          refine hK.out _ _ ?_
          clear hK K
          try simp only [Act.put, List.setIfInBounds_toArray, List.set_cons_zero, List.set_cons_succ]
          refine wpAnyT_tail (i := 9) (o := ⟨some 10, _, _, _, _, _⟩) (by kernel_rfl) (by kernel_rfl) rfl (fun K hK => ?_)
          go_simp
          refine hK.out _ _ ?_
          clear hK K
          try simp only [Act.put, List.setIfInBounds_toArray, List.set_cons_zero, List.set_cons_succ]
          refine wpAnyT_done (by kernel_rfl) ?_

          go_wp2
          go_meet
          exact ⟨rfl, s2, HP2⟩
        · have HNW := Lib.hid (new_any wx (HG.out.keep HPX.out.keep (fun _ h => h.elim)))
          have HOW := Lib.hid (own_new wx)
          obtain ⟨w1, hw1⟩ : ∃ w1, w1 = wx.alloc (.cells (hcells first 0 (.slice none 0 0)).toArray 88) := ⟨_, rfl⟩
          rw [← hw1] at HNW HOW
          have HR0 : Hid (hcells first 0 (.slice none 0 0) = Slot.row ⟨some wx.heap.size, .slice none 0 0, first, 0, [], none, 0⟩) := Lib.hid (by simp [Slot.row, stN])
          clear hw1
          go_upto_region 23 with (first
            | (go_at_call 21; refine HNW.out.mono ?_; rintro e w9 ⟨rfl, h9⟩; subst h9)
            | (go_at_call 39; refine (rnew_any _).mono ?_; rintro e w2 ⟨rfl, hk2⟩; rw [HR0.out]; have HK2 := Lib.hid hk2; have HP2 := Lib.hid (HPX.out.read (HOW.out.2.1.trans hk2 (fun _ _ h => h))); have s1 := HP2.out.cl HJ.out; have s2 := HP2.out.fl j; clear hk2)
            | ((with_reducible show wpList _ _ _ (⟨none, Op.store 67 _ _, _, _, _, _⟩ :: _) _ _); refine wpList_store_at rfl 67 _ _ rfl (j * 10) (Slot.row ⟨some wx.heap.size, .slice none 0 0, first, 0, [], none, 0⟩) rfl rfl (HB5.out _ _ HP2.out) (by rw [Slot.row_length, rows_length]; have := HJ.out; omega) (by rw [Slot.row_length]; exact infoRH) (Slot.row_one _) ?_; refine gen_world (fun W => W = (w2.setCell ⟨gl, j, none⟩ (.pointer (some ⟨wx.heap.size, 0, none⟩))).setRow gw (Go.Aff.splice (rows s) (j * 10) (Slot.row ⟨some wx.heap.size, .slice none 0 0, first, 0, [], none, 0⟩)).toArray ∧ W.cell? ⟨gt, j, none⟩ = some (s j).there ∧ W.frozen? ⟨gt, j, none⟩ = false) ⟨rfl, HN5.out _ _ _ HP2.out⟩ ?_; rintro w5 ⟨h5, hs3, hs4⟩; have H5 := Lib.hid h5; clear h5))
          refine gen_code2 (fun W => Plays w W gl gw gt (up s j ⟨some wx.heap.size, .slice none 0 0, first, 0, [], none, 0⟩)) ?_ ?_
          · rw [H5.out]
            refine HP2.out.put3 (w' := wx) HJ.out (sl := ⟨some wx.heap.size, .slice none 0 0, first, 0, [], none, 0⟩) ⟨fun p' hp => ?_, ⟨by simp [vb], fun h => absurd h (by simp)⟩, (fun x hx => by cases hx), by simp⟩ (fun x ⟨p', hp, hx⟩ => ?_) (HOW.out.2.1.trans HK2.out (fun _ _ h => h)) HPX.out (fun ad h0 => by simp at h0)
            · injection hp with hp
              subst hp
              exact HOW.out.1.keep HK2.out (fun _ _ h => h)
            · injection hp with hp
              subst hp
              exact HOW.out.2.2 x hx
          · intro w7 hp7
            have c7 := hp7.cl HJ.out
            rw [up_at] at c7
            have c8 : w7.cell? ⟨gl, j, none⟩ = some (.pointer (some ⟨wx.heap.size, 0, none⟩)) := c7
            have HP7 := Lib.hid hp7
            clear c7 hp7
            go_wp2
            go_meet
            exact ⟨rfl, _, HP7⟩
        · have s1 := HPX.out.cl HJ.out
          have s2 := HPX.out.fl j
          have s3 := HPX.out.ct HJ.out
          have s4 := HPX.out.ft j
          have n2 := HPX.out.n2
          have n2' := HPX.out.n2.symm
          go_wp2
          go_meet
          exact ⟨rfl, _, Lib.hid (HPX.out.putn HJ.out)⟩
        · go_wp2
          go_meet
          exact ⟨rfl, _, HPX⟩
      case rest =>
        obtain ⟨rfl, s', HPC⟩ := hcut
        have HT1 : Hid (∀ W, Keeps (fun _ => False) wc W → Calls Tryd.prog 41 #[(s' i).ptr, .agg (s' i).row.toArray, (s' i).there] W fun e w' => e = .returned (.bool true) ∧ Keeps (fun _ => False) W w') := Lib.hid fun W hW => play_told HG.out (HPC.out.read hW) HI.out
        have HT2 : Hid (∀ W, Keeps (fun _ => False) wc W → Calls Tryd.prog 41 #[(s' j).ptr, .agg (s' j).row.toArray, (s' j).there] W fun e w' => e = .returned (.bool true) ∧ Keeps (fun _ => False) W w') := Lib.hid fun W hW => play_told HG.out (HPC.out.read hW) HJ.out
        have HRW : Hid (∀ W, Keeps (fun _ => False) wc W → ∀ i, i < 4 → W.rangeAt gw (i * 10) (s' i).row) := Lib.hid fun W hW i hi => (HPC.out.read hW).rowAt i hi
        have HRI : Hid (∀ i, (Tryd.prog.info? 67).map (·.size) = some (s' i).row.length) := Lib.hid fun i => by rw [Slot.row_length]; exact infoRH
        go_upto_region 26 with fail
        refine wp_region_held_drew (S := Keeps (fun _ => False) wc) (by kernel_rfl) (Keeps.refl (fun _ => False) _).drew (fun hHeld => ?_)
        refine wpAnyH_take (i := 0) (oi := ⟨some 116, _, _, _, _, _⟩) (v := ?_) rfl (by kernel_rfl) (by kernel_rfl) (by kernel_rfl) (fun _ _ _ h => h) (Or.inl ⟨by rfl, ?_⟩) hHeld ?_
        rotate_left
        · intro w' hSw
          go_simp
          first | done | rfl
        try simp only [Act.put, List.setIfInBounds_toArray, List.set_cons_zero, List.set_cons_succ]
        refine wpAnyH_take (i := 1) (oi := ⟨some 117, _, _, _, _, _⟩) (v := ?_) rfl (by kernel_rfl) (by kernel_rfl) (by kernel_rfl) (fun _ _ _ h => h) (Or.inl ⟨by rfl, ?_⟩) hHeld ?_
        rotate_left
        · intro w' hSw
          go_simp
          first | done | rfl
        try simp only [Act.put, List.setIfInBounds_toArray, List.set_cons_zero, List.set_cons_succ]
        refine wpAnyH_take (i := 2) (oi := ⟨some 118, _, _, _, _, _⟩) (v := ?_) rfl (by kernel_rfl) (by kernel_rfl) (by kernel_rfl) (fun _ _ _ h => h) (Or.inl ⟨by rfl, ?_⟩) hHeld ?_
        rotate_left
        · intro w' hSw
          go_simp
          first | done | rfl
        try simp only [Act.put, List.setIfInBounds_toArray, List.set_cons_zero, List.set_cons_succ]
        refine wpAnyH_take (i := 3) (oi := ⟨some 119, _, _, _, _, _⟩) (v := ?_) rfl (by kernel_rfl) (by kernel_rfl) (by kernel_rfl) (fun _ _ _ h => h) (Or.inl ⟨by rfl, ?_⟩) hHeld ?_
        rotate_left
        · intro w' hSw
          go_simp
          first | done | rfl
        try simp only [Act.put, List.setIfInBounds_toArray, List.set_cons_zero, List.set_cons_succ]
        refine wpAnyH_take (i := 4) (oi := ⟨some 120, _, _, _, _, _⟩) (v := ?_) rfl (by kernel_rfl) (by kernel_rfl) (by kernel_rfl) (fun _ _ _ h => h) (Or.inl ⟨by rfl, ?_⟩) hHeld ?_
        rotate_left
        · intro w' hSw
          go_simp
          first | done | rfl
        try simp only [Act.put, List.setIfInBounds_toArray, List.set_cons_zero, List.set_cons_succ]
        refine wpAnyH_take (i := 5) (oi := ⟨some 121, _, _, _, _, _⟩) (v := ?_) rfl (by kernel_rfl) (by kernel_rfl) (by kernel_rfl) (fun _ _ _ h => h) (Or.inl ⟨by rfl, ?_⟩) hHeld ?_
        rotate_left
        · intro w' hSw
          have cv := (HPC.out.read hSw).cl HI.out
          go_simp
          first | done | rfl
        try simp only [Act.put, List.setIfInBounds_toArray, List.set_cons_zero, List.set_cons_succ]
        refine wpAnyH_take (i := 6) (oi := ⟨some 122, _, _, _, _, _⟩) (v := ?_) rfl (by kernel_rfl) (by kernel_rfl) (by kernel_rfl) (fun _ _ _ h => h) (Or.inl ⟨by rfl, ?_⟩) hHeld ?_
        rotate_left
        · intro w' hSw
          go_simp
          first | done | rfl
        try simp only [Act.put, List.setIfInBounds_toArray, List.set_cons_zero, List.set_cons_succ]
        refine wpAnyH_take (i := 7) (oi := ⟨some 123, _, _, _, _, _⟩) (v := ?_) rfl (by kernel_rfl) (by kernel_rfl) (by kernel_rfl) (fun _ _ _ h => h) (Or.inl ⟨by rfl, ?_⟩) hHeld ?_
        rotate_left
        · intro w' hSw
          go_simp
          first | done | rfl
        try simp only [Act.put, List.setIfInBounds_toArray, List.set_cons_zero, List.set_cons_succ]
        refine wpAnyH_take (i := 8) (oi := ⟨some 124, _, _, _, _, _⟩) (v := _) rfl (by kernel_rfl) (by kernel_rfl) (by kernel_rfl) (fun _ _ _ h => h) (yieldsIf_load_mid (by rfl) _ _ rfl _ _ rfl (s' i).row _ (fun w' h => HRW.out w' h i HI.out) Tryd.underlying67 rfl (HRI.out i)) hHeld ?_
        try simp only [Act.put, List.setIfInBounds_toArray, List.set_cons_zero, List.set_cons_succ]
        refine wpAnyH_take (i := 9) (oi := ⟨some 125, _, _, _, _, _⟩) (v := ?_) rfl (by kernel_rfl) (by kernel_rfl) (by kernel_rfl) (fun _ _ _ h => h) (Or.inl ⟨by rfl, ?_⟩) hHeld ?_
        rotate_left
        · intro w' hSw
          go_simp
          first | done | rfl
        try simp only [Act.put, List.setIfInBounds_toArray, List.set_cons_zero, List.set_cons_succ]
        refine wpAnyH_take (i := 10) (oi := ⟨some 126, _, _, _, _, _⟩) (v := ?_) rfl (by kernel_rfl) (by kernel_rfl) (by kernel_rfl) (fun _ _ _ h => h) (Or.inl ⟨by rfl, ?_⟩) hHeld ?_
        rotate_left
        · intro w' hSw
          go_simp
          first | done | rfl
        try simp only [Act.put, List.setIfInBounds_toArray, List.set_cons_zero, List.set_cons_succ]
        refine wpAnyH_take (i := 11) (oi := ⟨some 127, _, _, _, _, _⟩) (v := ?_) rfl (by kernel_rfl) (by kernel_rfl) (by kernel_rfl) (fun _ _ _ h => h) (Or.inl ⟨by rfl, ?_⟩) hHeld ?_
        rotate_left
        · intro w' hSw
          have cv := (HPC.out.read hSw).ct HI.out
          go_simp
          first | done | rfl
        try simp only [Act.put, List.setIfInBounds_toArray, List.set_cons_zero, List.set_cons_succ]
        refine wpAnyH_ready (rs := [12]) (by kernel_rfl) (by simp) ?_
        refine AllReadyH.cons (o := ⟨some 128, _, _, _, _, _⟩) rfl (fun K hK => ?_) AllReadyH.nil
        go_simp
        refine (HT1.out _ hHeld).mono ?_
        rintro e v1 ⟨rfl, hk1⟩
        have hq1 := hHeld.trans hk1 (fun _ _ h => h)
        refine hK.out _ _ hq1 (fun hHeld => ?_)
        clear hK K
        try simp only [Act.put, List.setIfInBounds_toArray, List.set_cons_zero, List.set_cons_succ]
        refine wpAnyH_take (i := 13) (oi := ⟨some 129, _, _, _, _, _⟩) (v := ?_) rfl (by kernel_rfl) (by kernel_rfl) (by kernel_rfl) (fun _ _ _ h => h) (Or.inl ⟨by rfl, ?_⟩) hHeld ?_
        rotate_left
        · intro w' hSw
          go_simp
          first | done | rfl
        try simp only [Act.put, List.setIfInBounds_toArray, List.set_cons_zero, List.set_cons_succ]
        refine wpAnyH_take (i := 14) (oi := ⟨some 130, _, _, _, _, _⟩) (v := ?_) rfl (by kernel_rfl) (by kernel_rfl) (by kernel_rfl) (fun _ _ _ h => h) (Or.inl ⟨by rfl, ?_⟩) hHeld ?_
        rotate_left
        · intro w' hSw
          go_simp
          first | done | rfl
        try simp only [Act.put, List.setIfInBounds_toArray, List.set_cons_zero, List.set_cons_succ]
        refine wpAnyH_take (i := 15) (oi := ⟨some 131, _, _, _, _, _⟩) (v := ?_) rfl (by kernel_rfl) (by kernel_rfl) (by kernel_rfl) (fun _ _ _ h => h) (Or.inl ⟨by rfl, ?_⟩) hHeld ?_
        rotate_left
        · intro w' hSw
          go_simp
          first | done | rfl
        try simp only [Act.put, List.setIfInBounds_toArray, List.set_cons_zero, List.set_cons_succ]
        refine wpAnyH_take (i := 16) (oi := ⟨some 132, _, _, _, _, _⟩) (v := ?_) rfl (by kernel_rfl) (by kernel_rfl) (by kernel_rfl) (fun _ _ _ h => h) (Or.inl ⟨by rfl, ?_⟩) hHeld ?_
        rotate_left
        · intro w' hSw
          go_simp
          first | done | rfl
        try simp only [Act.put, List.setIfInBounds_toArray, List.set_cons_zero, List.set_cons_succ]
        refine wpAnyH_take (i := 17) (oi := ⟨some 133, _, _, _, _, _⟩) (v := ?_) rfl (by kernel_rfl) (by kernel_rfl) (by kernel_rfl) (fun _ _ _ h => h) (Or.inl ⟨by rfl, ?_⟩) hHeld ?_
        rotate_left
        · intro w' hSw
          go_simp
          first | done | rfl
        try simp only [Act.put, List.setIfInBounds_toArray, List.set_cons_zero, List.set_cons_succ]
        refine wpAnyH_take (i := 18) (oi := ⟨some 134, _, _, _, _, _⟩) (v := ?_) rfl (by kernel_rfl) (by kernel_rfl) (by kernel_rfl) (fun _ _ _ h => h) (Or.inl ⟨by rfl, ?_⟩) hHeld ?_
        rotate_left
        · intro w' hSw
          have cv := (HPC.out.read hSw).cl HJ.out
          go_simp
          first | done | rfl
        try simp only [Act.put, List.setIfInBounds_toArray, List.set_cons_zero, List.set_cons_succ]
        refine wpAnyH_take (i := 19) (oi := ⟨some 135, _, _, _, _, _⟩) (v := ?_) rfl (by kernel_rfl) (by kernel_rfl) (by kernel_rfl) (fun _ _ _ h => h) (Or.inl ⟨by rfl, ?_⟩) hHeld ?_
        rotate_left
        · intro w' hSw
          go_simp
          first | done | rfl
        try simp only [Act.put, List.setIfInBounds_toArray, List.set_cons_zero, List.set_cons_succ]
        refine wpAnyH_take (i := 20) (oi := ⟨some 136, _, _, _, _, _⟩) (v := ?_) rfl (by kernel_rfl) (by kernel_rfl) (by kernel_rfl) (fun _ _ _ h => h) (Or.inl ⟨by rfl, ?_⟩) hHeld ?_
        rotate_left
        · intro w' hSw
          go_simp
          first | done | rfl
        try simp only [Act.put, List.setIfInBounds_toArray, List.set_cons_zero, List.set_cons_succ]
        refine wpAnyH_take (i := 21) (oi := ⟨some 137, _, _, _, _, _⟩) (v := _) rfl (by kernel_rfl) (by kernel_rfl) (by kernel_rfl) (fun _ _ _ h => h) (yieldsIf_load_mid (by rfl) _ _ rfl _ _ rfl (s' j).row _ (fun w' h => HRW.out w' h j HJ.out) Tryd.underlying67 rfl (HRI.out j)) hHeld ?_
        try simp only [Act.put, List.setIfInBounds_toArray, List.set_cons_zero, List.set_cons_succ]
        refine wpAnyH_take (i := 22) (oi := ⟨some 138, _, _, _, _, _⟩) (v := ?_) rfl (by kernel_rfl) (by kernel_rfl) (by kernel_rfl) (fun _ _ _ h => h) (Or.inl ⟨by rfl, ?_⟩) hHeld ?_
        rotate_left
        · intro w' hSw
          go_simp
          first | done | rfl
        try simp only [Act.put, List.setIfInBounds_toArray, List.set_cons_zero, List.set_cons_succ]
        refine wpAnyH_take (i := 23) (oi := ⟨some 139, _, _, _, _, _⟩) (v := ?_) rfl (by kernel_rfl) (by kernel_rfl) (by kernel_rfl) (fun _ _ _ h => h) (Or.inl ⟨by rfl, ?_⟩) hHeld ?_
        rotate_left
        · intro w' hSw
          go_simp
          first | done | rfl
        try simp only [Act.put, List.setIfInBounds_toArray, List.set_cons_zero, List.set_cons_succ]
        refine wpAnyH_take (i := 24) (oi := ⟨some 140, _, _, _, _, _⟩) (v := ?_) rfl (by kernel_rfl) (by kernel_rfl) (by kernel_rfl) (fun _ _ _ h => h) (Or.inl ⟨by rfl, ?_⟩) hHeld ?_
        rotate_left
        · intro w' hSw
          have cv := (HPC.out.read hSw).ct HJ.out
          go_simp
          first | done | rfl
        try simp only [Act.put, List.setIfInBounds_toArray, List.set_cons_zero, List.set_cons_succ]
        refine wpAnyH_ready (rs := [25]) (by kernel_rfl) (by simp) ?_
        refine AllReadyH.cons (o := ⟨some 141, _, _, _, _, _⟩) rfl (fun K hK => ?_) AllReadyH.nil
        go_simp
        refine (HT2.out _ hHeld).mono ?_
        rintro e v2 ⟨rfl, hk2⟩
        have hq2 := hHeld.trans hk2 (fun _ _ h => h)
        refine hK.out _ _ hq2 (fun hHeld => ?_)
        clear hK K
        try simp only [Act.put, List.setIfInBounds_toArray, List.set_cons_zero, List.set_cons_succ]
        refine wpAnyH_take (i := 26) (oi := ⟨some 142, _, _, _, _, _⟩) (v := ?_) rfl (by kernel_rfl) (by kernel_rfl) (by kernel_rfl) (fun _ _ _ h => h) (Or.inl ⟨by rfl, ?_⟩) hHeld ?_
        rotate_left
        · intro w' hSw
          go_simp
          first | done | rfl
        try simp only [Act.put, List.setIfInBounds_toArray, List.set_cons_zero, List.set_cons_succ]
        refine wpAnyH_take (i := 27) (oi := ⟨some 143, _, _, _, _, _⟩) (v := ?_) rfl (by kernel_rfl) (by kernel_rfl) (by kernel_rfl) (fun _ _ _ h => h) (Or.inl ⟨by rfl, ?_⟩) hHeld ?_
        rotate_left
        · intro w' hSw
          go_simp
          first | done | rfl
        try simp only [Act.put, List.setIfInBounds_toArray, List.set_cons_zero, List.set_cons_succ]
        refine wpAnyH_done (by kernel_rfl) ?_ _

        have HPN := Lib.hid (HPC.out.read hq2)
        clear hHeld hq1 hq2
        go_wp2
        go_roundg (N - (k + 1))
        case measure => rw [HGK.out]; omega
        case rel => exact ⟨k + 1, s', by omega, by go_num, rfl, HPN⟩
    · obtain rfl : k = N := by omega
      go_wp2_with (go_at_call 15; refine (works_any _ (HG.out.keep HP.out.keep (fun _ h => h.elim))).mono ?_; rintro e w9 ⟨rfl, hk9⟩)
      go_ret
      exact ⟨rfl, HP.out.keep.trans hk9 (fun _ _ h => h)⟩
end Go.Proofs.YtgblndddcbfdiaaDoor
