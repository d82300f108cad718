/-
  WALKS: told (what a hash tells, held against the reference's); of none.
-/
import Derived.Test.YtgblndddcbfdiaaDoorNilHW
import Derived.Test.YtgblndddcbfdiaaDoorRefBW
import Derived.Test.YtgblndddcbfdiaaDoorTakenW
set_option linter.unusedSimpArgs false
namespace Go.Proofs.YtgblndddcbfdiaaDoor
open Go Go.RowKit Go.Sha Go.Aff
theorem wpList_load_at_g {P : Program} {w : World} {g : Nat} {t : TypeId} {cs : List Value} {ops : Array Oper} {rest : List Oper} {o : Oper} {a : Act} {Q : Exit → Act → World → Prop} (hgd : Region.wanted o (yielded ops a.tmps) = true) (ty : TypeId) (x : Operand) (ho : o.op = .load ty x)
    (off n : Nat) (d : TypeDesc) (hx : a.eval x = .pointer (some ⟨g, off, none⟩)) (hg : Blk w g t cs) (hl : off + n ≤ cs.length)
    (hu : P.underlying ty = some d) (hd : (match d with | .struct _ | .array _ _ => true | _ => false) = true) (hi : (P.info? ty).map (·.size) = some n)
    (h : wpList P ops Q rest (a.put o.dst (.agg ((cs.drop off).take n).toArray)) w) : wpList P ops Q (o :: rest) a w :=
  wpList_step fun _ hK => by
    rw [if_pos hgd]
    unfold Oper.wp execOp
    simp only [ho, hx, Instr.loadAt, Instr.sureAddr, Sem.run_bind, Sem.run_pure, Result.andThen_ok, run_loadVar_at ty off n d hg hl hu hd hi]
    exact hK _ _ h
theorem eql_inT {P : Program} {w : World} {t : TypeId} {xs ys : Array Value} {b : Bool} (h : (binOp .eql t (.agg xs) (.agg ys)).run P w = .ok (.bool b) w) : (Op.equalIn 10000 t (.agg xs) (.agg ys)).run P w = .ok b w := by
  rw [run_eql_struct] at h
  cases hr : (Op.equalIn 10000 t (.agg xs) (.agg ys)).run P w with
  | halt a b' => rw [hr] at h; cases h
  | ok b' w' =>
    rw [hr] at h
    simp only [Result.andThen_ok] at h
    injection h with h1 h2
    injection h1 with h1
    rw [h1, h2]
set_option maxHeartbeats 4000000 in
set_option maxRecDepth 100000 in
theorem told_there (w : World) (hG : Glob w) (p : Nat) (v : Value) (S : Nat → Int) (nb : Nat) (X : List Int) (h : HashAt w p v S nb X) (A : Option Addr) (c : Nat) (hA : Rd w A (X.length % 64) (vb (X.drop (64 * (X.length / 64))))) (hbig : 64 * nb + X.length < 2305843009213693952) :
    Calls Tryd.prog 41 #[.pointer (some ⟨p, 0, none⟩), rv S nb X (.slice A (X.length % 64) c), .bool true] w fun e w' => e = .returned (.bool true) ∧ Keeps (fun _ => False) w w' := by
  have hX : IsBytes X := h.2.2
  have hXd : IsBytes (X.drop (64 * (X.length / 64))) := bytes_drop hX _
  obtain ⟨DV, hDV⟩ : ∃ V, V = vb (sumF S nb X) := ⟨_, rfl⟩
  have HEQ : Hid (∀ W, (Op.equalIn 10000 23 (.agg DV.toArray) (.agg DV.toArray)).run Tryd.prog W = .ok true W) := Lib.hid fun W => by
    have h := digest_eql W (sumF S nb X) (sumF S nb X) (sumF_length _ _ _) (sumF_length _ _ _)
    rw [decide_eq_true rfl, ← hDV] at h
    exact eql_inT h
  have HS : Hid (∀ W, Keeps (fun _ => False) w W → Calls Tryd.prog 23 #[.pointer (some ⟨p, 0, none⟩)] W fun e w' => e = .returned (.agg DV.toArray) ∧ Keeps (fun _ => False) W w') := Lib.hid fun W hW => by
    rw [hDV]; exact sum_any W (hG.keep hW (fun _ h => h.elim)) p v S nb X (h.keep hW (fun _ _ h => h)) hbig
  have HRS : Hid (∀ W, Keeps (fun _ => False) w W → Calls Tryd.prog 50 #[rv S nb X (.slice A (X.length % 64) c)] W fun e w' => e = .returned (.agg DV.toArray) ∧ Keeps (fun _ => False) W w') := Lib.hid fun W hW => by
    rw [hDV]; exact rsum_any W S nb X A c hX (hA.keep hW (no_out _ _)) hbig
  obtain ⟨r, hr⟩ : ∃ r, r = X.length % 64 := ⟨_, rfl⟩
  obtain ⟨k, hk⟩ : ∃ k : Nat, k = nb + X.length / 64 := ⟨_, rfl⟩
  obtain ⟨st, hst⟩ : ∃ st, st = stN S X (X.length / 64) := ⟨_, rfl⟩
  obtain ⟨Xr, hXr⟩ : ∃ Xr, Xr = X.drop (64 * (X.length / 64)) := ⟨_, rfl⟩
  have hsum : 64 * k + r = 64 * nb + X.length := by omega
  have hr64 : r < 64 := by omega
  obtain ⟨HC, hHC⟩ : ∃ HC, HC = hcells st (k : Int) (.slice A r c) := ⟨_, rfl⟩
  have hrv : rv S nb X (.slice A (X.length % 64) c) = .agg HC.toArray := by rw [hHC, hst, hk, hr]; rfl
  rw [hrv] at HRS ⊢
  obtain ⟨WV, hWV⟩ : ∃ V, V = wl st := ⟨_, rfl⟩
  have HWI : Hid ((Tryd.prog.info? 38).map (·.size) = some WV.length) := Lib.hid (by rw [hWV, wl_length]; exact info8)
  have HEW : Hid (∀ W, (Op.equalIn 10000 38 (.agg WV.toArray) (.agg WV.toArray)).run Tryd.prog W = .ok true W) := Lib.hid fun W => by
    have h := run_eql_row (P := Tryd.prog) W Tryd.underlying38 Tryd.underlying37 (by kernel_rfl) ((List.range 8).map st) ((List.range 8).map st) (by simp) (by simp)
    rw [decide_eq_true rfl] at h
    have e : ((List.range 8).map st).map (Value.int .u32) = WV := by rw [hWV]; simp [wl]
    rw [e] at h
    exact eql_inT h
  have HL : Hid (∀ W, Keeps (fun _ => False) w W → Calls Tryd.prog 26 #[.pointer (some ⟨p, 0, none⟩)] W fun e w' => e = .returned (.int .u64 ((64 * k + r : Nat) : Int)) ∧ Keeps (fun _ => False) W w') := Lib.hid fun W hW => by
    rw [hsum]
    exact (len_at W p v S nb X (h.keep hW (fun _ _ h => h)) hbig).mono fun e w' ⟨he, q, hq⟩ => ⟨he, by rw [hq]; exact (Keeps.refl _ W).drewN q⟩
  have HRL : Hid (∀ W, Keeps (fun _ => False) w W → Calls Tryd.prog 54 #[.agg HC.toArray] W fun e w' => e = .returned (.int .u64 ((64 * k + r : Nat) : Int)) ∧ Keeps (fun _ => False) W w') := Lib.hid fun W hW => by
    rw [hHC]
    have := rlen_any W st k A r c (by omega) (by omega)
    exact this.mono fun e w' hh => by first | exact ⟨hh.1, hh.2⟩ | (obtain ⟨he, q, hq⟩ := hh; exact ⟨he, by rw [hq]; exact (Keeps.refl _ W).drewN q⟩)
  have HMG : Hid (∀ W, Keeps (fun _ => False) w W → Calls Tryd.prog 24 #[.pointer (some ⟨p, 0, none⟩)] W fun e w' => ∃ A3 c3, e = .returned (.agg (hcells st (k : Int) (.slice A3 r c3)).toArray) ∧ Mine W w' 5 A3 r c3 (vb Xr)) := Lib.hid fun W hW => by
    have := mid_any W p v S nb X (h.keep hW (fun _ _ h => h))
    unfold Told at this
    rw [← hst, ← hk, ← hr, ← hXr] at this
    exact this
  rw [← hr, ← hXr] at hA
  rw [← hXr] at hXd
  have HA := Lib.hid hA
  have HXB := Lib.hid hXd
  have hcl : HC.length = 10 := by rw [hHC, hcells_length]
  have HCI : Hid ((Tryd.prog.info? 67).map (·.size) = some HC.length) := Lib.hid (by rw [hcl]; kernel_rfl)
  obtain ⟨W1, hW1⟩ : ∃ W1, W1 = w.alloc (.cells HC.toArray 67) := ⟨_, rfl⟩
  have HBX : Hid (Blk W1 w.heap.size 67 HC) := Lib.hid (by rw [hW1]; exact Blk.new w _ _)
  have HK1 : Hid (Keeps (fun _ => False) w W1) := Lib.hid (by rw [hW1]; exact (Keeps.refl _ w).alloc _)
  have HHC := Lib.hid hHC
  have HWV := Lib.hid hWV
  have HM10 : Hid (∀ u, (hcells st (k : Int) u).length = 10) := Lib.hid fun u => hcells_length _ _ _
  have HWA : Hid (∀ (u : Value) (j : Nat) (x : Value), WV[j]? = some x → (hcells st (k : Int) u)[j]? = some x) := Lib.hid fun u j x hx => by
    rw [hWV] at hx
    have hj := (List.getElem?_eq_some_iff.1 hx).1
    unfold hcells
    rw [List.getElem?_append_left hj]
    exact hx
  clear hHC hWV hrv hA hXd hX hXr hst hk hr hsum hDV h hbig hG hcl
  go_enter Tryd.func41, Tryd.ntmps41
  go_upto_region 1 with fail
  rw [← hW1]
  clear hW1
  go_wp2_with fail
  refine (HMG.out _ HK1.out).mono ?_
  rintro e wm ⟨A3, c3, rfl, hmm⟩
  have HMM := Lib.hid hmm
  have HBXm := Lib.hid (hmm.2.1.blk HBX.out (fun h => h))
  have HKm := Lib.hid (HK1.out.trans hmm.2.1 (fun _ _ h => h))
  clear hmm
  obtain ⟨M1, hM1⟩ : ∃ M, M = hcells st (k : Int) (.slice A3 r c3) := ⟨_, rfl⟩
  rw [← hM1]
  have HM1 := Lib.hid hM1
  have hml1 : M1.length = 10 := by rw [hM1]; exact HM10.out _
  have HML1 := Lib.hid hml1
  have HMI1 : Hid ((Tryd.prog.info? 49).map (·.size) = some M1.length) := Lib.hid (by rw [hml1]; kernel_rfl)
  have HMC1 : Hid (∀ u ∈ M1, u.oneCell' = true) := Lib.hid (by rw [hM1]; exact hcells_one _ _ _ _ _)
  have HZ0 : Hid ((hcells (fun _ => 0) 0 (.slice none 0 0)).length = 10) := Lib.hid (by simp [hcells, wl])
  clear hM1 hml1
  go_upto_region 4 with ((with_reducible show wpList _ _ _ (⟨none, Op.store 49 (.tmp 7) _, _, _, _, _⟩ :: _) _ _); refine wpList_store_whole rfl 49 _ _ rfl M1 rfl rfl (Blk.new wm 49 (hcells (fun _ => 0) 0 (.slice none 0 0))) (by rw [HML1.out, HZ0.out]) HMI1.out HMC1.out ?_; refine gen_world (fun W => Blk W wm.heap.size 49 M1 ∧ Keeps (fun _ => False) wm W) ⟨(Blk.new wm 49 _).setRow M1, ((Keeps.refl (fun _ => False) wm).alloc _).setRow (.inr (Nat.le_refl _)) _⟩ ?_; rintro w2 ⟨hb2, hk2⟩; have HB2 := Lib.hid hb2; have HK2 := Lib.hid hk2; clear hb2 hk2)
  have HKW := Lib.hid (HKm.out.trans HK2.out (fun _ _ h => h))
  have HBX2 := Lib.hid (HK2.out.blk HBXm.out (fun h => h))
  have HMM2 := Lib.hid (HMM.out.keep HK2.out)
  replace HS := Lib.hid fun W (hW : Keeps (fun _ => False) w2 W) => HS.out W (HKW.out.trans hW (fun _ _ h => h))
  replace HRS := Lib.hid fun W (hW : Keeps (fun _ => False) w2 W) => HRS.out W (HKW.out.trans hW (fun _ _ h => h))
  replace HL := Lib.hid fun W (hW : Keeps (fun _ => False) w2 W) => HL.out W (HKW.out.trans hW (fun _ _ h => h))
  replace HRL := Lib.hid fun W (hW : Keeps (fun _ => False) w2 W) => HRL.out W (HKW.out.trans hW (fun _ _ h => h))
  have HBE : Hid (∀ W, Keeps (fun _ => False) w2 W → Calls Tryd.prog 31 #[.slice A3 r c3, .slice A r c] W fun e w' => e = .returned (.bool true) ∧ Keeps (fun _ => False) W w') := Lib.hid fun W hW => by
    have := Equal_any W A3 A r r c3 c Xr Xr ((Rd.of_own HMM2.out.1).keep hW (no_out _ _)) (HA.out.keep (HKW.out.trans hW (fun _ _ h => h)) (no_out _ _)) HXB.out HXB.out
    rw [decide_eq_true rfl] at this
    exact this.mono fun e w' ⟨he, hw⟩ => ⟨he, by rw [← hw]; exact Keeps.refl _ _⟩
  have HRB : Hid (∀ W, Keeps (fun _ => False) w2 W → W.rangeAt w.heap.size 0 HC) := Lib.hid fun W hW j x hx => by rw [Nat.zero_add, (hW.blk HBX2.out (fun h => h)).cell]; exact hx
  have HRM : Hid (∀ W, Keeps (fun _ => False) w2 W → W.rangeAt wm.heap.size 0 WV) := Lib.hid fun W hW j x hx => by rw [Nat.zero_add, (hW.blk HB2.out (fun h => h)).cell, HM1.out]; exact HWA.out _ j x hx
  have HRW : Hid (∀ W, Keeps (fun _ => False) w2 W → W.rangeAt w.heap.size 0 WV) := Lib.hid fun W hW j x hx => by rw [Nat.zero_add, (hW.blk HBX2.out (fun h => h)).cell, HHC.out]; exact HWA.out _ j x hx
  have HCE : Hid (∀ W, Keeps (fun _ => False) w2 W → W.cell? ⟨wm.heap.size, 8, none⟩ = some (.int .u64 k) ∧ W.cell? ⟨w.heap.size, 8, none⟩ = some (.int .u64 k) ∧ W.cell? ⟨wm.heap.size, 9, none⟩ = some (.slice A3 r c3) ∧ W.cell? ⟨w.heap.size, 9, none⟩ = some (.slice A r c)) := Lib.hid fun W hW =>
    ⟨((hW.blk HB2.out (fun h => h)).cell 8).trans (by rw [HM1.out]; rfl), ((hW.blk HBX2.out (fun h => h)).cell 8).trans (by rw [HHC.out]; rfl), ((hW.blk HB2.out (fun h => h)).cell 9).trans (by rw [HM1.out]; rfl), ((hW.blk HBX2.out (fun h => h)).cell 9).trans (by rw [HHC.out]; rfl)⟩
  refine wp_region_held_drew (S := Keeps (fun _ => False) w2) (by kernel_rfl) (Keeps.refl (fun _ => False) _).drew (fun hHeld => ?_)
  refine wpAnyH_take (i := 0) (oi := ⟨some 38, _, _, _, _, _⟩) (v := ?_) rfl (by kernel_rfl) (by kernel_rfl) (by kernel_rfl) (fun _ _ _ h => h) (Or.inl ⟨by rfl, ?_⟩) hHeld ?_
  rotate_left
  · intro w' hSw
    go_simp
    first | done | rfl
  try simp only [Act.put, List.setIfInBounds_toArray, List.set_cons_zero, List.set_cons_succ]
  refine wpAnyH_take (i := 2) (oi := ⟨some 40, _, _, _, _, _⟩) (v := _) rfl (by kernel_rfl) (by kernel_rfl) (by kernel_rfl) (fun _ _ _ h => h) (yieldsIf_load_mid (by rfl) _ _ rfl _ _ rfl HC _ (fun w' h => HRB.out _ h) Tryd.underlying67 rfl HCI.out) hHeld ?_
  try simp only [Act.put, List.setIfInBounds_toArray, List.set_cons_zero, List.set_cons_succ]
  refine wpAnyH_ready (rs := [1]) (by kernel_rfl) (by simp) ?_
  refine AllReadyH.cons (o := ⟨some 39, _, _, _, _, _⟩) rfl (fun K hK => ?_) AllReadyH.nil
  go_simp
  refine (HS.out _ hHeld).mono ?_
  rintro e v1 ⟨rfl, hk1⟩
  have hq1 := hHeld.trans hk1 (fun _ _ h => h)
  refine hK.out _ _ hq1 (fun hHeld => ?_)
  clear hK K
  try simp only [Act.put, List.setIfInBounds_toArray, List.set_cons_zero, List.set_cons_succ]
  refine wpAnyH_ready (rs := [3]) (by kernel_rfl) (by simp) ?_
  refine AllReadyH.cons (o := ⟨some 41, _, _, _, _, _⟩) rfl (fun K hK => ?_) AllReadyH.nil
  go_simp
  refine (HRS.out _ hHeld).mono ?_
  rintro e v3 ⟨rfl, hk3⟩
  have hq3 := hHeld.trans hk3 (fun _ _ h => h)
  refine hK.out _ _ hq3 (fun hHeld => ?_)
  clear hK K
  try simp only [Act.put, List.setIfInBounds_toArray, List.set_cons_zero, List.set_cons_succ]
  refine wpAnyH_take (i := 4) (oi := ⟨some 42, _, _, _, _, _⟩) (v := ?_) rfl (by kernel_rfl) (by kernel_rfl) (by kernel_rfl) (fun _ _ _ h => h) (Or.inl ⟨by rfl, ?_⟩) hHeld ?_
  rotate_left
  · intro w' hSw
    have cv := HEQ.out w'
    go_simp
    first | done | rfl
  try simp only [Act.put, List.setIfInBounds_toArray, List.set_cons_zero, List.set_cons_succ]
  refine wpAnyH_take (i := 5) (oi := ⟨some 43, _, _, _, _, _⟩) (v := ?_) rfl (by kernel_rfl) (by kernel_rfl) (by kernel_rfl) (fun _ _ _ h => h) (Or.inl ⟨by rfl, ?_⟩) hHeld ?_
  rotate_left
  · intro w' hSw
    go_simp
    first | done | rfl
  try simp only [Act.put, List.setIfInBounds_toArray, List.set_cons_zero, List.set_cons_succ]
  refine wpAnyH_take (i := 6) (oi := ⟨some 44, _, _, _, _, _⟩) (v := ?_) rfl (by kernel_rfl) (by kernel_rfl) (by kernel_rfl) (fun _ _ _ h => h) (Or.inl ⟨by rfl, ?_⟩) hHeld ?_
  rotate_left
  · intro w' hSw
    go_simp
    first | done | rfl
  try simp only [Act.put, List.setIfInBounds_toArray, List.set_cons_zero, List.set_cons_succ]
  refine wpAnyH_take (i := 8) (oi := ⟨some 46, _, _, _, _, _⟩) (v := _) rfl (by kernel_rfl) (by kernel_rfl) (by kernel_rfl) (fun _ _ _ h => h) (yieldsIf_load_mid (by rfl) _ _ rfl _ _ rfl HC _ (fun w' h => HRB.out _ h) Tryd.underlying67 rfl HCI.out) hHeld ?_
  try simp only [Act.put, List.setIfInBounds_toArray, List.set_cons_zero, List.set_cons_succ]
  refine wpAnyH_ready (rs := [7]) (by kernel_rfl) (by simp) ?_
  refine AllReadyH.cons (o := ⟨some 45, _, _, _, _, _⟩) rfl (fun K hK => ?_) AllReadyH.nil
  go_simp
  refine (HL.out _ hHeld).mono ?_
  rintro e v7 ⟨rfl, hk7⟩
  have hq7 := hHeld.trans hk7 (fun _ _ h => h)
  refine hK.out _ _ hq7 (fun hHeld => ?_)
  clear hK K
  try simp only [Act.put, List.setIfInBounds_toArray, List.set_cons_zero, List.set_cons_succ]
  refine wpAnyH_ready (rs := [9]) (by kernel_rfl) (by simp) ?_
  refine AllReadyH.cons (o := ⟨some 47, _, _, _, _, _⟩) rfl (fun K hK => ?_) AllReadyH.nil
  go_simp
  refine (HRL.out _ hHeld).mono ?_
  rintro e v9 ⟨rfl, hk9⟩
  have hq9 := hHeld.trans hk9 (fun _ _ h => h)
  refine hK.out _ _ hq9 (fun hHeld => ?_)
  clear hK K
  try simp only [Act.put, List.setIfInBounds_toArray, List.set_cons_zero, List.set_cons_succ]
  refine wpAnyH_take (i := 10) (oi := ⟨some 48, _, _, _, _, _⟩) (v := ?_) rfl (by kernel_rfl) (by kernel_rfl) (by kernel_rfl) (fun _ _ _ h => h) (Or.inl ⟨by rfl, ?_⟩) hHeld ?_
  rotate_left
  · intro w' hSw
    go_simp
    first | done | rfl
  try simp only [Act.put, List.setIfInBounds_toArray, List.set_cons_zero, List.set_cons_succ]
  refine wpAnyH_take (i := 11) (oi := ⟨some 49, _, _, _, _, _⟩) (v := ?_) rfl (by kernel_rfl) (by kernel_rfl) (by kernel_rfl) (fun _ _ _ h => h) (Or.inl ⟨by rfl, ?_⟩) hHeld ?_
  rotate_left
  · intro w' hSw
    go_simp
    first | done | rfl
  try simp only [Act.put, List.setIfInBounds_toArray, List.set_cons_zero, List.set_cons_succ]
  refine wpAnyH_take (i := 12) (oi := ⟨some 50, _, _, _, _, _⟩) (v := ?_) rfl (by kernel_rfl) (by kernel_rfl) (by kernel_rfl) (fun _ _ _ h => h) (Or.inl ⟨by rfl, ?_⟩) hHeld ?_
  rotate_left
  · intro w' hSw
    go_simp
    first | done | rfl
  try simp only [Act.put, List.setIfInBounds_toArray, List.set_cons_zero, List.set_cons_succ]
  refine wpAnyH_take (i := 13) (oi := ⟨some 51, _, _, _, _, _⟩) (v := ?_) rfl (by kernel_rfl) (by kernel_rfl) (by kernel_rfl) (fun _ _ _ h => h) (Or.inl ⟨by rfl, ?_⟩) hHeld ?_
  rotate_left
  · intro w' hSw
    go_simp
    first | done | rfl
  try simp only [Act.put, List.setIfInBounds_toArray, List.set_cons_zero, List.set_cons_succ]
  refine wpAnyH_take (i := 14) (oi := ⟨some 52, _, _, _, _, _⟩) (v := _) rfl (by kernel_rfl) (by kernel_rfl) (by kernel_rfl) (fun _ _ _ h => h) (yieldsIf_load_mid (by rfl) _ _ rfl _ _ rfl WV _ (fun w' h => HRM.out _ h) Tryd.underlying38 rfl HWI.out) hHeld ?_
  try simp only [Act.put, List.setIfInBounds_toArray, List.set_cons_zero, List.set_cons_succ]
  refine wpAnyH_take (i := 15) (oi := ⟨some 53, _, _, _, _, _⟩) (v := ?_) rfl (by kernel_rfl) (by kernel_rfl) (by kernel_rfl) (fun _ _ _ h => h) (Or.inl ⟨by rfl, ?_⟩) hHeld ?_
  rotate_left
  · intro w' hSw
    go_simp
    first | done | rfl
  try simp only [Act.put, List.setIfInBounds_toArray, List.set_cons_zero, List.set_cons_succ]
  refine wpAnyH_take (i := 16) (oi := ⟨some 54, _, _, _, _, _⟩) (v := _) rfl (by kernel_rfl) (by kernel_rfl) (by kernel_rfl) (fun _ _ _ h => h) (yieldsIf_load_mid (by rfl) _ _ rfl _ _ rfl WV _ (fun w' h => HRW.out _ h) Tryd.underlying38 rfl HWI.out) hHeld ?_
  try simp only [Act.put, List.setIfInBounds_toArray, List.set_cons_zero, List.set_cons_succ]
  refine wpAnyH_take (i := 17) (oi := ⟨some 55, _, _, _, _, _⟩) (v := ?_) rfl (by kernel_rfl) (by kernel_rfl) (by kernel_rfl) (fun _ _ _ h => h) (Or.inl ⟨by rfl, ?_⟩) hHeld ?_
  rotate_left
  · intro w' hSw
    have cv := HEW.out w'
    go_simp
    first | done | rfl
  try simp only [Act.put, List.setIfInBounds_toArray, List.set_cons_zero, List.set_cons_succ]
  refine wpAnyH_take (i := 18) (oi := ⟨some 56, _, _, _, _, _⟩) (v := ?_) rfl (by kernel_rfl) (by kernel_rfl) (by kernel_rfl) (fun _ _ _ h => h) (Or.inl ⟨by rfl, ?_⟩) hHeld ?_
  rotate_left
  · intro w' hSw
    go_simp
    first | done | rfl
  try simp only [Act.put, List.setIfInBounds_toArray, List.set_cons_zero, List.set_cons_succ]
  refine wpAnyH_take (i := 19) (oi := ⟨some 57, _, _, _, _, _⟩) (v := ?_) rfl (by kernel_rfl) (by kernel_rfl) (by kernel_rfl) (fun _ _ _ h => h) (Or.inl ⟨by rfl, ?_⟩) hHeld ?_
  rotate_left
  · intro w' hSw
    go_simp
    first | done | rfl
  try simp only [Act.put, List.setIfInBounds_toArray, List.set_cons_zero, List.set_cons_succ]
  refine wpAnyH_take (i := 20) (oi := ⟨some 58, _, _, _, _, _⟩) (v := ?_) rfl (by kernel_rfl) (by kernel_rfl) (by kernel_rfl) (fun _ _ _ h => h) (Or.inl ⟨by rfl, ?_⟩) hHeld ?_
  rotate_left
  · intro w' hSw
    go_simp
    first | done | rfl
  try simp only [Act.put, List.setIfInBounds_toArray, List.set_cons_zero, List.set_cons_succ]
  refine wpAnyH_take (i := 21) (oi := ⟨some 59, _, _, _, _, _⟩) (v := ?_) rfl (by kernel_rfl) (by kernel_rfl) (by kernel_rfl) (fun _ _ _ h => h) (Or.inl ⟨by rfl, ?_⟩) hHeld ?_
  rotate_left
  · intro w' hSw
    obtain ⟨f1, f2, f3, f4⟩ := HCE.out w' hSw
    go_simp
    first | done | rfl
  try simp only [Act.put, List.setIfInBounds_toArray, List.set_cons_zero, List.set_cons_succ]
  refine wpAnyH_take (i := 22) (oi := ⟨some 60, _, _, _, _, _⟩) (v := ?_) rfl (by kernel_rfl) (by kernel_rfl) (by kernel_rfl) (fun _ _ _ h => h) (Or.inl ⟨by rfl, ?_⟩) hHeld ?_
  rotate_left
  · intro w' hSw
    go_simp
    first | done | rfl
  try simp only [Act.put, List.setIfInBounds_toArray, List.set_cons_zero, List.set_cons_succ]
  refine wpAnyH_take (i := 23) (oi := ⟨some 61, _, _, _, _, _⟩) (v := ?_) rfl (by kernel_rfl) (by kernel_rfl) (by kernel_rfl) (fun _ _ _ h => h) (Or.inl ⟨by rfl, ?_⟩) hHeld ?_
  rotate_left
  · intro w' hSw
    obtain ⟨f1, f2, f3, f4⟩ := HCE.out w' hSw
    go_simp
    first | done | rfl
  try simp only [Act.put, List.setIfInBounds_toArray, List.set_cons_zero, List.set_cons_succ]
  refine wpAnyH_take (i := 24) (oi := ⟨some 62, _, _, _, _, _⟩) (v := ?_) rfl (by kernel_rfl) (by kernel_rfl) (by kernel_rfl) (fun _ _ _ h => h) (Or.inl ⟨by rfl, ?_⟩) hHeld ?_
  rotate_left
  · intro w' hSw
    go_simp
    first | done | rfl
  try simp only [Act.put, List.setIfInBounds_toArray, List.set_cons_zero, List.set_cons_succ]
  refine wpAnyH_take (i := 25) (oi := ⟨some 63, _, _, _, _, _⟩) (v := ?_) rfl (by kernel_rfl) (by kernel_rfl) (by kernel_rfl) (fun _ _ _ h => h) (Or.inl ⟨by rfl, ?_⟩) hHeld ?_
  rotate_left
  · intro w' hSw
    go_simp
    first | done | rfl
  try simp only [Act.put, List.setIfInBounds_toArray, List.set_cons_zero, List.set_cons_succ]
  refine wpAnyH_take (i := 26) (oi := ⟨some 64, _, _, _, _, _⟩) (v := ?_) rfl (by kernel_rfl) (by kernel_rfl) (by kernel_rfl) (fun _ _ _ h => h) (Or.inl ⟨by rfl, ?_⟩) hHeld ?_
  rotate_left
  · intro w' hSw
    go_simp
    first | done | rfl
  try simp only [Act.put, List.setIfInBounds_toArray, List.set_cons_zero, List.set_cons_succ]
  refine wpAnyH_take (i := 27) (oi := ⟨some 65, _, _, _, _, _⟩) (v := ?_) rfl (by kernel_rfl) (by kernel_rfl) (by kernel_rfl) (fun _ _ _ h => h) (Or.inl ⟨by rfl, ?_⟩) hHeld ?_
  rotate_left
  · intro w' hSw
    go_simp
    first | done | rfl
  try simp only [Act.put, List.setIfInBounds_toArray, List.set_cons_zero, List.set_cons_succ]
  refine wpAnyH_take (i := 28) (oi := ⟨some 66, _, _, _, _, _⟩) (v := ?_) rfl (by kernel_rfl) (by kernel_rfl) (by kernel_rfl) (fun _ _ _ h => h) (Or.inl ⟨by rfl, ?_⟩) hHeld ?_
  rotate_left
  · intro w' hSw
    obtain ⟨f1, f2, f3, f4⟩ := HCE.out w' hSw
    go_simp
    first | done | rfl
  try simp only [Act.put, List.setIfInBounds_toArray, List.set_cons_zero, List.set_cons_succ]
  refine wpAnyH_take (i := 29) (oi := ⟨some 67, _, _, _, _, _⟩) (v := ?_) rfl (by kernel_rfl) (by kernel_rfl) (by kernel_rfl) (fun _ _ _ h => h) (Or.inl ⟨by rfl, ?_⟩) hHeld ?_
  rotate_left
  · intro w' hSw
    go_simp
    first | done | rfl
  try simp only [Act.put, List.setIfInBounds_toArray, List.set_cons_zero, List.set_cons_succ]
  refine wpAnyH_take (i := 30) (oi := ⟨some 68, _, _, _, _, _⟩) (v := ?_) rfl (by kernel_rfl) (by kernel_rfl) (by kernel_rfl) (fun _ _ _ h => h) (Or.inl ⟨by rfl, ?_⟩) hHeld ?_
  rotate_left
  · intro w' hSw
    obtain ⟨f1, f2, f3, f4⟩ := HCE.out w' hSw
    go_simp
    first | done | rfl
  try simp only [Act.put, List.setIfInBounds_toArray, List.set_cons_zero, List.set_cons_succ]
  refine wpAnyH_ready (rs := [31]) (by kernel_rfl) (by simp) ?_
  refine AllReadyH.cons (o := ⟨some 69, _, _, _, _, _⟩) rfl (fun K hK => ?_) AllReadyH.nil
  go_simp
  refine (HBE.out _ hHeld).mono ?_
  rintro e vb' ⟨rfl, hkb⟩
  have hqb := hHeld.trans hkb (fun _ _ h => h)
  refine hK.out _ _ hqb (fun hHeld => ?_)
  clear hK K
  try simp only [Act.put, List.setIfInBounds_toArray, List.set_cons_zero, List.set_cons_succ]
  refine wpAnyH_take (i := 32) (oi := ⟨some 70, _, _, _, _, _⟩) (v := ?_) rfl (by kernel_rfl) (by kernel_rfl) (by kernel_rfl) (fun _ _ _ h => h) (Or.inl ⟨by rfl, ?_⟩) hHeld ?_
  rotate_left
  · intro w' hSw
    go_simp
    first | done | rfl
  try simp only [Act.put, List.setIfInBounds_toArray, List.set_cons_zero, List.set_cons_succ]
  refine wpAnyH_take (i := 33) (oi := ⟨some 6, _, _, _, _, _⟩) (v := ?_) rfl (by kernel_rfl) (by kernel_rfl) (by kernel_rfl) (fun _ _ _ h => h) (Or.inl ⟨by rfl, ?_⟩) hHeld ?_
  rotate_left
  · intro w' hSw
    go_simp
    first | done | rfl
  try simp only [Act.put, List.setIfInBounds_toArray, List.set_cons_zero, List.set_cons_succ]
  refine wpAnyH_done (by kernel_rfl) ?_ _
  go_wp2
  go_ret
  exact ⟨rfl, HKW.out.trans hqb (fun _ _ h => h)⟩
set_option maxHeartbeats 4000000 in
set_option maxRecDepth 100000 in
theorem told_nil (w : World) (S : Nat → Int) (nb : Int) (u : Value) :
    Calls Tryd.prog 41 #[.pointer none, .agg (hcells S nb u).toArray, .bool false] w fun e w' => e = .returned (.bool true) ∧ Keeps (fun _ => False) w w' := by
  obtain ⟨HC, hHC⟩ : ∃ HC, HC = hcells S nb u := ⟨_, rfl⟩
  rw [← hHC]
  have e1 : ∀ W, (binOp .eql 23 (.agg (vb zeroH).toArray) (.agg #[.int .u8 0, .int .u8 0, .int .u8 0, .int .u8 0, .int .u8 0, .int .u8 0, .int .u8 0, .int .u8 0, .int .u8 0, .int .u8 0, .int .u8 0, .int .u8 0, .int .u8 0, .int .u8 0, .int .u8 0, .int .u8 0, .int .u8 0, .int .u8 0, .int .u8 0, .int .u8 0, .int .u8 0, .int .u8 0, .int .u8 0, .int .u8 0, .int .u8 0, .int .u8 0, .int .u8 0, .int .u8 0, .int .u8 0, .int .u8 0, .int .u8 0, .int .u8 0])).run Tryd.prog W = .ok (.bool true) W := fun W => by
    have h := digest_eql W zeroH zeroH rfl rfl
    rw [decide_eq_true rfl] at h
    exact h
  have e2 : ∀ W, (binOp .eql 38 (.agg #[.int .u32 0, .int .u32 0, .int .u32 0, .int .u32 0, .int .u32 0, .int .u32 0, .int .u32 0, .int .u32 0]) (.agg #[.int .u32 0, .int .u32 0, .int .u32 0, .int .u32 0, .int .u32 0, .int .u32 0, .int .u32 0, .int .u32 0])).run Tryd.prog W = .ok (.bool true) W := fun W => by
    have h := run_eql_row (P := Tryd.prog) W Tryd.underlying38 Tryd.underlying37 (by kernel_rfl) (List.replicate 8 0) (List.replicate 8 0) (by simp) (by simp)
    rw [decide_eq_true rfl] at h
    exact h
  have HZ0 := hcells_length zeroS 0 (.slice none 0 0)
  have HML := Lib.hid HZ0
  have HMI : Hid ((Tryd.prog.info? 49).map (·.size) = some (hcells zeroS 0 (.slice none 0 0)).length) := Lib.hid infoMH
  have HT8 : Hid ((((hcells zeroS 0 (.slice none 0 0)).drop 0).take 8).toArray = #[.int .u32 0, .int .u32 0, .int .u32 0, .int .u32 0, .int .u32 0, .int .u32 0, .int .u32 0, .int .u32 0]) := Lib.hid rfl
  obtain ⟨W1, hW1⟩ : ∃ W1, W1 = w.alloc (.cells HC.toArray 67) := ⟨_, rfl⟩
  have HK1 : Hid (Keeps (fun _ => False) w W1) := Lib.hid (by rw [hW1]; exact (Keeps.refl _ w).alloc _)
  clear hHC HZ0
  go_enter Tryd.func41, Tryd.ntmps41
  go_upto_region 1 with fail
  rw [← hW1]
  clear hW1
  go_upto_region 3 with (first
    | (go_at_call 24; refine (Mid_nil _).mono ?_; rintro e wm ⟨rfl, hkm⟩; have HKm := Lib.hid (HK1.out.trans hkm (fun _ _ h => h)); clear hkm)
    | ((with_reducible show wpList _ _ _ (⟨none, Op.store 49 (.tmp 7) _, _, _, _, _⟩ :: _) _ _); refine wpList_store_whole rfl 49 _ _ rfl (hcells zeroS 0 (.slice none 0 0)) rfl rfl (Blk.new wm 49 (hcells (fun _ => 0) 0 (.slice none 0 0))) (by rw [HML.out, hcells_length]) HMI.out (hcells_one _ _ _ _ _) ?_; refine gen_world (fun W => Blk W wm.heap.size 49 (hcells zeroS 0 (.slice none 0 0)) ∧ Keeps (fun _ => False) wm W) ⟨(Blk.new wm 49 _).setRow _, ((Keeps.refl (fun _ => False) wm).alloc _).setRow (.inr (Nat.le_refl _)) _⟩ ?_; rintro w2 ⟨hb2, hk2⟩; have HB2 := Lib.hid hb2; have HK2 := Lib.hid (HKm.out.trans hk2 (fun _ _ h => h)); clear hb2 hk2))
  go_wp2_with (first
    | (go_at_call 23; refine (Sum_nil _).mono ?_; rintro e w3 ⟨rfl, hk3⟩; have HK3 := Lib.hid (HK2.out.trans hk3 (fun _ _ h => h)); have HB3 := Lib.hid (hk3.blk HB2.out (fun h => h)); have f8 : w3.cell? ⟨wm.heap.size, 8, none⟩ = some (.int .u64 0) := (HB3.out.cell 8).trans rfl; have f9 : w3.cell? ⟨wm.heap.size, 9, none⟩ = some (.slice none 0 0) := (HB3.out.cell 9).trans rfl; clear hk3)
    | (go_at_call 26; refine (Len_nil _).mono ?_; rintro e w4 ⟨rfl, rfl⟩)
    | ((with_reducible show wpList _ _ _ (⟨_, Op.load 38 _, _, _, _, _⟩ :: _) _ _); refine wpList_load_at_g rfl 38 _ rfl 0 8 _ rfl HB3.out (by rw [HML.out]; omega) Tryd.underlying38 rfl info8 ?_; rw [HT8.out]))
  go_ret
  exact ⟨rfl, HK3.out⟩
end Go.Proofs.YtgblndddcbfdiaaDoor
