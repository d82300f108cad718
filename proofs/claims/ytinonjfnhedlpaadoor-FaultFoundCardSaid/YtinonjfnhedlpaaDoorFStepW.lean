/-
  WALK: a step on the pile of errors.
-/
import Derived.Test.YtinonjfnhedlpaaDoorFPileW
set_option linter.unusedSimpArgs false
namespace Go.Proofs.YtinonjfnhedlpaaDoor
open Go Go.RowKit Go.Aff Go.Fault
theorem gen_codeF {P : Program} {c : Code} {a : Act} {Q : Exit → Act → World → Prop} {w : World} (R : World → Prop) (hR : R w) (h : ∀ W, R W → Code.wp P c Q a W) : Code.wp P c Q a w := h w hR
def causeCells (c : CauseV) : List Value := [.int .i64 c.kind, .int .i64 c.no, .int .i64 c.at_, .string c.text, .int .i64 c.count]
theorem vv_iface {t : VT} (h : t.isNil = false) : ∃ T x, vv t = .iface T x := by cases t <;> first | (cases h; done) | exact ⟨_, _, rfl⟩
theorem vv_nil {t : VT} (h : t.isNil = true) : t = .nil := by cases t <;> first | rfl | cases h
theorem cell_keep {w w' : World} (hk : Keeps (fun _ => False) w w') {p : Addr} {v : Value} (h : w.cell? p = some v) : w'.cell? p = some v := (hk.cell (World.block_lt_of_cell? w _ h) (fun h => h)).trans h
theorem deep_note (b : Nat) (wd : ByteArray) (e : VT) : (VT.note b wd e).deep = (if e.isNil then 0 else e.deep) + 1 := by simp [VT.deep]
theorem deep_all (A : Option Addr) (c : Nat) (l : List VT) : (VT.all A c l).deep = maxL (l.map fun x => x.deep) + 1 := by simp [VT.deep]
def StepPost (lo : Nat) (w : World) (p : Nat) (P : List VT) (c : CauseV) (e : Ending) (w' : World) : Prop := ∃ u' v' P', e = .returned (.int .i64 (stepF (P.map VT.erase) c).1) ∧
      ((stepF (P.map VT.erase) c).1 = 0 → PileAt lo w' p u' v' P' ∧ P'.map VT.erase = (stepF (P.map VT.erase) c).2 ∧ (∀ t, t ∈ P' → t.deep ≤ 512) ∧ P'.length ≤ P.length + 1) ∧ Keeps (fun i => lo ≤ i) w w'
set_option maxHeartbeats 4000000 in
set_option maxRecDepth 100000 in
theorem step_any (lo : Nat) (w : World) (p : Nat) (u v : Value) (P : List VT) (h : PileAt lo w p u v P) (c : CauseV) (hn : P.length ≤ 1000000) (hdp : ∀ t, t ∈ P → t.deep ≤ 512) :
    Calls Tryd.prog 15 #[.pointer (some ⟨p, 0, none⟩), .agg (causeCells c).toArray] w (StepPost lo w p P c) := by
  obtain ⟨kd, no, at_, tx, cn⟩ := c
  obtain ⟨CS, hCS⟩ : ∃ CS, CS = causeCells ⟨kd, no, at_, tx, cn⟩ := ⟨_, rfl⟩
  have HC0 : Hid (CS[0]? = some (.int .i64 kd)) := Lib.hid (by rw [hCS]; rfl)
  have HC1 : Hid (CS[1]? = some (.int .i64 no)) := Lib.hid (by rw [hCS]; rfl)
  have HC2 : Hid (CS[2]? = some (.int .i64 at_)) := Lib.hid (by rw [hCS]; rfl)
  have HC3 : Hid (CS[3]? = some (.string tx)) := Lib.hid (by rw [hCS]; rfl)
  have HC4 : Hid (CS[4]? = some (.int .i64 cn)) := Lib.hid (by rw [hCS]; rfl)
  have HBX := Lib.hid (Blk.new w 65 CS)
  have HPW := Lib.hid (h.read ((Keeps.refl (fun _ => False) w).alloc (.cells CS.toArray 65)) (fun _ _ h => h))
  have HDP := Lib.hid hdp
  have hlw : lo ≤ w.heap.size := by have := h.hp; have := h.blk.lt; omega
  rw [← hCS]
  clear h hCS hdp
  go_enter Tryd.func15, Tryd.ntmps15
  go_upto_region 1 with fail
  refine gen_codeF (fun W => Blk W w.heap.size 65 CS ∧ PileAt lo W p u v P ∧ Keeps (fun i => lo ≤ i) w W) ⟨HBX.out, HPW.out, ((Keeps.refl _ w).alloc _)⟩ ?_
  rintro w1 ⟨hbc, hpa, hk1⟩
  have HBC := Lib.hid hbc
  have HPA := Lib.hid hpa
  have HK1 := Lib.hid hk1
  have c0 := (hbc.cell 0).trans HC0.out
  have c1 := (hbc.cell 1).trans HC1.out
  have c2 := (hbc.cell 2).trans HC2.out
  have c3 := (hbc.cell 3).trans HC3.out
  have c4 := (hbc.cell 4).trans HC4.out
  have HON : Hid (∀ t, At (Bq lo p u v) w1 t → Calls Tryd.prog 30 #[.pointer (some ⟨p, 0, none⟩), vv t, .int .i64 t.deep] w1 fun e w' => e = .returned (.bool (decide ((t.deep : Int) ≤ 512))) ∧ ∃ u' v', PileAt lo w' p u' v' (P ++ [t]) ∧ Keeps (fun i => lo ≤ i) w1 w') := Lib.hid fun t ht =>
    (on_any lo w1 p u v P HPA.out t ht (by omega)).mono fun e w' ⟨he, u', v', r1, r2⟩ => ⟨he, u', v', r1, r2.mono (fun i _ hi => by
      rcases hi with e | e | e
      · rw [e]; exact HPA.out.hp
      · exact HPA.out.hu i e
      · exact HPA.out.hv i e)⟩
  clear hbc hpa hk1 HBX HPW
  have hkk : kd = 1 ∨ kd = 2 ∨ kd = 3 ∨ kd = 4 ∨ kd = 6 ∨ kd = 5 ∨ kd = 7 ∨ (kd ≠ 1 ∧ kd ≠ 2 ∧ kd ≠ 3 ∧ kd ≠ 4 ∧ kd ≠ 6 ∧ kd ≠ 5 ∧ kd ≠ 7) := by omega
  rcases hkk with rfl | rfl | rfl | rfl | rfl | rfl | rfl | ⟨z1, z2, z3, z4, z6, z5, z7⟩
  · have hd : (VT.deep (.nil)) = 1 := by simp [VT.deep]
    have HO := Lib.hid (HON.out (.nil) (by simp [At]))
    rw [hd] at HO
    clear hd
    have HO : Hid (Calls Tryd.prog 30 #[.pointer (some ⟨p, 0, none⟩), .nilIface, .int .i64 1] w1 fun e w' => e = .returned (.bool true) ∧ ∃ u' v', PileAt lo w' p u' v' (P ++ [.nil]) ∧ Keeps (fun i => lo ≤ i) w1 w') := Lib.hid HO.out
    go_wp2_with (go_at_call 30; refine HO.out.mono ?_; rintro e w2 ⟨rfl, u2, v2, hp2, hk2⟩; have HP2 := Lib.hid hp2; have HK2 := Lib.hid hk2; clear hp2 hk2)
    go_ret
    refine ⟨u2, v2, P ++ [.nil], by simp [stepF], fun _ => ⟨HP2.out, by simp [stepF, VT.erase], fun x hx => ?_, by simp⟩, HK1.out.trans HK2.out (fun _ _ h => h)⟩
    rcases List.mem_append.1 hx with hx | hx
    · exact HDP.out x hx
    · rw [List.mem_singleton.1 hx]; simp [VT.deep]
  · have hd : (VT.deep (.num no)) = 1 := by simp [VT.deep]
    have HO := Lib.hid (HON.out (.num no) (by simp [At]))
    rw [hd] at HO
    clear hd
    have HO : Hid (Calls Tryd.prog 30 #[.pointer (some ⟨p, 0, none⟩), .iface 33 (.int .i64 no), .int .i64 1] w1 fun e w' => e = .returned (.bool true) ∧ ∃ u' v', PileAt lo w' p u' v' (P ++ [.num no]) ∧ Keeps (fun i => lo ≤ i) w1 w') := Lib.hid HO.out
    go_wp2_with (go_at_call 30; refine HO.out.mono ?_; rintro e w2 ⟨rfl, u2, v2, hp2, hk2⟩; have HP2 := Lib.hid hp2; have HK2 := Lib.hid hk2; clear hp2 hk2)
    go_ret
    refine ⟨u2, v2, P ++ [.num no], by simp [stepF], fun _ => ⟨HP2.out, by simp [stepF, VT.erase], fun x hx => ?_, by simp⟩, HK1.out.trans HK2.out (fun _ _ h => h)⟩
    rcases List.mem_append.1 hx with hx | hx
    · exact HDP.out x hx
    · rw [List.mem_singleton.1 hx]; simp [VT.deep]
  · have hd : (VT.deep (.spot no at_)) = 2 := by simp [VT.deep]
    have HO := Lib.hid (HON.out (.spot no at_) (by simp [At]))
    rw [hd] at HO
    clear hd
    have HO : Hid (Calls Tryd.prog 30 #[.pointer (some ⟨p, 0, none⟩), .iface 40 (.agg #[.int .i64 no, .int .i64 at_]), .int .i64 2] w1 fun e w' => e = .returned (.bool true) ∧ ∃ u' v', PileAt lo w' p u' v' (P ++ [.spot no at_]) ∧ Keeps (fun i => lo ≤ i) w1 w') := Lib.hid HO.out
    go_wp2_with (go_at_call 30; refine HO.out.mono ?_; rintro e w2 ⟨rfl, u2, v2, hp2, hk2⟩; have HP2 := Lib.hid hp2; have HK2 := Lib.hid hk2; clear hp2 hk2)
    go_ret
    refine ⟨u2, v2, P ++ [.spot no at_], by simp [stepF], fun _ => ⟨HP2.out, by simp [stepF, VT.erase], fun x hx => ?_, by simp⟩, HK1.out.trans HK2.out (fun _ _ h => h)⟩
    rcases List.mem_append.1 hx with hx | hx
    · exact HDP.out x hx
    · rw [List.mem_singleton.1 hx]; simp [VT.deep]
  · have hd : (VT.deep (.trail no tx)) = 2 := by simp [VT.deep]
    have HO := Lib.hid (HON.out (.trail no tx) (by simp [At]))
    rw [hd] at HO
    clear hd
    have HO : Hid (Calls Tryd.prog 30 #[.pointer (some ⟨p, 0, none⟩), .iface 42 (.agg #[.int .i64 no, .string tx]), .int .i64 2] w1 fun e w' => e = .returned (.bool true) ∧ ∃ u' v', PileAt lo w' p u' v' (P ++ [.trail no tx]) ∧ Keeps (fun i => lo ≤ i) w1 w') := Lib.hid HO.out
    go_wp2_with (go_at_call 30; refine HO.out.mono ?_; rintro e w2 ⟨rfl, u2, v2, hp2, hk2⟩; have HP2 := Lib.hid hp2; have HK2 := Lib.hid hk2; clear hp2 hk2)
    go_ret
    refine ⟨u2, v2, P ++ [.trail no tx], by simp [stepF], fun _ => ⟨HP2.out, by simp [stepF, VT.erase], fun x hx => ?_, by simp⟩, HK1.out.trans HK2.out (fun _ _ h => h)⟩
    rcases List.mem_append.1 hx with hx | hx
    · exact HDP.out x hx
    · rw [List.mem_singleton.1 hx]; simp [VT.deep]
  · have hd : (VT.deep (.gone)) = 1 := by simp [VT.deep]
    have HO := Lib.hid (HON.out (.gone) (by simp [At]))
    rw [hd] at HO
    clear hd
    have HO : Hid (Calls Tryd.prog 30 #[.pointer (some ⟨p, 0, none⟩), .iface 43 (.pointer none), .int .i64 1] w1 fun e w' => e = .returned (.bool true) ∧ ∃ u' v', PileAt lo w' p u' v' (P ++ [.gone]) ∧ Keeps (fun i => lo ≤ i) w1 w') := Lib.hid HO.out
    go_wp2_with (go_at_call 30; refine HO.out.mono ?_; rintro e w2 ⟨rfl, u2, v2, hp2, hk2⟩; have HP2 := Lib.hid hp2; have HK2 := Lib.hid hk2; clear hp2 hk2)
    go_ret
    refine ⟨u2, v2, P ++ [.gone], by simp [stepF], fun _ => ⟨HP2.out, by simp [stepF, VT.erase], fun x hx => ?_, by simp⟩, HK1.out.trans HK2.out (fun _ _ h => h)⟩
    rcases List.mem_append.1 hx with hx | hx
    · exact HDP.out x hx
    · rw [List.mem_singleton.1 hx]; simp [VT.deep]
  · obtain ⟨A, ca, rfl⟩ := own_shape HPA.out.errs
    rcases List.eq_nil_or_concat P with hP | ⟨Q, e0, hP⟩
    · have hl : P.length = 0 := by rw [hP]; rfl
      have cb := HPA.out.blk.cell 0
      rw [hl] at cb
      have HPN := Lib.hid hP
      clear hP
      go_wp2
      go_ret
      exact ⟨v, v, P, by rw [HPN.out]; simp [stepF], fun h0 => by rw [HPN.out] at h0; simp [stepF] at h0, HK1.out⟩
    · obtain ⟨n, hnn⟩ : ∃ n, n = P.length := ⟨_, rfl⟩
      have hQ : P.drop Q.length = [e0] := by rw [hP]; simp
      have hT : P.take Q.length = Q := by rw [hP]; simp
      have hlen : Q.length + 1 = n := by rw [hnn, hP]; simp
      have cb := HPA.out.blk.cell 0
      rw [← hnn] at cb
      have hnz : ¬ n = 0 := by omega
      have HOF : Hid (Calls Tryd.prog 31 #[.pointer (some ⟨p, 0, none⟩), .int .i64 1] w1 fun e w' => ∃ A' c' u' v', e = .returned (.tuple #[.slice A' 1 c', .int .i64 (e0.deep : Int)]) ∧ PileAt lo w' p u' v' Q ∧
          w'.ownsRow 0 24 1 (.slice A' 1 c') 1 [vv e0] ∧ At (Bq lo p u' v') w' e0 ∧ Keeps (fun i => i = p) w1 w') := Lib.hid (by
        have h := off_any lo w1 p _ v P HPA.out n Q.length 1 hnn hlen (by omega)
        rw [hQ, hT] at h
        exact h.mono fun e w' ⟨A', c', u', v', r0, r1, r2, r3, r4, r5⟩ => ⟨A', c', u', v', by rw [r0]; simp [maxL], r1, r2, r4 e0 (by simp), r5⟩)
      have HP := Lib.hid hP
      have hd0 : e0.deep ≤ 512 := HDP.out e0 (by rw [hP]; simp)
      have HD0 := Lib.hid hd0
      have HNN := Lib.hid hnn
      obtain ⟨dp, hdp0⟩ : ∃ dp : Int, dp = (e0.deep : Int) := ⟨_, rfl⟩
      rw [← hdp0] at HOF
      have HDQ := Lib.hid hdp0
      clear hP hQ hT hlen hnn hd0 hdp0
      go_upto_region 18 with (go_at_call 31; refine HOF.out.mono ?_; rintro e w5 ⟨A5, c5, u5, v5, rfl, hp5, ho5, ha5, hk5⟩; have HP5 := Lib.hid hp5; have HO5 := Lib.hid ho5; have HA5 := Lib.hid ha5; have HK5 := Lib.hid hk5; clear hp5 ho5 ha5 hk5)
      obtain ⟨g5, hA5⟩ := own_headF HO5.out (by omega)
      subst hA5
      have HBC5 := Lib.hid (HK5.out.blk HBC.out (fun e => HPA.out.blk.ne_ HBC.out (by decide) e.symm))
      have he5 : w5.cell? ⟨g5, 0, none⟩ = some (vv e0) := by
        obtain ⟨g, o, e, hc⟩ := (Rd.of_own HO5.out).2 (by omega)
        injection e with e
        injection e with e1 e2
        subst e1 e2
        exact hc 0 (by omega)
      obtain ⟨EV, hEV⟩ : ∃ EV, EV = vv e0 := ⟨_, rfl⟩
      rw [← hEV] at he5
      have HE5 := Lib.hid he5
      have HE1 : Hid ((0 : Int) < 1) := Lib.hid (by omega)
      have hXC : EV.cells = #[EV] := by rw [hEV]; cases e0 <;> rfl
      unfold Value.cells at hXC
      have HXC := Lib.hid hXC
      have HEV := Lib.hid hEV
      clear hXC hEV
      have HNO0 : Hid (∀ w6, Keeps (fun _ => False) w5 w6 → Blk w6 w5.heap.size 59 [.string tx, EV] → ∀ D : Int, D = ((VT.note w5.heap.size tx e0).deep : Int) → Calls Tryd.prog 30 #[.pointer (some ⟨p, 0, none⟩), .iface 43 (.pointer (some ⟨w5.heap.size, 0, none⟩)), .int .i64 D] w6 fun e w' => e = .returned (.bool (decide (D ≤ 512))) ∧ ∃ u' v', PileAt lo w' p u' v' (Q ++ [.note w5.heap.size tx e0]) ∧ Keeps (fun i => lo ≤ i) w w') := Lib.hid fun w6 hk6 hb6 D hD => by
        rw [HEV.out] at hb6
        have hp6 := HP5.out.read hk6 (fun _ _ h => h)
        have hat : At (Bq lo p u5 v5) w6 (.note w5.heap.size tx e0) := by
          simp only [At]
          refine ⟨⟨by have := HP5.out.hp; have := HP5.out.blk.lt; omega, by have := HP5.out.blk.lt; omega, fun e => ?_, fun e => ?_⟩, hb6, HA5.out.keep hk6 (fun _ _ h => h)⟩
          · have := (HP5.out.errs.lt _ e).2; omega
          · have := (HP5.out.deeps.lt _ e).2; omega
        have h := on_any lo w6 p u5 v5 Q hp6 _ hat (by have h9 := hn; rw [HP.out] at h9; simp at h9; omega)
        rw [hD]
        refine h.mono fun e w' ⟨he, u', v', r1, r2⟩ => ⟨he, u', v', r1, ?_⟩
        refine ((HK1.out.trans (HK5.out.mono (G := fun i => lo ≤ i) (fun i _ e => by have e' : i = p := e; rw [e']; exact HPA.out.hp)) (fun _ _ h => h)).trans hk6 (fun _ _ h => h.elim)).trans r2 (fun i _ hi => ?_)
        rcases hi with e | e | e
        · rw [e]; exact hp6.hp
        · exact hp6.hu i e
        · exact hp6.hv i e
      have HFIN : Hid (∀ w' u' v', PileAt lo w' p u' v' (Q ++ [.note w5.heap.size tx e0]) → Keeps (fun i => lo ≤ i) w w' → ∃ u'' v'' P', (if (VT.note w5.heap.size tx e0).deep ≤ 512 then (0 : Int) else 3) = (stepF (P.map VT.erase) ⟨5, no, at_, tx, cn⟩).1 ∧
          ((stepF (P.map VT.erase) ⟨5, no, at_, tx, cn⟩).1 = 0 → PileAt lo w' p u'' v'' P' ∧ P'.map VT.erase = (stepF (P.map VT.erase) ⟨5, no, at_, tx, cn⟩).2 ∧ (∀ t, t ∈ P' → t.deep ≤ 512) ∧ P'.length ≤ P.length + 1) ∧ Keeps (fun i => lo ≤ i) w w') := Lib.hid fun w' u' v' hp' hk' => by
        have hst : stepF (P.map VT.erase) ⟨5, no, at_, tx, cn⟩ = if (VT.note w5.heap.size tx e0).deep ≤ 512 then (0, Q.map VT.erase ++ [.note 0 tx e0.erase]) else (3, P.map VT.erase) := by
          have e2 : (VT.note 0 tx e0.erase).deep = (VT.note w5.heap.size tx e0).deep := by rw [deep_note, deep_note, VT.isNil_erase, VT.deep_erase]
          rw [HP.out]
          simp [stepF, e2]
        refine ⟨u', v', Q ++ [.note w5.heap.size tx e0], ?_, fun h0 => ?_, hk'⟩
        · rw [hst]; split <;> rfl
        · rw [hst] at h0 ⊢
          split at h0
          · rename_i hd
            rw [if_pos hd]
            refine ⟨hp', by simp [VT.erase], fun t ht => ?_, by rw [HP.out]; simp⟩
            rcases List.mem_append.1 ht with ht | ht
            · exact HDP.out t (by rw [HP.out]; simp [ht])
            · rw [List.mem_singleton.1 ht]; exact hd
          · cases h0
      cases hni : e0.isNil with
      | true =>
        have hD : ((1 : Int)) = ((VT.note w5.heap.size tx e0).deep : Int) := by rw [deep_note, hni]; rfl
        have hlt : (VT.note w5.heap.size tx e0).deep ≤ 512 := by rw [deep_note, hni]; simp
        have hev : EV = .nilIface := by rw [HEV.out, vv_nil hni]; rfl
        subst hev
        have HNO := Lib.hid fun w6 hk6 hb6 => HNO0.out w6 hk6 hb6 1 hD
        have HLT := Lib.hid hlt
        have HW1 : Hid (IntKind.i64.wrap 1 = 1) := Lib.hid (by rw [IntKind.wrap_i64]; omega)
        clear hD hlt hni HEV HNO0
        go_upto_region 20 with fail
        clear he5
        refine wp_region_tail (S := Keeps (fun _ => False) w5) 11 (by kernel_rfl) (Keeps.refl _ _).drew (fun hHeld => ?_)
        refine wpAnyT_pure (i := 0) (oi := ⟨some 65, _, _, _, _, _⟩) (v := ?_) rfl (by kernel_rfl) (by kernel_rfl) (by kernel_rfl) (fun _ _ _ h => h) (Or.inl ⟨by rfl, ?_⟩) ?_
        rotate_left
        · intro w' hSw
          go_simp
          first | done | rfl
        try simp only [Act.put, List.setIfInBounds_toArray, List.set_cons_zero, List.set_cons_succ]
        refine wpAnyT_pure (i := 1) (oi := ⟨some 66, _, _, _, _, _⟩) (v := ?_) rfl (by kernel_rfl) (by kernel_rfl) (by kernel_rfl) (fun _ _ _ h => h) (Or.inl ⟨by rfl, ?_⟩) ?_
        rotate_left
        · intro w' hSw
          go_simp
          first | done | rfl
        try simp only [Act.put, List.setIfInBounds_toArray, List.set_cons_zero, List.set_cons_succ]
        refine wpAnyT_take [2, 6, 7, 8] (i := 2) (oi := ⟨some 67, _, _, _, _, _⟩) (v := ?_) rfl (by kernel_rfl) (by kernel_rfl) (by kernel_rfl) (by kernel_rfl) (by kernel_rfl) (fun _ _ _ h => h) (Or.inl ⟨by rfl, ?_⟩) hHeld ?_
        rotate_left
        · intro w' hSw
          have cv := (hSw.blk HBC5.out (fun h => h)).cell 3 |>.trans HC3.out
          go_simp
          first | done | rfl
        try simp only [Act.put, List.setIfInBounds_toArray, List.set_cons_zero, List.set_cons_succ]
        refine wpAnyT_pure (i := 3) (oi := ⟨some 68, _, _, _, _, _⟩) (v := ?_) rfl (by kernel_rfl) (by kernel_rfl) (by kernel_rfl) (fun _ _ _ h => h) (Or.inl ⟨by rfl, ?_⟩) ?_
        rotate_left
        · intro w' hSw
          go_simp
          first | done | rfl
        try simp only [Act.put, List.setIfInBounds_toArray, List.set_cons_zero, List.set_cons_succ]
        refine wpAnyT_pure (i := 4) (oi := ⟨some 69, _, _, _, _, _⟩) (v := ?_) rfl (by kernel_rfl) (by kernel_rfl) (by kernel_rfl) (fun _ _ _ h => h) (Or.inl ⟨by rfl, ?_⟩) ?_
        rotate_left
        · intro w' hSw
          have hl := HE1.out
          go_simp
          first | done | rfl
        try simp only [Act.put, List.setIfInBounds_toArray, List.set_cons_zero, List.set_cons_succ]
        refine wpAnyT_take [5, 6, 7, 8] (i := 5) (oi := ⟨some 70, _, _, _, _, _⟩) (v := ?_) rfl (by kernel_rfl) (by kernel_rfl) (by kernel_rfl) (by kernel_rfl) (by kernel_rfl) (fun _ _ _ h => h) (Or.inl ⟨by rfl, ?_⟩) hHeld ?_
        rotate_left
        · intro w' hSw
          have cv := (cell_keep hSw HE5.out)
          go_simp
          first | done | rfl
        try simp only [Act.put, List.setIfInBounds_toArray, List.set_cons_zero, List.set_cons_succ]
        refine wpAnyT_pure (i := 6) (oi := ⟨some 71, _, _, _, _, _⟩) (v := ?_) rfl (by kernel_rfl) (by kernel_rfl) (by kernel_rfl) (fun _ _ _ h => h) (Or.inl ⟨by rfl, ?_⟩) ?_
        rotate_left
        · intro w' hSw
          go_simp
          first | done | rfl
        try simp only [Act.put, List.setIfInBounds_toArray, List.set_cons_zero, List.set_cons_succ]
        refine wpAnyT_pure (i := 9) (oi := ⟨some 74, _, _, _, _, _⟩) (v := ?_) rfl (by kernel_rfl) (by kernel_rfl) (by kernel_rfl) (fun _ _ _ h => h) (Or.inl ⟨by rfl, ?_⟩) ?_
        rotate_left
        · intro w' hSw
          go_simp
          first | done | rfl
        try simp only [Act.put, List.setIfInBounds_toArray, List.set_cons_zero, List.set_cons_succ]
        refine wpAnyT_pure (i := 10) (oi := ⟨some 75, _, _, _, _, _⟩) (v := ?_) rfl (by kernel_rfl) (by kernel_rfl) (by kernel_rfl) (fun _ _ _ h => h) (Or.inl ⟨by rfl, ?_⟩) ?_
        rotate_left
        · intro w' hSw
          have cw := HW1.out
          go_simp
          first | done | rfl
        try simp only [Act.put, List.setIfInBounds_toArray, List.set_cons_zero, List.set_cons_succ]
        refine wpAnyT_step (i := 7) (o := ⟨some 72, _, _, _, _, _⟩) (by kernel_rfl) rfl (fun K hK => ?_)
        go_simp
        refine gen_KA (fun W => Keeps (fun _ => False) w5 W ∧ Blk W w5.heap.size 59 [.string tx, .nilIface]) ⟨((Keeps.refl (fun _ => False) w5).alloc _).drew, Blk.new w5 59 [.string tx, .nilIface]⟩ ?_
        rintro w6 ⟨hk6, hb6⟩
        have HK6 := Lib.hid hk6
        have HB6 := Lib.hid hb6
        refine hK.out _ _ hk6 (fun hHeld => ?_)
        clear hK K
        try simp only [Act.put, List.setIfInBounds_toArray, List.set_cons_zero, List.set_cons_succ]
        refine wpAnyT_take [8] (i := 8) (oi := ⟨some 73, _, _, _, _, _⟩) (v := ?_) rfl (by kernel_rfl) (by kernel_rfl) (by kernel_rfl) (by kernel_rfl) (by kernel_rfl) (fun _ _ _ h => h) (Or.inl ⟨by rfl, ?_⟩) hHeld ?_
        rotate_left
        · intro w' hSw
          go_simp
          first | done | rfl
        try simp only [Act.put, List.setIfInBounds_toArray, List.set_cons_zero, List.set_cons_succ]
        refine wpAnyT_tail (i := 11) (o := ⟨some 76, _, _, _, _, _⟩) (by kernel_rfl) (by kernel_rfl) rfl (fun K hK => ?_)
        go_simp
        refine (HNO.out w6 HK6.out HB6.out).mono ?_
        rintro e w7 ⟨rfl, hp7⟩
        have HP7 := Lib.hid hp7
        clear hp7
        refine hK.out _ _ ?_
        clear hK K
        try simp only [Act.put, List.setIfInBounds_toArray, List.set_cons_zero, List.set_cons_succ]
        refine wpAnyT_tail (i := 12) (o := ⟨some 5, _, _, _, _, _⟩) (by kernel_rfl) (by kernel_rfl) rfl (fun K hK => ?_)
        go_simp
        refine hK.out _ _ ?_
        clear hK K
        try simp only [Act.put, List.setIfInBounds_toArray, List.set_cons_zero, List.set_cons_succ]
        refine wpAnyT_done (by kernel_rfl) ?_

        go_wp2
        obtain ⟨u7, v7, hp7, hk7⟩ := HP7.out
        go_ret
        have := HFIN.out _ u7 v7 hp7 hk7
        rw [if_pos HLT.out] at this
        obtain ⟨u8, v8, P8, e8, r8, k8⟩ := this
        exact ⟨u8, v8, P8, congrArg (fun x => Ending.returned (.int .i64 x)) e8, r8, k8⟩
      | false =>
        obtain ⟨T0, x0, hx0⟩ := vv_iface hni
        have hD : (dp + 1 : Int) = ((VT.note w5.heap.size tx e0).deep : Int) := by rw [deep_note, hni, HDQ.out]; rfl
        have hev : EV = .iface T0 x0 := HEV.out.trans hx0
        subst hev
        have HNO1 := Lib.hid fun w6 hk6 hb6 => HNO0.out w6 hk6 hb6 (dp + 1) hD
        have HDD := Lib.hid hD
        have hb1 : 0 ≤ dp ∧ dp ≤ 512 := by have h1 := HDQ.out; have h2 := HD0.out; omega
        have HW1 : Hid (IntKind.i64.wrap (dp + 1) = dp + 1) := Lib.hid (by rw [IntKind.wrap_i64]; omega)
        clear hD hni HEV HNO0 hx0
        by_cases hle : dp + 1 ≤ 512
        · have HNO : Hid (∀ w6, Keeps (fun _ => False) w5 w6 → Blk w6 w5.heap.size 59 [.string tx, .iface T0 x0] → Calls Tryd.prog 30 #[.pointer (some ⟨p, 0, none⟩), .iface 43 (.pointer (some ⟨w5.heap.size, 0, none⟩)), .int .i64 (dp + 1)] w6 fun e w' => e = .returned (.bool true) ∧ ∃ u' v', PileAt lo w' p u' v' (Q ++ [.note w5.heap.size tx e0]) ∧ Keeps (fun i => lo ≤ i) w w') := Lib.hid fun w6 a b => by
            have h := HNO1.out w6 a b
            rw [decide_eq_true hle] at h
            exact h
          have HLT : Hid ((VT.note w5.heap.size tx e0).deep ≤ 512) := Lib.hid (by have := HDD.out; omega)
          clear HNO1 hle HDD HDQ HD0
          go_upto_region 20 with fail
          clear he5
          refine wp_region_tail (S := Keeps (fun _ => False) w5) 11 (by kernel_rfl) (Keeps.refl _ _).drew (fun hHeld => ?_)
          refine wpAnyT_pure (i := 0) (oi := ⟨some 65, _, _, _, _, _⟩) (v := ?_) rfl (by kernel_rfl) (by kernel_rfl) (by kernel_rfl) (fun _ _ _ h => h) (Or.inl ⟨by rfl, ?_⟩) ?_
          rotate_left
          · intro w' hSw
            go_simp
            first | done | rfl
          try simp only [Act.put, List.setIfInBounds_toArray, List.set_cons_zero, List.set_cons_succ]
          refine wpAnyT_pure (i := 1) (oi := ⟨some 66, _, _, _, _, _⟩) (v := ?_) rfl (by kernel_rfl) (by kernel_rfl) (by kernel_rfl) (fun _ _ _ h => h) (Or.inl ⟨by rfl, ?_⟩) ?_
          rotate_left
          · intro w' hSw
            go_simp
            first | done | rfl
          try simp only [Act.put, List.setIfInBounds_toArray, List.set_cons_zero, List.set_cons_succ]
          refine wpAnyT_take [2, 6, 7, 8] (i := 2) (oi := ⟨some 67, _, _, _, _, _⟩) (v := ?_) rfl (by kernel_rfl) (by kernel_rfl) (by kernel_rfl) (by kernel_rfl) (by kernel_rfl) (fun _ _ _ h => h) (Or.inl ⟨by rfl, ?_⟩) hHeld ?_
          rotate_left
          · intro w' hSw
            have cv := (hSw.blk HBC5.out (fun h => h)).cell 3 |>.trans HC3.out
            go_simp
            first | done | rfl
          try simp only [Act.put, List.setIfInBounds_toArray, List.set_cons_zero, List.set_cons_succ]
          refine wpAnyT_pure (i := 3) (oi := ⟨some 68, _, _, _, _, _⟩) (v := ?_) rfl (by kernel_rfl) (by kernel_rfl) (by kernel_rfl) (fun _ _ _ h => h) (Or.inl ⟨by rfl, ?_⟩) ?_
          rotate_left
          · intro w' hSw
            go_simp
            first | done | rfl
          try simp only [Act.put, List.setIfInBounds_toArray, List.set_cons_zero, List.set_cons_succ]
          refine wpAnyT_pure (i := 4) (oi := ⟨some 69, _, _, _, _, _⟩) (v := ?_) rfl (by kernel_rfl) (by kernel_rfl) (by kernel_rfl) (fun _ _ _ h => h) (Or.inl ⟨by rfl, ?_⟩) ?_
          rotate_left
          · intro w' hSw
            have hl := HE1.out
            go_simp
            first | done | rfl
          try simp only [Act.put, List.setIfInBounds_toArray, List.set_cons_zero, List.set_cons_succ]
          refine wpAnyT_take [5, 6, 7, 8] (i := 5) (oi := ⟨some 70, _, _, _, _, _⟩) (v := ?_) rfl (by kernel_rfl) (by kernel_rfl) (by kernel_rfl) (by kernel_rfl) (by kernel_rfl) (fun _ _ _ h => h) (Or.inl ⟨by rfl, ?_⟩) hHeld ?_
          rotate_left
          · intro w' hSw
            have cv := (cell_keep hSw HE5.out)
            go_simp
            first | done | rfl
          try simp only [Act.put, List.setIfInBounds_toArray, List.set_cons_zero, List.set_cons_succ]
          refine wpAnyT_pure (i := 6) (oi := ⟨some 71, _, _, _, _, _⟩) (v := ?_) rfl (by kernel_rfl) (by kernel_rfl) (by kernel_rfl) (fun _ _ _ h => h) (Or.inl ⟨by rfl, ?_⟩) ?_
          rotate_left
          · intro w' hSw
            go_simp
            first | done | rfl
          try simp only [Act.put, List.setIfInBounds_toArray, List.set_cons_zero, List.set_cons_succ]
          refine wpAnyT_pure (i := 9) (oi := ⟨some 74, _, _, _, _, _⟩) (v := ?_) rfl (by kernel_rfl) (by kernel_rfl) (by kernel_rfl) (fun _ _ _ h => h) (Or.inl ⟨by rfl, ?_⟩) ?_
          rotate_left
          · intro w' hSw
            go_simp
            first | done | rfl
          try simp only [Act.put, List.setIfInBounds_toArray, List.set_cons_zero, List.set_cons_succ]
          refine wpAnyT_pure (i := 10) (oi := ⟨some 75, _, _, _, _, _⟩) (v := ?_) rfl (by kernel_rfl) (by kernel_rfl) (by kernel_rfl) (fun _ _ _ h => h) (Or.inl ⟨by rfl, ?_⟩) ?_
          rotate_left
          · intro w' hSw
            have cw := HW1.out
            go_simp
            first | done | rfl
          try simp only [Act.put, List.setIfInBounds_toArray, List.set_cons_zero, List.set_cons_succ]
          refine wpAnyT_step (i := 7) (o := ⟨some 72, _, _, _, _, _⟩) (by kernel_rfl) rfl (fun K hK => ?_)
          go_simp
          refine gen_KA (fun W => Keeps (fun _ => False) w5 W ∧ Blk W w5.heap.size 59 [.string tx, (.iface T0 x0)]) ⟨((Keeps.refl (fun _ => False) w5).alloc _).drew, Blk.new w5 59 [.string tx, (.iface T0 x0)]⟩ ?_
          rintro w6 ⟨hk6, hb6⟩
          have HK6 := Lib.hid hk6
          have HB6 := Lib.hid hb6
          refine hK.out _ _ hk6 (fun hHeld => ?_)
          clear hK K
          try simp only [Act.put, List.setIfInBounds_toArray, List.set_cons_zero, List.set_cons_succ]
          refine wpAnyT_take [8] (i := 8) (oi := ⟨some 73, _, _, _, _, _⟩) (v := ?_) rfl (by kernel_rfl) (by kernel_rfl) (by kernel_rfl) (by kernel_rfl) (by kernel_rfl) (fun _ _ _ h => h) (Or.inl ⟨by rfl, ?_⟩) hHeld ?_
          rotate_left
          · intro w' hSw
            go_simp
            first | done | rfl
          try simp only [Act.put, List.setIfInBounds_toArray, List.set_cons_zero, List.set_cons_succ]
          refine wpAnyT_tail (i := 11) (o := ⟨some 76, _, _, _, _, _⟩) (by kernel_rfl) (by kernel_rfl) rfl (fun K hK => ?_)
          go_simp
          refine (HNO.out w6 HK6.out HB6.out).mono ?_
          rintro e w7 ⟨rfl, hp7⟩
          have HP7 := Lib.hid hp7
          clear hp7
          refine hK.out _ _ ?_
          clear hK K
          try simp only [Act.put, List.setIfInBounds_toArray, List.set_cons_zero, List.set_cons_succ]
          refine wpAnyT_tail (i := 12) (o := ⟨some 5, _, _, _, _, _⟩) (by kernel_rfl) (by kernel_rfl) rfl (fun K hK => ?_)
          go_simp
          refine hK.out _ _ ?_
          clear hK K
          try simp only [Act.put, List.setIfInBounds_toArray, List.set_cons_zero, List.set_cons_succ]
          refine wpAnyT_done (by kernel_rfl) ?_

          go_wp2
          obtain ⟨u7, v7, hp7, hk7⟩ := HP7.out
          go_ret
          have := HFIN.out _ u7 v7 hp7 hk7
          rw [if_pos HLT.out] at this
          obtain ⟨u8, v8, P8, e8, r8, k8⟩ := this
          exact ⟨u8, v8, P8, congrArg (fun x => Ending.returned (.int .i64 x)) e8, r8, k8⟩
        · have HNO : Hid (∀ w6, Keeps (fun _ => False) w5 w6 → Blk w6 w5.heap.size 59 [.string tx, .iface T0 x0] → Calls Tryd.prog 30 #[.pointer (some ⟨p, 0, none⟩), .iface 43 (.pointer (some ⟨w5.heap.size, 0, none⟩)), .int .i64 (dp + 1)] w6 fun e w' => e = .returned (.bool false) ∧ ∃ u' v', PileAt lo w' p u' v' (Q ++ [.note w5.heap.size tx e0]) ∧ Keeps (fun i => lo ≤ i) w w') := Lib.hid fun w6 a b => by
            have h := HNO1.out w6 a b
            rw [decide_eq_false hle] at h
            exact h
          have HLT : Hid (¬ (VT.note w5.heap.size tx e0).deep ≤ 512) := Lib.hid (by have := HDD.out; omega)
          clear HNO1 hle HDD HDQ HD0
          go_upto_region 20 with fail
          clear he5
          refine wp_region_tail (S := Keeps (fun _ => False) w5) 11 (by kernel_rfl) (Keeps.refl _ _).drew (fun hHeld => ?_)
          refine wpAnyT_pure (i := 0) (oi := ⟨some 65, _, _, _, _, _⟩) (v := ?_) rfl (by kernel_rfl) (by kernel_rfl) (by kernel_rfl) (fun _ _ _ h => h) (Or.inl ⟨by rfl, ?_⟩) ?_
          rotate_left
          · intro w' hSw
            go_simp
            first | done | rfl
          try simp only [Act.put, List.setIfInBounds_toArray, List.set_cons_zero, List.set_cons_succ]
          refine wpAnyT_pure (i := 1) (oi := ⟨some 66, _, _, _, _, _⟩) (v := ?_) rfl (by kernel_rfl) (by kernel_rfl) (by kernel_rfl) (fun _ _ _ h => h) (Or.inl ⟨by rfl, ?_⟩) ?_
          rotate_left
          · intro w' hSw
            go_simp
            first | done | rfl
          try simp only [Act.put, List.setIfInBounds_toArray, List.set_cons_zero, List.set_cons_succ]
          refine wpAnyT_take [2, 6, 7, 8] (i := 2) (oi := ⟨some 67, _, _, _, _, _⟩) (v := ?_) rfl (by kernel_rfl) (by kernel_rfl) (by kernel_rfl) (by kernel_rfl) (by kernel_rfl) (fun _ _ _ h => h) (Or.inl ⟨by rfl, ?_⟩) hHeld ?_
          rotate_left
          · intro w' hSw
            have cv := (hSw.blk HBC5.out (fun h => h)).cell 3 |>.trans HC3.out
            go_simp
            first | done | rfl
          try simp only [Act.put, List.setIfInBounds_toArray, List.set_cons_zero, List.set_cons_succ]
          refine wpAnyT_pure (i := 3) (oi := ⟨some 68, _, _, _, _, _⟩) (v := ?_) rfl (by kernel_rfl) (by kernel_rfl) (by kernel_rfl) (fun _ _ _ h => h) (Or.inl ⟨by rfl, ?_⟩) ?_
          rotate_left
          · intro w' hSw
            go_simp
            first | done | rfl
          try simp only [Act.put, List.setIfInBounds_toArray, List.set_cons_zero, List.set_cons_succ]
          refine wpAnyT_pure (i := 4) (oi := ⟨some 69, _, _, _, _, _⟩) (v := ?_) rfl (by kernel_rfl) (by kernel_rfl) (by kernel_rfl) (fun _ _ _ h => h) (Or.inl ⟨by rfl, ?_⟩) ?_
          rotate_left
          · intro w' hSw
            have hl := HE1.out
            go_simp
            first | done | rfl
          try simp only [Act.put, List.setIfInBounds_toArray, List.set_cons_zero, List.set_cons_succ]
          refine wpAnyT_take [5, 6, 7, 8] (i := 5) (oi := ⟨some 70, _, _, _, _, _⟩) (v := ?_) rfl (by kernel_rfl) (by kernel_rfl) (by kernel_rfl) (by kernel_rfl) (by kernel_rfl) (fun _ _ _ h => h) (Or.inl ⟨by rfl, ?_⟩) hHeld ?_
          rotate_left
          · intro w' hSw
            have cv := (cell_keep hSw HE5.out)
            go_simp
            first | done | rfl
          try simp only [Act.put, List.setIfInBounds_toArray, List.set_cons_zero, List.set_cons_succ]
          refine wpAnyT_pure (i := 6) (oi := ⟨some 71, _, _, _, _, _⟩) (v := ?_) rfl (by kernel_rfl) (by kernel_rfl) (by kernel_rfl) (fun _ _ _ h => h) (Or.inl ⟨by rfl, ?_⟩) ?_
          rotate_left
          · intro w' hSw
            go_simp
            first | done | rfl
          try simp only [Act.put, List.setIfInBounds_toArray, List.set_cons_zero, List.set_cons_succ]
          refine wpAnyT_pure (i := 9) (oi := ⟨some 74, _, _, _, _, _⟩) (v := ?_) rfl (by kernel_rfl) (by kernel_rfl) (by kernel_rfl) (fun _ _ _ h => h) (Or.inl ⟨by rfl, ?_⟩) ?_
          rotate_left
          · intro w' hSw
            go_simp
            first | done | rfl
          try simp only [Act.put, List.setIfInBounds_toArray, List.set_cons_zero, List.set_cons_succ]
          refine wpAnyT_pure (i := 10) (oi := ⟨some 75, _, _, _, _, _⟩) (v := ?_) rfl (by kernel_rfl) (by kernel_rfl) (by kernel_rfl) (fun _ _ _ h => h) (Or.inl ⟨by rfl, ?_⟩) ?_
          rotate_left
          · intro w' hSw
            have cw := HW1.out
            go_simp
            first | done | rfl
          try simp only [Act.put, List.setIfInBounds_toArray, List.set_cons_zero, List.set_cons_succ]
          refine wpAnyT_step (i := 7) (o := ⟨some 72, _, _, _, _, _⟩) (by kernel_rfl) rfl (fun K hK => ?_)
          go_simp
          refine gen_KA (fun W => Keeps (fun _ => False) w5 W ∧ Blk W w5.heap.size 59 [.string tx, (.iface T0 x0)]) ⟨((Keeps.refl (fun _ => False) w5).alloc _).drew, Blk.new w5 59 [.string tx, (.iface T0 x0)]⟩ ?_
          rintro w6 ⟨hk6, hb6⟩
          have HK6 := Lib.hid hk6
          have HB6 := Lib.hid hb6
          refine hK.out _ _ hk6 (fun hHeld => ?_)
          clear hK K
          try simp only [Act.put, List.setIfInBounds_toArray, List.set_cons_zero, List.set_cons_succ]
          refine wpAnyT_take [8] (i := 8) (oi := ⟨some 73, _, _, _, _, _⟩) (v := ?_) rfl (by kernel_rfl) (by kernel_rfl) (by kernel_rfl) (by kernel_rfl) (by kernel_rfl) (fun _ _ _ h => h) (Or.inl ⟨by rfl, ?_⟩) hHeld ?_
          rotate_left
          · intro w' hSw
            go_simp
            first | done | rfl
          try simp only [Act.put, List.setIfInBounds_toArray, List.set_cons_zero, List.set_cons_succ]
          refine wpAnyT_tail (i := 11) (o := ⟨some 76, _, _, _, _, _⟩) (by kernel_rfl) (by kernel_rfl) rfl (fun K hK => ?_)
          go_simp
          refine (HNO.out w6 HK6.out HB6.out).mono ?_
          rintro e w7 ⟨rfl, hp7⟩
          have HP7 := Lib.hid hp7
          clear hp7
          refine hK.out _ _ ?_
          clear hK K
          try simp only [Act.put, List.setIfInBounds_toArray, List.set_cons_zero, List.set_cons_succ]
          refine wpAnyT_tail (i := 12) (o := ⟨some 5, _, _, _, _, _⟩) (by kernel_rfl) (by kernel_rfl) rfl (fun K hK => ?_)
          go_simp
          refine hK.out _ _ ?_
          clear hK K
          try simp only [Act.put, List.setIfInBounds_toArray, List.set_cons_zero, List.set_cons_succ]
          refine wpAnyT_done (by kernel_rfl) ?_

          go_wp2
          obtain ⟨u7, v7, hp7, hk7⟩ := HP7.out
          go_ret
          have := HFIN.out _ u7 v7 hp7 hk7
          rw [if_neg HLT.out] at this
          obtain ⟨u8, v8, P8, e8, r8, k8⟩ := this
          exact ⟨u8, v8, P8, congrArg (fun x => Ending.returned (.int .i64 x)) e8, r8, k8⟩
  · obtain ⟨A, ca, rfl⟩ := own_shape HPA.out.errs
    obtain ⟨n, hnn⟩ : ∃ n, n = P.length := ⟨_, rfl⟩
    have HNN := Lib.hid hnn
    have cb := HPA.out.blk.cell 0
    rw [← hnn] at cb
    have HCB0 := Lib.hid cb
    have hst0 : stepF (P.map VT.erase) ⟨7, no, at_, tx, cn⟩ = if cn < 0 ∨ (P.length : Int) < cn then (80, P.map VT.erase) else if (VT.all none 0 ((P.map VT.erase).drop (P.length - cn.toNat))).deep ≤ 512 then (0, (P.map VT.erase).take (P.length - cn.toNat) ++ [.all none 0 ((P.map VT.erase).drop (P.length - cn.toNat))]) else (3, P.map VT.erase) := by
      simp [stepF]
    have HST := Lib.hid hst0
    clear hst0
    by_cases hneg : cn < 0
    · go_upto_region 22 with fail
      refine wp_region_held_drew (S := Keeps (fun _ => False) w1) (by kernel_rfl) (Keeps.refl (fun _ => False) _).drew (fun hHeld => ?_)
      refine wpAnyH_take (i := 0) (oi := ⟨some 79, _, _, _, _, _⟩) (v := ?_) rfl (by kernel_rfl) (by kernel_rfl) (by kernel_rfl) (fun _ _ _ h => h) (Or.inl ⟨by rfl, ?_⟩) hHeld ?_
      rotate_left
      · intro w' hSw
        go_simp
        first | done | rfl
      try simp only [Act.put, List.setIfInBounds_toArray, List.set_cons_zero, List.set_cons_succ]
      refine wpAnyH_take (i := 1) (oi := ⟨some 80, _, _, _, _, _⟩) (v := ?_) rfl (by kernel_rfl) (by kernel_rfl) (by kernel_rfl) (fun _ _ _ h => h) (Or.inl ⟨by rfl, ?_⟩) hHeld ?_
      rotate_left
      · intro w' hSw
        have cv := (hSw.blk HBC.out (fun h => h)).cell 4 |>.trans HC4.out
        go_simp
        first | done | rfl
      try simp only [Act.put, List.setIfInBounds_toArray, List.set_cons_zero, List.set_cons_succ]
      refine wpAnyH_take (i := 2) (oi := ⟨some 81, _, _, _, _, _⟩) (v := ?_) rfl (by kernel_rfl) (by kernel_rfl) (by kernel_rfl) (fun _ _ _ h => h) (Or.inl ⟨by rfl, ?_⟩) hHeld ?_
      rotate_left
      · intro w' hSw
        go_simp
        first | done | rfl
      try simp only [Act.put, List.setIfInBounds_toArray, List.set_cons_zero, List.set_cons_succ]
      refine wpAnyH_take (i := 3) (oi := ⟨some 82, _, _, _, _, _⟩) (v := ?_) rfl (by kernel_rfl) (by kernel_rfl) (by kernel_rfl) (fun _ _ _ h => h) (Or.inl ⟨by rfl, ?_⟩) hHeld ?_
      rotate_left
      · intro w' hSw
        go_simp
        first | done | rfl
      try simp only [Act.put, List.setIfInBounds_toArray, List.set_cons_zero, List.set_cons_succ]
      refine wpAnyH_take (i := 4) (oi := ⟨some 83, _, _, _, _, _⟩) (v := undef) rfl (by kernel_rfl) (by kernel_rfl) (by kernel_rfl) (fun _ _ _ h => h) (Or.inr ⟨by rfl, rfl⟩) hHeld ?_
      try simp only [Act.put, List.setIfInBounds_toArray, List.set_cons_zero, List.set_cons_succ]
      refine wpAnyH_take (i := 5) (oi := ⟨some 84, _, _, _, _, _⟩) (v := undef) rfl (by kernel_rfl) (by kernel_rfl) (by kernel_rfl) (fun _ _ _ h => h) (Or.inr ⟨by rfl, rfl⟩) hHeld ?_
      try simp only [Act.put, List.setIfInBounds_toArray, List.set_cons_zero, List.set_cons_succ]
      refine wpAnyH_take (i := 6) (oi := ⟨some 85, _, _, _, _, _⟩) (v := undef) rfl (by kernel_rfl) (by kernel_rfl) (by kernel_rfl) (fun _ _ _ h => h) (Or.inr ⟨by rfl, rfl⟩) hHeld ?_
      try simp only [Act.put, List.setIfInBounds_toArray, List.set_cons_zero, List.set_cons_succ]
      refine wpAnyH_take (i := 7) (oi := ⟨some 86, _, _, _, _, _⟩) (v := undef) rfl (by kernel_rfl) (by kernel_rfl) (by kernel_rfl) (fun _ _ _ h => h) (Or.inr ⟨by rfl, rfl⟩) hHeld ?_
      try simp only [Act.put, List.setIfInBounds_toArray, List.set_cons_zero, List.set_cons_succ]
      refine wpAnyH_take (i := 8) (oi := ⟨some 87, _, _, _, _, _⟩) (v := undef) rfl (by kernel_rfl) (by kernel_rfl) (by kernel_rfl) (fun _ _ _ h => h) (Or.inr ⟨by rfl, rfl⟩) hHeld ?_
      try simp only [Act.put, List.setIfInBounds_toArray, List.set_cons_zero, List.set_cons_succ]
      refine wpAnyH_take (i := 9) (oi := ⟨some 88, _, _, _, _, _⟩) (v := undef) rfl (by kernel_rfl) (by kernel_rfl) (by kernel_rfl) (fun _ _ _ h => h) (Or.inr ⟨by rfl, rfl⟩) hHeld ?_
      try simp only [Act.put, List.setIfInBounds_toArray, List.set_cons_zero, List.set_cons_succ]
      refine wpAnyH_take (i := 10) (oi := ⟨some 89, _, _, _, _, _⟩) (v := undef) rfl (by kernel_rfl) (by kernel_rfl) (by kernel_rfl) (fun _ _ _ h => h) (Or.inr ⟨by rfl, rfl⟩) hHeld ?_
      try simp only [Act.put, List.setIfInBounds_toArray, List.set_cons_zero, List.set_cons_succ]
      refine wpAnyH_take (i := 11) (oi := ⟨some 90, _, _, _, _, _⟩) (v := undef) rfl (by kernel_rfl) (by kernel_rfl) (by kernel_rfl) (fun _ _ _ h => h) (Or.inr ⟨by rfl, rfl⟩) hHeld ?_
      try simp only [Act.put, List.setIfInBounds_toArray, List.set_cons_zero, List.set_cons_succ]
      refine wpAnyH_take (i := 12) (oi := ⟨some 91, _, _, _, _, _⟩) (v := ?_) rfl (by kernel_rfl) (by kernel_rfl) (by kernel_rfl) (fun _ _ _ h => h) (Or.inl ⟨by rfl, ?_⟩) hHeld ?_
      rotate_left
      · intro w' hSw
        go_simp
        first | done | rfl
      try simp only [Act.put, List.setIfInBounds_toArray, List.set_cons_zero, List.set_cons_succ]
      refine wpAnyH_done (by kernel_rfl) ?_ _

      go_wp2
      go_ret
      exact ⟨v, v, P, (by rw [HST.out, if_pos (.inl hneg)]; try rfl), fun h0 => (by rw [HST.out, if_pos (.inl hneg)] at h0; cases h0), HK1.out.trans hHeld (fun _ _ h => h.elim)⟩
    · by_cases hbig : (n : Int) < cn
      · go_upto_region 22 with fail
        refine wp_region_held_drew (S := Keeps (fun _ => False) w1) (by kernel_rfl) (Keeps.refl (fun _ => False) _).drew (fun hHeld => ?_)
        refine wpAnyH_take (i := 0) (oi := ⟨some 79, _, _, _, _, _⟩) (v := ?_) rfl (by kernel_rfl) (by kernel_rfl) (by kernel_rfl) (fun _ _ _ h => h) (Or.inl ⟨by rfl, ?_⟩) hHeld ?_
        rotate_left
        · intro w' hSw
          go_simp
          first | done | rfl
        try simp only [Act.put, List.setIfInBounds_toArray, List.set_cons_zero, List.set_cons_succ]
        refine wpAnyH_take (i := 1) (oi := ⟨some 80, _, _, _, _, _⟩) (v := ?_) rfl (by kernel_rfl) (by kernel_rfl) (by kernel_rfl) (fun _ _ _ h => h) (Or.inl ⟨by rfl, ?_⟩) hHeld ?_
        rotate_left
        · intro w' hSw
          have cv := (hSw.blk HBC.out (fun h => h)).cell 4 |>.trans HC4.out
          go_simp
          first | done | rfl
        try simp only [Act.put, List.setIfInBounds_toArray, List.set_cons_zero, List.set_cons_succ]
        refine wpAnyH_take (i := 2) (oi := ⟨some 81, _, _, _, _, _⟩) (v := ?_) rfl (by kernel_rfl) (by kernel_rfl) (by kernel_rfl) (fun _ _ _ h => h) (Or.inl ⟨by rfl, ?_⟩) hHeld ?_
        rotate_left
        · intro w' hSw
          go_simp
          first | done | rfl
        try simp only [Act.put, List.setIfInBounds_toArray, List.set_cons_zero, List.set_cons_succ]
        refine wpAnyH_take (i := 3) (oi := ⟨some 82, _, _, _, _, _⟩) (v := ?_) rfl (by kernel_rfl) (by kernel_rfl) (by kernel_rfl) (fun _ _ _ h => h) (Or.inl ⟨by rfl, ?_⟩) hHeld ?_
        rotate_left
        · intro w' hSw
          go_simp
          first | done | rfl
        try simp only [Act.put, List.setIfInBounds_toArray, List.set_cons_zero, List.set_cons_succ]
        refine wpAnyH_take (i := 4) (oi := ⟨some 83, _, _, _, _, _⟩) (v := ?_) rfl (by kernel_rfl) (by kernel_rfl) (by kernel_rfl) (fun _ _ _ h => h) (Or.inl ⟨by rfl, ?_⟩) hHeld ?_
        rotate_left
        · intro w' hSw
          go_simp
          first | done | rfl
        try simp only [Act.put, List.setIfInBounds_toArray, List.set_cons_zero, List.set_cons_succ]
        refine wpAnyH_take (i := 5) (oi := ⟨some 84, _, _, _, _, _⟩) (v := ?_) rfl (by kernel_rfl) (by kernel_rfl) (by kernel_rfl) (fun _ _ _ h => h) (Or.inl ⟨by rfl, ?_⟩) hHeld ?_
        rotate_left
        · intro w' hSw
          have cv := (hSw.blk HBC.out (fun h => h)).cell 4 |>.trans HC4.out
          go_simp
          first | done | rfl
        try simp only [Act.put, List.setIfInBounds_toArray, List.set_cons_zero, List.set_cons_succ]
        refine wpAnyH_take (i := 6) (oi := ⟨some 85, _, _, _, _, _⟩) (v := ?_) rfl (by kernel_rfl) (by kernel_rfl) (by kernel_rfl) (fun _ _ _ h => h) (Or.inl ⟨by rfl, ?_⟩) hHeld ?_
        rotate_left
        · intro w' hSw
          go_simp
          first | done | rfl
        try simp only [Act.put, List.setIfInBounds_toArray, List.set_cons_zero, List.set_cons_succ]
        refine wpAnyH_take (i := 7) (oi := ⟨some 86, _, _, _, _, _⟩) (v := ?_) rfl (by kernel_rfl) (by kernel_rfl) (by kernel_rfl) (fun _ _ _ h => h) (Or.inl ⟨by rfl, ?_⟩) hHeld ?_
        rotate_left
        · intro w' hSw
          go_simp
          first | done | rfl
        try simp only [Act.put, List.setIfInBounds_toArray, List.set_cons_zero, List.set_cons_succ]
        refine wpAnyH_take (i := 8) (oi := ⟨some 87, _, _, _, _, _⟩) (v := ?_) rfl (by kernel_rfl) (by kernel_rfl) (by kernel_rfl) (fun _ _ _ h => h) (Or.inl ⟨by rfl, ?_⟩) hHeld ?_
        rotate_left
        · intro w' hSw
          go_simp
          first | done | rfl
        try simp only [Act.put, List.setIfInBounds_toArray, List.set_cons_zero, List.set_cons_succ]
        refine wpAnyH_take (i := 9) (oi := ⟨some 88, _, _, _, _, _⟩) (v := ?_) rfl (by kernel_rfl) (by kernel_rfl) (by kernel_rfl) (fun _ _ _ h => h) (Or.inl ⟨by rfl, ?_⟩) hHeld ?_
        rotate_left
        · intro w' hSw
          have cv := cell_keep hSw (HCB0.out.trans rfl)
          go_simp
          first | done | rfl
        try simp only [Act.put, List.setIfInBounds_toArray, List.set_cons_zero, List.set_cons_succ]
        refine wpAnyH_take (i := 10) (oi := ⟨some 89, _, _, _, _, _⟩) (v := ?_) rfl (by kernel_rfl) (by kernel_rfl) (by kernel_rfl) (fun _ _ _ h => h) (Or.inl ⟨by rfl, ?_⟩) hHeld ?_
        rotate_left
        · intro w' hSw
          go_simp
          first | done | rfl
        try simp only [Act.put, List.setIfInBounds_toArray, List.set_cons_zero, List.set_cons_succ]
        refine wpAnyH_take (i := 11) (oi := ⟨some 90, _, _, _, _, _⟩) (v := ?_) rfl (by kernel_rfl) (by kernel_rfl) (by kernel_rfl) (fun _ _ _ h => h) (Or.inl ⟨by rfl, ?_⟩) hHeld ?_
        rotate_left
        · intro w' hSw
          go_simp
          first | done | rfl
        try simp only [Act.put, List.setIfInBounds_toArray, List.set_cons_zero, List.set_cons_succ]
        refine wpAnyH_take (i := 12) (oi := ⟨some 91, _, _, _, _, _⟩) (v := ?_) rfl (by kernel_rfl) (by kernel_rfl) (by kernel_rfl) (fun _ _ _ h => h) (Or.inl ⟨by rfl, ?_⟩) hHeld ?_
        rotate_left
        · intro w' hSw
          go_simp
          first | done | rfl
        try simp only [Act.put, List.setIfInBounds_toArray, List.set_cons_zero, List.set_cons_succ]
        refine wpAnyH_done (by kernel_rfl) ?_ _

        go_wp2
        go_ret
        exact ⟨v, v, P, (by rw [HST.out, if_pos (.inr (by rw [← HNN.out]; exact hbig))]; try rfl), fun h0 => (by rw [HST.out, if_pos (.inr (by rw [← HNN.out]; exact hbig))] at h0; cases h0), HK1.out.trans hHeld (fun _ _ h => h.elim)⟩
      · obtain ⟨m, hm⟩ : ∃ m : Nat, cn = m := ⟨cn.toNat, by omega⟩
        subst hm
        have hmn : m ≤ n := by omega
        obtain ⟨k, hk⟩ : ∃ k, k = n - m := ⟨_, rfl⟩
        have hkm : k + m = n := by omega
        obtain ⟨L, hL⟩ : ∃ L, L = P.drop k := ⟨_, rfl⟩
        obtain ⟨Q, hQ⟩ : ∃ Q, Q = P.take k := ⟨_, rfl⟩
        have hPQ : P = Q ++ L := by rw [hQ, hL, List.take_append_drop]
        have hLl : L.length = m := by rw [hL, List.length_drop]; omega
        obtain ⟨dp, hdp⟩ : ∃ dp : Int, dp = ((maxL (L.map fun t => t.deep) : Nat) : Int) := ⟨_, rfl⟩
        have HOF : Hid (∀ W, Keeps (fun _ => False) w1 W → Calls Tryd.prog 31 #[.pointer (some ⟨p, 0, none⟩), .int .i64 m] W fun e w' => ∃ A' c' u' v', e = .returned (.tuple #[.slice A' m c', .int .i64 dp]) ∧ PileAt lo w' p u' v' Q ∧
            w'.ownsRow 0 24 1 (.slice A' m c') m (L.map vv) ∧ (∀ g, (Value.slice A' m c').ownBlock = some g → Bq lo p u' v' g) ∧ (∀ t, t ∈ L → At (Bq lo p u' v') w' t) ∧ Keeps (fun i => lo ≤ i) w1 w') := Lib.hid (fun W hW => by
          have h := off_any lo W p _ v P (HPA.out.read hW (fun _ _ h => h)) n k m hnn hkm (by omega)
          rw [← hL, ← hQ, ← hdp] at h
          exact h.mono fun e w' ⟨A', c', u', v', r0, r1, r2, r3, r4, r5⟩ => ⟨A', c', u', v', r0, r1, r2, fun g hg => (r3 g hg).1, r4, (hW.mono (G := fun i => lo ≤ i) (fun _ _ h => h.elim)).trans r5 (fun i _ e => by have e' : i = p := e; rw [e']; exact HPA.out.hp)⟩)
        have hmx : maxL (L.map fun t => t.deep) ≤ 512 := by
          have : ∀ l : List Nat, (∀ x, x ∈ l → x ≤ 512) → maxL l ≤ 512 := by
            intro l
            induction l with
            | nil => intro _; simp [maxL]
            | cons y l ih => intro h; have h1 := h y (by simp); have h2 := ih (fun x hx => h x (by simp [hx])); simp only [maxL]; omega
          refine this _ (fun x hx => ?_)
          obtain ⟨t, ht, rfl⟩ := List.mem_map.1 hx
          exact HDP.out t (by rw [hPQ]; simp [ht])
        have hdp2 : 0 ≤ dp ∧ dp ≤ 512 := by omega
        have hw1 : IntKind.i64.wrap (dp + 1) = dp + 1 := by rw [IntKind.wrap_i64]; omega
        have HPQ := Lib.hid hPQ
        have HLL := Lib.hid hLl
        have HDQ := Lib.hid hdp
        have HKM : Hid (P.length - (m : Int).toNat = k) := Lib.hid (by rw [← hnn]; omega)
        have HQL : Hid (Q.length = k) := Lib.hid (by rw [hQ, List.length_take]; omega)
        have hnb : ¬ n < m := by omega
        have hmq : m ≤ 1048576 := by omega
        clear hL hQ hPQ hLl hdp hmx hnn hk hkm
        go_upto_region 22 with fail
        refine wp_region_held_drew (S := Keeps (fun _ => False) w1) (by kernel_rfl) (Keeps.refl (fun _ => False) _).drew (fun hHeld => ?_)
        refine wpAnyH_take (i := 0) (oi := ⟨some 79, _, _, _, _, _⟩) (v := ?_) rfl (by kernel_rfl) (by kernel_rfl) (by kernel_rfl) (fun _ _ _ h => h) (Or.inl ⟨by rfl, ?_⟩) hHeld ?_
        rotate_left
        · intro w' hSw
          go_simp
          first | done | rfl
        try simp only [Act.put, List.setIfInBounds_toArray, List.set_cons_zero, List.set_cons_succ]
        refine wpAnyH_take (i := 1) (oi := ⟨some 80, _, _, _, _, _⟩) (v := ?_) rfl (by kernel_rfl) (by kernel_rfl) (by kernel_rfl) (fun _ _ _ h => h) (Or.inl ⟨by rfl, ?_⟩) hHeld ?_
        rotate_left
        · intro w' hSw
          have cv := (hSw.blk HBC.out (fun h => h)).cell 4 |>.trans HC4.out
          go_simp
          first | done | rfl
        try simp only [Act.put, List.setIfInBounds_toArray, List.set_cons_zero, List.set_cons_succ]
        refine wpAnyH_take (i := 2) (oi := ⟨some 81, _, _, _, _, _⟩) (v := ?_) rfl (by kernel_rfl) (by kernel_rfl) (by kernel_rfl) (fun _ _ _ h => h) (Or.inl ⟨by rfl, ?_⟩) hHeld ?_
        rotate_left
        · intro w' hSw
          go_simp
          first | done | rfl
        try simp only [Act.put, List.setIfInBounds_toArray, List.set_cons_zero, List.set_cons_succ]
        refine wpAnyH_take (i := 3) (oi := ⟨some 82, _, _, _, _, _⟩) (v := ?_) rfl (by kernel_rfl) (by kernel_rfl) (by kernel_rfl) (fun _ _ _ h => h) (Or.inl ⟨by rfl, ?_⟩) hHeld ?_
        rotate_left
        · intro w' hSw
          go_simp
          first | done | rfl
        try simp only [Act.put, List.setIfInBounds_toArray, List.set_cons_zero, List.set_cons_succ]
        refine wpAnyH_take (i := 4) (oi := ⟨some 83, _, _, _, _, _⟩) (v := ?_) rfl (by kernel_rfl) (by kernel_rfl) (by kernel_rfl) (fun _ _ _ h => h) (Or.inl ⟨by rfl, ?_⟩) hHeld ?_
        rotate_left
        · intro w' hSw
          go_simp
          first | done | rfl
        try simp only [Act.put, List.setIfInBounds_toArray, List.set_cons_zero, List.set_cons_succ]
        refine wpAnyH_take (i := 5) (oi := ⟨some 84, _, _, _, _, _⟩) (v := ?_) rfl (by kernel_rfl) (by kernel_rfl) (by kernel_rfl) (fun _ _ _ h => h) (Or.inl ⟨by rfl, ?_⟩) hHeld ?_
        rotate_left
        · intro w' hSw
          have cv := (hSw.blk HBC.out (fun h => h)).cell 4 |>.trans HC4.out
          go_simp
          first | done | rfl
        try simp only [Act.put, List.setIfInBounds_toArray, List.set_cons_zero, List.set_cons_succ]
        refine wpAnyH_take (i := 6) (oi := ⟨some 85, _, _, _, _, _⟩) (v := ?_) rfl (by kernel_rfl) (by kernel_rfl) (by kernel_rfl) (fun _ _ _ h => h) (Or.inl ⟨by rfl, ?_⟩) hHeld ?_
        rotate_left
        · intro w' hSw
          go_simp
          first | done | rfl
        try simp only [Act.put, List.setIfInBounds_toArray, List.set_cons_zero, List.set_cons_succ]
        refine wpAnyH_take (i := 7) (oi := ⟨some 86, _, _, _, _, _⟩) (v := ?_) rfl (by kernel_rfl) (by kernel_rfl) (by kernel_rfl) (fun _ _ _ h => h) (Or.inl ⟨by rfl, ?_⟩) hHeld ?_
        rotate_left
        · intro w' hSw
          go_simp
          first | done | rfl
        try simp only [Act.put, List.setIfInBounds_toArray, List.set_cons_zero, List.set_cons_succ]
        refine wpAnyH_take (i := 8) (oi := ⟨some 87, _, _, _, _, _⟩) (v := ?_) rfl (by kernel_rfl) (by kernel_rfl) (by kernel_rfl) (fun _ _ _ h => h) (Or.inl ⟨by rfl, ?_⟩) hHeld ?_
        rotate_left
        · intro w' hSw
          go_simp
          first | done | rfl
        try simp only [Act.put, List.setIfInBounds_toArray, List.set_cons_zero, List.set_cons_succ]
        refine wpAnyH_take (i := 9) (oi := ⟨some 88, _, _, _, _, _⟩) (v := ?_) rfl (by kernel_rfl) (by kernel_rfl) (by kernel_rfl) (fun _ _ _ h => h) (Or.inl ⟨by rfl, ?_⟩) hHeld ?_
        rotate_left
        · intro w' hSw
          have cv := cell_keep hSw (HCB0.out.trans rfl)
          go_simp
          first | done | rfl
        try simp only [Act.put, List.setIfInBounds_toArray, List.set_cons_zero, List.set_cons_succ]
        refine wpAnyH_take (i := 10) (oi := ⟨some 89, _, _, _, _, _⟩) (v := ?_) rfl (by kernel_rfl) (by kernel_rfl) (by kernel_rfl) (fun _ _ _ h => h) (Or.inl ⟨by rfl, ?_⟩) hHeld ?_
        rotate_left
        · intro w' hSw
          go_simp
          first | done | rfl
        try simp only [Act.put, List.setIfInBounds_toArray, List.set_cons_zero, List.set_cons_succ]
        refine wpAnyH_take (i := 11) (oi := ⟨some 90, _, _, _, _, _⟩) (v := ?_) rfl (by kernel_rfl) (by kernel_rfl) (by kernel_rfl) (fun _ _ _ h => h) (Or.inl ⟨by rfl, ?_⟩) hHeld ?_
        rotate_left
        · intro w' hSw
          go_simp
          first | done | rfl
        try simp only [Act.put, List.setIfInBounds_toArray, List.set_cons_zero, List.set_cons_succ]
        refine wpAnyH_take (i := 12) (oi := ⟨some 91, _, _, _, _, _⟩) (v := ?_) rfl (by kernel_rfl) (by kernel_rfl) (by kernel_rfl) (fun _ _ _ h => h) (Or.inl ⟨by rfl, ?_⟩) hHeld ?_
        rotate_left
        · intro w' hSw
          go_simp
          first | done | rfl
        try simp only [Act.put, List.setIfInBounds_toArray, List.set_cons_zero, List.set_cons_succ]
        refine wpAnyH_done (by kernel_rfl) ?_ _

        have HDR := Lib.hid hHeld
        clear hHeld
        go_upto_region 25 with (go_at_call 31; refine (HOF.out _ HDR.out).mono ?_; rintro e w5 ⟨A5, c5, u5, v5, rfl, hp5, ho5, hb5, ha5, hk5⟩; have HP5 := Lib.hid hp5; have HO5 := Lib.hid ho5; have HB5 := Lib.hid hb5; have HA5 := Lib.hid ha5; have HK5 := Lib.hid hk5; clear hp5 ho5 hb5 ha5 hk5)
        have HNO1 : Hid (Calls Tryd.prog 30 #[.pointer (some ⟨p, 0, none⟩), .iface 45 (.slice A5 m c5), .int .i64 (dp + 1)] w5 fun e w' => e = .returned (.bool (decide (dp + 1 ≤ 512))) ∧ ∃ u' v', PileAt lo w' p u' v' (Q ++ [.all A5 c5 L]) ∧ Keeps (fun i => lo ≤ i) w w') := Lib.hid (by
          have hat : At (Bq lo p u5 v5) w5 (.all A5 c5 L) := by
            simp only [At]
            rw [HLL.out]
            exact ⟨by omega, HO5.out, HB5.out, HA5.out⟩
          have h := on_any lo w5 p u5 v5 Q HP5.out _ hat (by have h9 := hn; rw [HPQ.out] at h9; simp at h9; omega)
          have hd : ((VT.all A5 c5 L).deep : Int) = dp + 1 := by rw [deep_all, HDQ.out]; omega
          rw [hd, show vv (.all A5 c5 L) = .iface 45 (.slice A5 m c5) by simp only [vv]; rw [HLL.out]] at h
          refine h.mono fun e w' ⟨he, u', v', r1, r2⟩ => ⟨he, u', v', r1, ?_⟩
          refine (HK1.out.trans HK5.out (fun _ _ h => h)).trans r2 (fun i _ hi => ?_)
          rcases hi with e | e | e
          · rw [e]; exact HP5.out.hp
          · exact HP5.out.hu i e
          · exact HP5.out.hv i e)
        have HFIN : Hid (∀ w' u' v', PileAt lo w' p u' v' (Q ++ [.all A5 c5 L]) → Keeps (fun i => lo ≤ i) w w' → StepPost lo w p P ⟨7, no, at_, tx, (m : Int)⟩ (.returned (.int .i64 (if dp + 1 ≤ 512 then (0 : Int) else 3))) w') := Lib.hid fun w' u' v' hp' hk' => by
          have e1 : (P.map VT.erase).drop k = L.map VT.erase := by rw [HPQ.out, List.map_append, List.drop_left' (by rw [List.length_map, HQL.out])]
          have e2 : (P.map VT.erase).take k = Q.map VT.erase := by rw [HPQ.out, List.map_append, List.take_left' (by rw [List.length_map, HQL.out])]
          have e3 : (VT.all none 0 (L.map VT.erase)).deep ≤ 512 ↔ dp + 1 ≤ 512 := by
            have : (L.map VT.erase).map (fun x => x.deep) = L.map fun x => x.deep := by rw [List.map_map]; exact List.map_congr_left fun x _ => VT.deep_erase x
            rw [deep_all, this, HDQ.out]
            omega
          have hst : stepF (P.map VT.erase) ⟨7, no, at_, tx, (m : Int)⟩ = if dp + 1 ≤ 512 then (0, Q.map VT.erase ++ [.all none 0 (L.map VT.erase)]) else (3, P.map VT.erase) := by
            rw [HST.out, if_neg (by rw [← HNN.out]; omega), HKM.out, e1, e2]
            by_cases hd : dp + 1 ≤ 512
            · rw [if_pos (e3.2 hd), if_pos hd]
            · rw [if_neg (fun h => hd (e3.1 h)), if_neg hd]
          refine ⟨u', v', Q ++ [.all A5 c5 L], ?_, fun h0 => ?_, hk'⟩
          · rw [hst]; split <;> rfl
          · rw [hst] at h0 ⊢
            split at h0
            · rename_i hd
              rw [if_pos hd]
              refine ⟨hp', by simp [VT.erase], fun t ht => ?_, by rw [HPQ.out]; simp⟩
              rcases List.mem_append.1 ht with ht | ht
              · exact HDP.out t (by rw [HPQ.out]; simp [ht])
              · rw [List.mem_singleton.1 ht, deep_all]; have := HDQ.out; omega
            · cases h0
        by_cases hle : dp + 1 ≤ 512
        · have HNO := HNO1.out
          rw [decide_eq_true hle] at HNO
          have HNO := Lib.hid HNO
          have HLE := Lib.hid hle
          clear HNO1 hle
          go_wp2_with (go_at_call 30; refine HNO.out.mono ?_; rintro e w7 ⟨rfl, u7, v7, hp7, hk7⟩)
          go_ret
          have := HFIN.out _ u7 v7 hp7 hk7
          rw [if_pos HLE.out] at this
          exact this
        · have HNO := HNO1.out
          rw [decide_eq_false hle] at HNO
          have HNO := Lib.hid HNO
          have HLE := Lib.hid hle
          clear HNO1 hle
          go_wp2_with (go_at_call 30; refine HNO.out.mono ?_; rintro e w7 ⟨rfl, u7, v7, hp7, hk7⟩)
          go_ret
          have := HFIN.out _ u7 v7 hp7 hk7
          rw [if_neg (by have := HLE.out; omega)] at this
          exact this
  · go_wp2
    go_ret
    exact ⟨u, u, P, by simp [stepF, z1, z2, z3, z4, z5, z6, z7], fun h0 => by simp [stepF, z1, z2, z3, z4, z5, z6, z7] at h0, HK1.out⟩
end Go.Proofs.YtinonjfnhedlpaaDoor
