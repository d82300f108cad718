/-
  WALK: the reference's entryUp.
-/
import Derived.Test.YtknecjjdegngfaaDoorRowsK
import Derived.Test.YtknecjjdegngfaaDoorRSplitW
import Derived.Test.YtknecjjdegngfaaDoorBookQ
import Derived.Test.YtknecjjdegngfaaDoorFoldW
import Derived.Test.YtknecjjdegngfaaDoorBookNamesW
import Derived.Deep.DeepCutAuto
set_option linter.unusedSimpArgs false
namespace Go.Proofs.YtknecjjdegngfaaDoor
open Go Go.RowKit Go.Sha Go.Aff Go.Book
theorem climb1_dig (s : List Int) : ∀ (way : List Bool) (ps : List (List Int)), IsDig s → IsDigs ps → IsDig (climb1 s way ps) := by
  intro way
  induction way generalizing s with
  | nil => intro ps h _; cases ps <;> exact h
  | cons b way ih =>
    intro ps h hp
    cases ps with
    | nil => exact h
    | cons d ps => exact ih _ ps (by cases b <;> exact dig_pair _ _) (fun x hx => hp x (by simp [hx]))
theorem bytes_cons1 {l : List Int} (h : IsBytes l) : IsBytes (1 :: l) := fun x hx => by
  rcases List.mem_cons.1 hx with h1 | h1
  · rw [h1]; omega
  · exact h x h1
theorem bytes_app2 {a b : List Int} (ha : IsBytes a) (hb : IsBytes b) : IsBytes (a ++ b) := fun x hx => by
  rcases List.mem_append.1 hx with h | h
  · exact ha x h
  · exact hb x h
theorem MineP.nil' {w w' : World} (T : TypeId) (hk : Keeps (fun _ => False) w w') : MineP w w' T none 0 0 [] := (MineP.nil w T).keep hk
set_option maxRecDepth 100000 in
set_option maxHeartbeats 2000000 in
theorem eup_any : ∀ (n i : Nat) (w : World) (leaf : List Int) (A : Option Addr) (K c : Nat) (ps : List (List Int)), n ≤ 9007199254740992 → i < n → IsDig leaf → RdD w A K ps → K ≤ c → K = (wayF i n).length →
    Calls Tryd.prog 54 #[.int .i64 i, .int .i64 n, .agg (vb leaf).toArray, .slice A K c] w fun e w' => ∃ B c', e = .returned (.tuple #[.agg (vb (climb1 leaf (wayF i n) ps)).toArray, .slice B K c']) ∧ MineP w w' 22 B K c' (upRows leaf (wayF i n) ps) := by
  intro n
  induction n using Nat.strongRecOn with
  | _ n ih =>
  intro i w leaf A K c ps hn hi hleaf hr hc hK
  obtain ⟨W2, hW2⟩ : ∃ W2, W2 = (w.alloc (.cells (vb leaf).toArray 23)).alloc (.cells (List.replicate 32 (Value.int .u8 0)).toArray 23) := ⟨_, rfl⟩
  have hk2 : Keeps (fun _ => False) w W2 := by rw [hW2]; exact ((Keeps.refl _ w).alloc _).alloc _
  have hb1 : Blk W2 w.heap.size 23 (vb leaf) := by rw [hW2]; exact (Blk.new w _ _).alloc _
  have HZ : Hid (Blk W2 (w.heap.size + 1) 23 (List.replicate 32 (Value.int .u8 0))) := Lib.hid (by have := Blk.new (w.alloc (.cells (vb leaf).toArray 23)) 23 (List.replicate 32 (Value.int .u8 0)); rw [World.size_alloc] at this; rw [hW2]; exact this)
  have HK2 := Lib.hid hk2
  rcases Nat.lt_or_ge n 2 with hsm | hbig
  · obtain rfl : n = 1 := by omega
    have e0 : wayF i 1 = [] := by rw [wayF]; rfl
    rw [e0] at hK ⊢
    obtain rfl : K = 0 := hK
    obtain rfl : ps = [] := List.eq_nil_of_length_eq_zero hr.1
    obtain ⟨DV, hDV⟩ : ∃ DV, DV = vb leaf := ⟨_, rfl⟩
    have HD1 : Hid (∀ u ∈ DV, u.oneCell' = true) := Lib.hid (by rw [hDV]; exact vb_one _)
    have HDL : Hid (DV.length = 32) := Lib.hid (by rw [hDV, vb_length]; exact hleaf.1)
    have HIN : Hid ((Tryd.prog.info? 23).map (·.size) = some DV.length) := Lib.hid (by rw [HDL.out]; kernel_rfl)
    have hcl : vb (climb1 leaf [] []) = DV := hDV.symm
    rw [hcl]
    rw [← hDV] at hb1 hW2 ⊢
    have HB1 := Lib.hid hb1
    rw [hW2] at HB1 HZ HK2
    clear hcl hDV hW2 hk2 hb1 hr ih hleaf e0
    go_enter Tryd.func54, Tryd.ntmps54
    go_wp2_with (first
      | ((with_reducible show wpList _ _ _ (⟨_, Op.load 23 _, _, _, _, _⟩ :: _) _ _); refine wpList_load_whole rfl 23 _ rfl _ rfl HB1.out Tryd.underlying23 rfl HIN.out ?_)
      | ((with_reducible show wpList _ _ _ (⟨none, Op.store 23 _ _, _, _, _, _⟩ :: _) _ _); refine wpList_store_whole rfl 23 _ _ rfl DV rfl rfl HZ.out (by rw [HDL.out]; simp) HIN.out HD1.out ?_))
    refine bodyPost_ret (results_blk_tmp rfl _ _ rfl (HZ.out.setRow DV) Tryd.underlying23 rfl HIN.out) rfl ⟨none, 0, rfl, MineP.nil' _ (HK2.out.setRow (.inr (by omega)) _)⟩
  · have hs1 := spl_lt hbig
    have hs0 := spl_pos n
    have HS := Lib.hid fun W => rsplit_any n W hbig hn
    have e0 : wayF i n = if i < spl n then wayF i (spl n) ++ [true] else wayF (i - spl n) (n - spl n) ++ [false] := by rw [wayF, dif_pos hbig]
    obtain ⟨k, hk⟩ : ∃ k, k = spl n := ⟨_, rfl⟩
    rw [← hk] at HS hs1 hs0 e0
    have hn1 : ((n : Int) == 1) = false := by simp; omega
    by_cases hik : i < k
    · skip
      rw [if_pos hik] at e0
      obtain ⟨L, hL⟩ : ∃ L, (wayF i k).length = L := ⟨_, rfl⟩
      have hL53 : L ≤ 53 := by rw [← hL]; exact way_short i k 53 (by omega)
      have hps := hr.1
      have hKL : K = L + 1 := by rw [hK, e0, List.length_append, hL]; rfl
      subst hKL
      obtain ⟨ps', d, rfl, hps'⟩ := snoc_of ps L hr.1
      have hdp : IsDigs ps' := fun x hx => hr.2.1 x (by simp [hx])
      have hdd : IsDig d := hr.2.1 d (by simp)
      have hcl := climb1_dig leaf (wayF i k) ps' hleaf hdp
      have hlen2 : (wayF i k).length = ps'.length := by omega
      rw [e0, climb1_snoc _ _ _ _ _ hlen2, upRows_snoc _ _ _ _ _ hlen2]
      simp only [if_true, if_false, Bool.false_eq_true]
      have hI : ∀ W, Keeps (fun _ => False) W2 W → Calls Tryd.prog 54 #[.int .i64 i, .int .i64 k, .agg (vb leaf).toArray, .slice (cutD A c 0) L c] W fun e w' => ∃ B c', e = .returned (.tuple #[.agg (vb (climb1 leaf (wayF i k) ps')).toArray, .slice B L c']) ∧ MineP W w' 22 B L c' (upRows leaf (wayF i k) ps') := fun W hW => by
        have hrd : RdD W (cutD A c 0) L ps' := by
          have := ((hr.keep (hk2.trans hW (fun _ _ h => h)) (no_out _ _)).take (k := L) (by omega)).cut (k := 0) (c := c) (by omega) (by omega)
          rw [List.drop_zero, List.take_left' hps'] at this
          exact this
        exact ih k hs1 i W leaf (cutD A c 0) L c ps' (by omega) (by omega) hleaf hrd (by omega) hL.symm
      have hlp : ∃ g o, A = some ⟨g, o, none⟩ ∧ ∀ W, Keeps (fun _ => False) W2 W → W.rangeAt g (o + L * 32) (vb d) := by
        obtain ⟨g, o, d', hA, hd', _⟩ := hr.lies (k := L) (by omega)
        refine ⟨g, o, hA, fun W hW => ?_⟩
        obtain ⟨g1, o1, d1, hA1, hd1, hl1⟩ := (hr.keep (hk2.trans hW (fun _ _ h => h)) (no_out _ _)).lies (k := L) (by omega)
        rw [hA] at hA1
        injection hA1 with hA1
        injection hA1 with e1 e2
        subst e1 e2
        have : d1 = d := by rw [List.getElem?_append_right (by omega), hps'] at hd1; simpa using hd1.symm
        subst this
        exact lies_range hl1
      obtain ⟨g, o, rfl, hlp⟩ := hlp
      have HRL : Hid (∀ W, Keeps (fun _ => False) W2 W → W.rangeAt w.heap.size 0 (vb leaf)) := Lib.hid fun W hW j v hv => by rw [Nat.zero_add, (hW.blk hb1 (fun h => h)).cell]; exact hv
      have HC : Hid (∀ W, (Instr.sliceAt 42 (.slice (some ⟨g, o, none⟩) (L + 1) c) none (some (.int .i64 L)) none).run Tryd.prog W = .ok (.slice (cutD (some ⟨g, o, none⟩) c 0) L c) W) := Lib.hid (cutD_h Tryd.underlying42 (by kernel_rfl) (some ⟨g, o, none⟩) (L + 1) c L L rfl (by omega))
      obtain ⟨D, hD⟩ : ∃ D, D = climb1 leaf (wayF i k) ps' := ⟨_, rfl⟩
      obtain ⟨RS, hRS⟩ : ∃ RS, RS = upRows leaf (wayF i k) ps' := ⟨_, rfl⟩
      obtain ⟨ROW, hROW⟩ : ∃ ROW, ROW = (1 : Int) :: (D ++ d) := ⟨_, rfl⟩
      rw [← hD] at hI hcl ⊢
      rw [← hRS] at hI ⊢
      obtain ⟨DV, hDV⟩ : ∃ DV, DV = vb D := ⟨_, rfl⟩
      obtain ⟨EV, hEV⟩ : ∃ EV, EV = vb d := ⟨_, rfl⟩
      obtain ⟨LV, hLV⟩ : ∃ LV, LV = vb leaf := ⟨_, rfl⟩
      obtain ⟨FV, hFV⟩ : ∃ FV, FV = vb (pairF D d) := ⟨_, rfl⟩
      have HDL : Hid (DV.length = 32) := Lib.hid (by rw [hDV, vb_length]; exact hcl.1)
      have HD1 : Hid (∀ u ∈ DV, u.oneCell' = true) := Lib.hid (by rw [hDV]; exact vb_one _)
      have HIN : Hid ((Tryd.prog.info? 23).map (·.size) = some DV.length) := Lib.hid (by rw [HDL.out]; kernel_rfl)
      have HIE : Hid ((Tryd.prog.info? 23).map (·.size) = some EV.length) := Lib.hid (by rw [hEV, vb_length, hdd.1]; kernel_rfl)
      have HIL : Hid ((Tryd.prog.info? 23).map (·.size) = some LV.length) := Lib.hid (by rw [hLV, vb_length, hleaf.1]; kernel_rfl)
      have HFL : Hid (FV.length = 32) := Lib.hid (by rw [hFV, vb_length]; exact (dig_pair _ _).1)
      have HF1 : Hid (∀ u ∈ FV, u.oneCell' = true) := Lib.hid (by rw [hFV]; exact vb_one _)
      have HIF : Hid ((Tryd.prog.info? 23).map (·.size) = some FV.length) := Lib.hid (by rw [HFL.out]; kernel_rfl)
      have HPA : Hid (∀ (W0 W : World), Keeps (fun _ => False) W0 W → Calls Tryd.prog 14 #[.agg DV.toArray, .agg EV.toArray] W fun e w' => e = .returned (.agg FV.toArray) ∧ Keeps (fun _ => False) W w') := Lib.hid fun W0 W _ => by
        rw [hFV, hDV, hEV]
        exact rpair_any W _ _ hcl.1 hdd.1 hcl.2 hdd.2
      have HPR : Hid (∀ (W0 W : World), Keeps (fun _ => False) W0 W → Calls Tryd.prog 45 #[.agg DV.toArray, .agg EV.toArray] W fun e w' => ∃ A' c', e = .returned (.slice A' 65 c') ∧ Mine W w' 5 A' 65 c' (vb ROW)) := Lib.hid fun W0 W _ => by
        rw [hDV, hEV, hROW]
        exact pairRow_any W _ _ hcl.1 hdd.1
      have HEL : Hid (∀ (W0 W v7 : World) (A7 : Option Addr) (c7 : Nat), Keeps (fun _ => False) W0 W → Mine W v7 5 A7 65 c7 (vb ROW) → ElemsR W0 v7 (fun _ => False) [ROW] [.slice A7 65 c7]) := Lib.hid fun W0 W v7 A7 c7 hk hM => ElemsR.mine hM hk.size (by rw [hROW]; simp [hcl.1, hdd.1]) (by
        rw [hROW]
        exact bytes_cons1 (bytes_app2 hcl.2 hdd.2)) (by omega)
      rw [← hEV] at hlp
      rw [← hLV] at hI HRL hb1 hW2 ⊢
      rw [← hDV] at hI
      rw [← hFV, ← hROW]
      have HLP := Lib.hid hlp
      have HI := Lib.hid hI
      have hlt : (i : Int) < (k : Int) := by omega
      clear hI hlp hcl hdp hdd hD hRS hROW hDV hEV hLV hFV hr hps hps' hlen2 hL hK ih e0 hleaf hk
      simp only [List.replicate] at hW2
      go_enter Tryd.func54, Tryd.ntmps54
      go_upto_region 6 with (go_at_call 55; refine (HS.out _).mono ?_; rintro e w9 ⟨rfl, hw9⟩; subst hw9)
      rw [← hW2]
      clear hW2
      go_cut [12, 13] (fun dp rows wx => ∃ (gd : Nat) (B6 : Option Addr) (c6 : Nat), dp = .pointer (some ⟨gd, 0, none⟩) ∧ rows = .slice B6 L c6 ∧ Hid (Blk wx gd 23 DV ∧ MineP W2 wx 22 B6 L c6 RS ∧ W2.heap.size ≤ gd))
      case first =>
        refine wp_region_held_drew (S := Keeps (fun _ => False) W2) (by kernel_rfl) (Keeps.refl _ _).drew (fun hHeld => ?_)
        refine wpAnyH_take (i := 0) (oi := ⟨some 28, _, _, _, _, _⟩) (v := ?_) rfl (by kernel_rfl) (by kernel_rfl) (by kernel_rfl) (fun _ _ _ h => h) (Or.inl ⟨by rfl, ?_⟩) hHeld ?_
        rotate_left
        · intro w' hSw
          go_simp
          first | done | rfl
        try simp only [Act.put, List.setIfInBounds_toArray, List.set_cons_zero, List.set_cons_succ]
        refine wpAnyH_take (i := 1) (oi := ⟨some 29, _, _, _, _, _⟩) (v := ?_) rfl (by kernel_rfl) (by kernel_rfl) (by kernel_rfl) (fun _ _ _ h => h) (Or.inl ⟨by rfl, ?_⟩) hHeld ?_
        rotate_left
        · intro w' hSw
          go_simp
          first | done | rfl
        try simp only [Act.put, List.setIfInBounds_toArray, List.set_cons_zero, List.set_cons_succ]
        refine wpAnyH_take (i := 2) (oi := ⟨some 30, _, _, _, _, _⟩) (v := _) rfl (by kernel_rfl) (by kernel_rfl) (by kernel_rfl) (fun _ _ _ h => h) (yieldsIf_load_mid (by rfl) _ _ rfl _ _ rfl LV _ (fun w' h => HRL.out _ h) Tryd.underlying23 rfl HIL.out) hHeld ?_
        try simp only [Act.put, List.setIfInBounds_toArray, List.set_cons_zero, List.set_cons_succ]
        refine wpAnyH_take (i := 3) (oi := ⟨some 31, _, _, _, _, _⟩) (v := ?_) rfl (by kernel_rfl) (by kernel_rfl) (by kernel_rfl) (fun _ _ _ h => h) (Or.inl ⟨by rfl, ?_⟩) hHeld ?_
        rotate_left
        · intro w' hSw
          go_simp
          first | done | rfl
        try simp only [Act.put, List.setIfInBounds_toArray, List.set_cons_zero, List.set_cons_succ]
        refine wpAnyH_take (i := 4) (oi := ⟨some 32, _, _, _, _, _⟩) (v := ?_) rfl (by kernel_rfl) (by kernel_rfl) (by kernel_rfl) (fun _ _ _ h => h) (Or.inl ⟨by rfl, ?_⟩) hHeld ?_
        rotate_left
        · intro w' hSw
          go_simp
          first | done | rfl
        try simp only [Act.put, List.setIfInBounds_toArray, List.set_cons_zero, List.set_cons_succ]
        refine wpAnyH_take (i := 5) (oi := ⟨some 33, _, _, _, _, _⟩) (v := ?_) rfl (by kernel_rfl) (by kernel_rfl) (by kernel_rfl) (fun _ _ _ h => h) (Or.inl ⟨by rfl, ?_⟩) hHeld ?_
        rotate_left
        · intro w' hSw
          have cv := HC.out w'
          go_simp
          first | done | rfl
        try simp only [Act.put, List.setIfInBounds_toArray, List.set_cons_zero, List.set_cons_succ]
        refine wpAnyH_ready (rs := [6, 10]) (by kernel_rfl) (by simp) ?_
        refine (AllReadyH.cons (o := ⟨some 34, _, _, _, _, _⟩) rfl (fun K hK => ?_) (AllReadyH.cons (o := ⟨some 12, _, _, _, _, _⟩) rfl (fun K hK => ?_) AllReadyH.nil))
        · go_simp
          refine (HI.out _ hHeld).mono ?_
          rintro e v6 ⟨B6, c6, rfl, hP6⟩
          have hq6 := hHeld.trans hP6.keeps (fun _ _ h => h)
          refine hK.out _ _ hq6 (fun hHeld => ?_)
          clear hK K
          try simp only [Act.put, List.setIfInBounds_toArray, List.set_cons_zero, List.set_cons_succ]
          refine wpAnyH_take (i := 7) (oi := ⟨some 27, _, _, _, _, _⟩) (v := ?_) rfl (by kernel_rfl) (by kernel_rfl) (by kernel_rfl) (fun _ _ _ h => h) (Or.inl ⟨by rfl, ?_⟩) hHeld ?_
          rotate_left
          · intro w' hSw
            go_simp
            first | done | rfl
          try simp only [Act.put, List.setIfInBounds_toArray, List.set_cons_zero, List.set_cons_succ]
          refine wpAnyH_take (i := 8) (oi := ⟨some 35, _, _, _, _, _⟩) (v := ?_) rfl (by kernel_rfl) (by kernel_rfl) (by kernel_rfl) (fun _ _ _ h => h) (Or.inl ⟨by rfl, ?_⟩) hHeld ?_
          rotate_left
          · intro w' hSw
            go_simp
            first | done | rfl
          try simp only [Act.put, List.setIfInBounds_toArray, List.set_cons_zero, List.set_cons_succ]
          refine wpAnyH_take (i := 9) (oi := ⟨some 36, _, _, _, _, _⟩) (v := ?_) rfl (by kernel_rfl) (by kernel_rfl) (by kernel_rfl) (fun _ _ _ h => h) (Or.inl ⟨by rfl, ?_⟩) hHeld ?_
          rotate_left
          · intro w' hSw
            go_simp
            first | done | rfl
          try simp only [Act.put, List.setIfInBounds_toArray, List.set_cons_zero, List.set_cons_succ]
          refine wpAnyH_ready (rs := [10]) (by kernel_rfl) (by simp) ?_
          refine (AllReadyH.cons (o := ⟨some 12, _, _, _, _, _⟩) rfl (fun K hK => ?_) AllReadyH.nil)
          go_simp
          have hz := Blk.new (v6) 23 (List.replicate 32 (Value.int .u8 0))
          have hzg : W2.heap.size ≤ (v6).heap.size := hHeld.size
          refine hK.out _ _ (hHeld.alloc _) (fun hHeld => ?_)
          clear hK K
          try simp only [Act.put, List.setIfInBounds_toArray, List.set_cons_zero, List.set_cons_succ]
          refine wpAnyH_ready (rs := [11]) (by kernel_rfl) (by simp) ?_
          refine (AllReadyH.cons (o := ⟨none, _, _, _, _, _⟩) rfl (fun K hK => ?_) AllReadyH.nil)
          
          refine stepH_store rfl 23 _ _ rfl DV rfl rfl hz (by rw [HDL.out]; simp) HIN.out HD1.out ?_
          have hPz : MineP W2 _ 22 B6 L c6 RS := (hP6.base ((Keeps.refl (fun _ => False) W2).drew)).keep (((Keeps.refl (fun _ => False) v6).alloc (.cells (List.replicate 32 (Value.int .u8 0)).toArray 23)).setRow (.inr (Nat.le_refl _)) DV.toArray)
          have hzz := hz.setRow DV
          refine hK.out _ _ (hHeld.setRow (.inr hzg) _) (fun hHeld => ?_)
          clear hK K
          try simp only [Act.put, List.setIfInBounds_toArray, List.set_cons_zero, List.set_cons_succ]
          refine wpAnyH_take (i := 12) (oi := ⟨some 13, _, _, _, _, _⟩) (v := ?_) rfl (by kernel_rfl) (by kernel_rfl) (by kernel_rfl) (fun _ _ _ h => h) (Or.inl ⟨by rfl, ?_⟩) hHeld ?_
          rotate_left
          · intro w' hSw
            go_simp
            first | done | rfl
          try simp only [Act.put, List.setIfInBounds_toArray, List.set_cons_zero, List.set_cons_succ]
          refine wpAnyH_done (by kernel_rfl) ?_ _
          go_wp2_with fail
          go_meet
          exact ⟨_, B6, c6, rfl, rfl, Lib.hid ⟨hzz, hPz, hzg⟩⟩
        · go_simp
          have hz := Blk.new (W2.drew) 23 (List.replicate 32 (Value.int .u8 0))
          have hzg : W2.heap.size ≤ (W2.drew).heap.size := hHeld.size
          refine hK.out _ _ (hHeld.alloc _) (fun hHeld => ?_)
          clear hK K
          try simp only [Act.put, List.setIfInBounds_toArray, List.set_cons_zero, List.set_cons_succ]
          refine wpAnyH_ready (rs := [6]) (by kernel_rfl) (by simp) ?_
          refine (AllReadyH.cons (o := ⟨some 34, _, _, _, _, _⟩) rfl (fun K hK => ?_) AllReadyH.nil)
          go_simp
          refine (HI.out _ hHeld).mono ?_
          rintro e v6 ⟨B6, c6, rfl, hP6⟩
          have hq6 := hHeld.trans hP6.keeps (fun _ _ h => h)
          have hz6 := hP6.keeps.blk hz (fun h => h)
          refine hK.out _ _ hq6 (fun hHeld => ?_)
          clear hK K
          try simp only [Act.put, List.setIfInBounds_toArray, List.set_cons_zero, List.set_cons_succ]
          refine wpAnyH_take (i := 7) (oi := ⟨some 27, _, _, _, _, _⟩) (v := ?_) rfl (by kernel_rfl) (by kernel_rfl) (by kernel_rfl) (fun _ _ _ h => h) (Or.inl ⟨by rfl, ?_⟩) hHeld ?_
          rotate_left
          · intro w' hSw
            go_simp
            first | done | rfl
          try simp only [Act.put, List.setIfInBounds_toArray, List.set_cons_zero, List.set_cons_succ]
          refine wpAnyH_take (i := 8) (oi := ⟨some 35, _, _, _, _, _⟩) (v := ?_) rfl (by kernel_rfl) (by kernel_rfl) (by kernel_rfl) (fun _ _ _ h => h) (Or.inl ⟨by rfl, ?_⟩) hHeld ?_
          rotate_left
          · intro w' hSw
            go_simp
            first | done | rfl
          try simp only [Act.put, List.setIfInBounds_toArray, List.set_cons_zero, List.set_cons_succ]
          refine wpAnyH_take (i := 9) (oi := ⟨some 36, _, _, _, _, _⟩) (v := ?_) rfl (by kernel_rfl) (by kernel_rfl) (by kernel_rfl) (fun _ _ _ h => h) (Or.inl ⟨by rfl, ?_⟩) hHeld ?_
          rotate_left
          · intro w' hSw
            go_simp
            first | done | rfl
          try simp only [Act.put, List.setIfInBounds_toArray, List.set_cons_zero, List.set_cons_succ]
          refine wpAnyH_ready (rs := [11]) (by kernel_rfl) (by simp) ?_
          refine (AllReadyH.cons (o := ⟨none, _, _, _, _, _⟩) rfl (fun K hK => ?_) AllReadyH.nil)
          
          refine stepH_store rfl 23 _ _ rfl DV rfl rfl hz6 (by rw [HDL.out]; simp) HIN.out HD1.out ?_
          have hPz : MineP W2 _ 22 B6 L c6 RS := hP6.out ((Keeps.refl (fun _ => False) _).drew.alloc _) ((Keeps.refl (fun i => i = W2.drew.heap.size) v6).setRow (.inl rfl) DV.toArray) (fun g e => by subst e; exact hzg) (fun g e => by subst e; simp)
          have hzz := hz6.setRow DV
          refine hK.out _ _ (hHeld.setRow (.inr hzg) _) (fun hHeld => ?_)
          clear hK K
          try simp only [Act.put, List.setIfInBounds_toArray, List.set_cons_zero, List.set_cons_succ]
          refine wpAnyH_take (i := 12) (oi := ⟨some 13, _, _, _, _, _⟩) (v := ?_) rfl (by kernel_rfl) (by kernel_rfl) (by kernel_rfl) (fun _ _ _ h => h) (Or.inl ⟨by rfl, ?_⟩) hHeld ?_
          rotate_left
          · intro w' hSw
            go_simp
            first | done | rfl
          try simp only [Act.put, List.setIfInBounds_toArray, List.set_cons_zero, List.set_cons_succ]
          refine wpAnyH_done (by kernel_rfl) ?_ _
          go_wp2_with fail
          go_meet
          exact ⟨_, B6, c6, rfl, rfl, Lib.hid ⟨hzz, hPz, hzg⟩⟩
      case rest =>
        obtain ⟨gd, B6, c6, rfl, rfl, HX⟩ := hcut
        have HRD : Hid (∀ W, Keeps (fun _ => False) wc W → W.rangeAt gd 0 DV) := Lib.hid fun W hW j v hv => by rw [Nat.zero_add, (hW.blk HX.out.1 (fun h => h)).cell]; exact hv
        have HRP : Hid (∀ W, Keeps (fun _ => False) wc W → W.rangeAt g (o + L * 32) EV) := Lib.hid fun W hW => HLP.out W (HX.out.2.1.keeps.trans hW (fun _ _ h => h))
        replace HPA := Lib.hid (HPA.out wc)
        replace HPR := Lib.hid (HPR.out wc)
        replace HEL := Lib.hid (HEL.out wc)
        go_upto_region 7 with fail
        have hL1 : (L : Int) < (L : Int) + 1 := by omega
        refine wp_region_tail (S := Keeps (fun _ => False) wc) 14 (by kernel_rfl) (Keeps.refl _ _).drew (fun hHeld => ?_)
        refine wpAnyT_take [0, 5, 12] (i := 0) (oi := ⟨some 37, _, _, _, _, _⟩) (v := _) rfl (by kernel_rfl) (by kernel_rfl) (by kernel_rfl) (by kernel_rfl) (by kernel_rfl) (fun _ _ _ h => h) (yieldsIf_load_mid (by rfl) _ _ rfl _ _ rfl DV _ (fun w' h => HRD.out _ h) Tryd.underlying23 rfl HIN.out) hHeld ?_
        try simp only [Act.put, List.setIfInBounds_toArray, List.set_cons_zero, List.set_cons_succ]
        refine wpAnyT_pure (i := 1) (oi := ⟨some 38, _, _, _, _, _⟩) (v := ?_) rfl (by kernel_rfl) (by kernel_rfl) (by kernel_rfl) (fun _ _ _ h => h) (Or.inl ⟨by rfl, ?_⟩) ?_
        rotate_left
        · intro w' hSw
          go_simp
          first | done | rfl
        try simp only [Act.put, List.setIfInBounds_toArray, List.set_cons_zero, List.set_cons_succ]
        refine wpAnyT_pure (i := 2) (oi := ⟨some 39, _, _, _, _, _⟩) (v := ?_) rfl (by kernel_rfl) (by kernel_rfl) (by kernel_rfl) (fun _ _ _ h => h) (Or.inl ⟨by rfl, ?_⟩) ?_
        rotate_left
        · intro w' hSw
          go_simp
          first | done | rfl
        try simp only [Act.put, List.setIfInBounds_toArray, List.set_cons_zero, List.set_cons_succ]
        refine wpAnyT_pure (i := 3) (oi := ⟨some 40, _, _, _, _, _⟩) (v := ?_) rfl (by kernel_rfl) (by kernel_rfl) (by kernel_rfl) (fun _ _ _ h => h) (Or.inl ⟨by rfl, ?_⟩) ?_
        rotate_left
        · intro w' hSw
          go_simp
          first | done | rfl
        try simp only [Act.put, List.setIfInBounds_toArray, List.set_cons_zero, List.set_cons_succ]
        refine wpAnyT_take [4, 5, 12] (i := 4) (oi := ⟨some 41, _, _, _, _, _⟩) (v := _) rfl (by kernel_rfl) (by kernel_rfl) (by kernel_rfl) (by kernel_rfl) (by kernel_rfl) (fun _ _ _ h => h) (yieldsIf_load_mid (by rfl) _ _ rfl _ _ rfl EV _ (fun w' h => HRP.out _ h) Tryd.underlying23 rfl HIE.out) hHeld ?_
        try simp only [Act.put, List.setIfInBounds_toArray, List.set_cons_zero, List.set_cons_succ]
        refine wpAnyT_pure (i := 6) (oi := ⟨some 43, _, _, _, _, _⟩) (v := ?_) rfl (by kernel_rfl) (by kernel_rfl) (by kernel_rfl) (fun _ _ _ h => h) (Or.inl ⟨by rfl, ?_⟩) ?_
        rotate_left
        · intro w' hSw
          go_simp
          first | done | rfl
        try simp only [Act.put, List.setIfInBounds_toArray, List.set_cons_zero, List.set_cons_succ]
        refine wpAnyT_take [7, 12, 14] (i := 7) (oi := ⟨some 44, _, _, _, _, _⟩) (v := _) rfl (by kernel_rfl) (by kernel_rfl) (by kernel_rfl) (by kernel_rfl) (by kernel_rfl) (fun _ _ _ h => h) (yieldsIf_load_mid (by rfl) _ _ rfl _ _ rfl DV _ (fun w' h => HRD.out _ h) Tryd.underlying23 rfl HIN.out) hHeld ?_
        try simp only [Act.put, List.setIfInBounds_toArray, List.set_cons_zero, List.set_cons_succ]
        refine wpAnyT_pure (i := 8) (oi := ⟨some 45, _, _, _, _, _⟩) (v := ?_) rfl (by kernel_rfl) (by kernel_rfl) (by kernel_rfl) (fun _ _ _ h => h) (Or.inl ⟨by rfl, ?_⟩) ?_
        rotate_left
        · intro w' hSw
          go_simp
          first | done | rfl
        try simp only [Act.put, List.setIfInBounds_toArray, List.set_cons_zero, List.set_cons_succ]
        refine wpAnyT_pure (i := 9) (oi := ⟨some 46, _, _, _, _, _⟩) (v := ?_) rfl (by kernel_rfl) (by kernel_rfl) (by kernel_rfl) (fun _ _ _ h => h) (Or.inl ⟨by rfl, ?_⟩) ?_
        rotate_left
        · intro w' hSw
          go_simp
          first | done | rfl
        try simp only [Act.put, List.setIfInBounds_toArray, List.set_cons_zero, List.set_cons_succ]
        refine wpAnyT_pure (i := 10) (oi := ⟨some 47, _, _, _, _, _⟩) (v := ?_) rfl (by kernel_rfl) (by kernel_rfl) (by kernel_rfl) (fun _ _ _ h => h) (Or.inl ⟨by rfl, ?_⟩) ?_
        rotate_left
        · intro w' hSw
          go_simp
          first | done | rfl
        try simp only [Act.put, List.setIfInBounds_toArray, List.set_cons_zero, List.set_cons_succ]
        refine wpAnyT_take [11, 12, 14] (i := 11) (oi := ⟨some 48, _, _, _, _, _⟩) (v := _) rfl (by kernel_rfl) (by kernel_rfl) (by kernel_rfl) (by kernel_rfl) (by kernel_rfl) (fun _ _ _ h => h) (yieldsIf_load_mid (by rfl) _ _ rfl _ _ rfl EV _ (fun w' h => HRP.out _ h) Tryd.underlying23 rfl HIE.out) hHeld ?_
        try simp only [Act.put, List.setIfInBounds_toArray, List.set_cons_zero, List.set_cons_succ]
        refine wpAnyT_step (i := 5) (o := ⟨some 42, _, _, _, _, _⟩) (by kernel_rfl) rfl (fun K hK => ?_)
        go_simp
        refine (HPA.out _ hHeld).mono ?_
        rintro e v5 ⟨rfl, hk5⟩
        have hq5 := hHeld.trans hk5 (fun _ _ h => h)
        refine hK.out _ _ hq5 (fun hHeld => ?_)
        clear hK K
        try simp only [Act.put, List.setIfInBounds_toArray, List.set_cons_zero, List.set_cons_succ]
        refine wpAnyT_step (i := 12) (o := ⟨some 49, _, _, _, _, _⟩) (by kernel_rfl) rfl (fun K hK => ?_)
        go_simp
        refine (HPR.out _ hHeld).mono ?_
        rintro e v7 ⟨A7, c7, rfl, hM7⟩
        have hq7 := hHeld.trans hM7.2.1 (fun _ _ h => h)
        have HE7 := HEL.out v5 v7 A7 c7 hHeld hM7
        refine hK.out _ _ hq7 (fun hHeld => ?_)
        clear hK K
        try simp only [Act.put, List.setIfInBounds_toArray, List.set_cons_zero, List.set_cons_succ]
        refine wpAnyT_step (i := 13) (o := ⟨some 50, _, _, _, _, _⟩) (by kernel_rfl) rfl (fun K hK => ?_)
        go_simp
        refine hK.out _ _ (hHeld.alloc _) (fun hHeld => ?_)
        clear hK K
        try simp only [Act.put, List.setIfInBounds_toArray, List.set_cons_zero, List.set_cons_succ]
        refine wpAnyT_tail (i := 14) (o := ⟨some 51, _, _, _, _, _⟩) (by kernel_rfl) (by kernel_rfl) rfl (fun K hK => ?_)
        refine step_append_rows W2 wc rfl (.tmp 43) (.tmp 50) 26 rfl 22 (.slice none 0 0) Tryd.underlying26 infoRows rfl B6 L c6 RS rfl HX.out.2.1 (hq7.alloc (.cells #[Value.slice A7 65 c7] 22)) ⟨v7.heap.size, 0, none⟩ 1 1 [ROW] [Value.slice A7 65 c7] rfl rfl (cell_one_new v7 _ _) (HE7.keep ((Keeps.refl (fun _ => False) v7).alloc _) (fun _ _ h => h)) (by intro x hx; rw [List.mem_singleton.1 hx]; rfl) (by omega) ?_
        intro B9 c9 v9 hP9 _
        refine hK.out _ _ ?_
        clear hK K
        try simp only [Act.put, List.setIfInBounds_toArray, List.set_cons_zero, List.set_cons_succ]
        refine wpAnyT_tail (i := 15) (o := ⟨none, _, _, _, _, _⟩) (by kernel_rfl) (by kernel_rfl) rfl (fun K hK => ?_)
        
        refine stepH_store rfl 23 _ _ rfl FV rfl rfl (hP9.keeps.blk HZ.out (fun h => h)) (by rw [HFL.out]; simp) HIF.out HF1.out ?_
        refine hK.out _ _ ?_
        clear hK K
        try simp only [Act.put, List.setIfInBounds_toArray, List.set_cons_zero, List.set_cons_succ]
        refine wpAnyT_tail (i := 16) (o := ⟨some 9, _, _, _, _, _⟩) (by kernel_rfl) (by kernel_rfl) rfl (fun K hK => ?_)
        go_simp
        refine hK.out _ _ ?_
        clear hK K
        try simp only [Act.put, List.setIfInBounds_toArray, List.set_cons_zero, List.set_cons_succ]
        refine wpAnyT_done (by kernel_rfl) ?_
        go_wp2
        refine bodyPost_ret (results_blk_tmp rfl _ _ rfl ((hP9.keeps.blk HZ.out (fun h => h)).setRow FV) Tryd.underlying23 rfl HIF.out) rfl ⟨B9, c9, rfl, ?_⟩
        exact hP9.out HK2.out ((Keeps.refl (fun i => i = w.heap.size + 1) v9).setRow (.inl rfl) _) (fun g e => by omega) (fun g e => by have := HZ.out.lt; omega)
    · skip
      rw [if_neg hik] at e0
      obtain ⟨L, hL⟩ : ∃ L, (wayF (i - k) (n - k)).length = L := ⟨_, rfl⟩
      have hL53 : L ≤ 53 := by rw [← hL]; exact way_short (i - k) (n - k) 53 (by omega)
      have hps := hr.1
      have hKL : K = L + 1 := by rw [hK, e0, List.length_append, hL]; rfl
      subst hKL
      obtain ⟨ps', d, rfl, hps'⟩ := snoc_of ps L hr.1
      have hdp : IsDigs ps' := fun x hx => hr.2.1 x (by simp [hx])
      have hdd : IsDig d := hr.2.1 d (by simp)
      have hcl := climb1_dig leaf (wayF (i - k) (n - k)) ps' hleaf hdp
      have hlen2 : (wayF (i - k) (n - k)).length = ps'.length := by omega
      rw [e0, climb1_snoc _ _ _ _ _ hlen2, upRows_snoc _ _ _ _ _ hlen2]
      simp only [if_true, if_false, Bool.false_eq_true]
      have hI : ∀ W, Keeps (fun _ => False) W2 W → Calls Tryd.prog 54 #[.int .i64 (i - k : Nat), .int .i64 (n - k : Nat), .agg (vb leaf).toArray, .slice (cutD A c 0) L c] W fun e w' => ∃ B c', e = .returned (.tuple #[.agg (vb (climb1 leaf (wayF (i - k) (n - k)) ps')).toArray, .slice B L c']) ∧ MineP W w' 22 B L c' (upRows leaf (wayF (i - k) (n - k)) ps') := fun W hW => by
        have hrd : RdD W (cutD A c 0) L ps' := by
          have := ((hr.keep (hk2.trans hW (fun _ _ h => h)) (no_out _ _)).take (k := L) (by omega)).cut (k := 0) (c := c) (by omega) (by omega)
          rw [List.drop_zero, List.take_left' hps'] at this
          exact this
        exact ih (n - k) (by omega) (i - k) W leaf (cutD A c 0) L c ps' (by omega) (by omega) hleaf hrd (by omega) hL.symm
      have hlp : ∃ g o, A = some ⟨g, o, none⟩ ∧ ∀ W, Keeps (fun _ => False) W2 W → W.rangeAt g (o + L * 32) (vb d) := by
        obtain ⟨g, o, d', hA, hd', _⟩ := hr.lies (k := L) (by omega)
        refine ⟨g, o, hA, fun W hW => ?_⟩
        obtain ⟨g1, o1, d1, hA1, hd1, hl1⟩ := (hr.keep (hk2.trans hW (fun _ _ h => h)) (no_out _ _)).lies (k := L) (by omega)
        rw [hA] at hA1
        injection hA1 with hA1
        injection hA1 with e1 e2
        subst e1 e2
        have : d1 = d := by rw [List.getElem?_append_right (by omega), hps'] at hd1; simpa using hd1.symm
        subst this
        exact lies_range hl1
      obtain ⟨g, o, rfl, hlp⟩ := hlp
      have HRL : Hid (∀ W, Keeps (fun _ => False) W2 W → W.rangeAt w.heap.size 0 (vb leaf)) := Lib.hid fun W hW j v hv => by rw [Nat.zero_add, (hW.blk hb1 (fun h => h)).cell]; exact hv
      have HC : Hid (∀ W, (Instr.sliceAt 42 (.slice (some ⟨g, o, none⟩) (L + 1) c) none (some (.int .i64 L)) none).run Tryd.prog W = .ok (.slice (cutD (some ⟨g, o, none⟩) c 0) L c) W) := Lib.hid (cutD_h Tryd.underlying42 (by kernel_rfl) (some ⟨g, o, none⟩) (L + 1) c L L rfl (by omega))
      obtain ⟨D, hD⟩ : ∃ D, D = climb1 leaf (wayF (i - k) (n - k)) ps' := ⟨_, rfl⟩
      obtain ⟨RS, hRS⟩ : ∃ RS, RS = upRows leaf (wayF (i - k) (n - k)) ps' := ⟨_, rfl⟩
      obtain ⟨ROW, hROW⟩ : ∃ ROW, ROW = (1 : Int) :: (d ++ D) := ⟨_, rfl⟩
      rw [← hD] at hI hcl ⊢
      rw [← hRS] at hI ⊢
      obtain ⟨DV, hDV⟩ : ∃ DV, DV = vb D := ⟨_, rfl⟩
      obtain ⟨EV, hEV⟩ : ∃ EV, EV = vb d := ⟨_, rfl⟩
      obtain ⟨LV, hLV⟩ : ∃ LV, LV = vb leaf := ⟨_, rfl⟩
      obtain ⟨FV, hFV⟩ : ∃ FV, FV = vb (pairF d D) := ⟨_, rfl⟩
      have HDL : Hid (DV.length = 32) := Lib.hid (by rw [hDV, vb_length]; exact hcl.1)
      have HD1 : Hid (∀ u ∈ DV, u.oneCell' = true) := Lib.hid (by rw [hDV]; exact vb_one _)
      have HIN : Hid ((Tryd.prog.info? 23).map (·.size) = some DV.length) := Lib.hid (by rw [HDL.out]; kernel_rfl)
      have HIE : Hid ((Tryd.prog.info? 23).map (·.size) = some EV.length) := Lib.hid (by rw [hEV, vb_length, hdd.1]; kernel_rfl)
      have HIL : Hid ((Tryd.prog.info? 23).map (·.size) = some LV.length) := Lib.hid (by rw [hLV, vb_length, hleaf.1]; kernel_rfl)
      have HFL : Hid (FV.length = 32) := Lib.hid (by rw [hFV, vb_length]; exact (dig_pair _ _).1)
      have HF1 : Hid (∀ u ∈ FV, u.oneCell' = true) := Lib.hid (by rw [hFV]; exact vb_one _)
      have HIF : Hid ((Tryd.prog.info? 23).map (·.size) = some FV.length) := Lib.hid (by rw [HFL.out]; kernel_rfl)
      have HPA : Hid (∀ (W0 W : World), Keeps (fun _ => False) W0 W → Calls Tryd.prog 14 #[.agg EV.toArray, .agg DV.toArray] W fun e w' => e = .returned (.agg FV.toArray) ∧ Keeps (fun _ => False) W w') := Lib.hid fun W0 W _ => by
        rw [hFV, hDV, hEV]
        exact rpair_any W _ _ hdd.1 hcl.1 hdd.2 hcl.2
      have HPR : Hid (∀ (W0 W : World), Keeps (fun _ => False) W0 W → Calls Tryd.prog 45 #[.agg EV.toArray, .agg DV.toArray] W fun e w' => ∃ A' c', e = .returned (.slice A' 65 c') ∧ Mine W w' 5 A' 65 c' (vb ROW)) := Lib.hid fun W0 W _ => by
        rw [hDV, hEV, hROW]
        exact pairRow_any W _ _ hdd.1 hcl.1
      have HEL : Hid (∀ (W0 W v7 : World) (A7 : Option Addr) (c7 : Nat), Keeps (fun _ => False) W0 W → Mine W v7 5 A7 65 c7 (vb ROW) → ElemsR W0 v7 (fun _ => False) [ROW] [.slice A7 65 c7]) := Lib.hid fun W0 W v7 A7 c7 hk hM => ElemsR.mine hM hk.size (by rw [hROW]; simp [hdd.1, hcl.1]) (by
        rw [hROW]
        exact bytes_cons1 (bytes_app2 hdd.2 hcl.2)) (by omega)
      rw [← hEV] at hlp
      rw [← hLV] at hI HRL hb1 hW2 ⊢
      rw [← hDV] at hI
      rw [← hFV, ← hROW]
      have HLP := Lib.hid hlp
      have HI := Lib.hid hI
      have hlt : ¬ (i : Int) < (k : Int) := by omega
      have hsub : IntKind.i64.wrap ((i - k : Nat) : Int) = ((i - k : Nat) : Int) := IntWalk.i64_in _ (by omega)
      have hsub2 : IntKind.i64.wrap ((n - k : Nat) : Int) = ((n - k : Nat) : Int) := IntWalk.i64_in _ (by omega)
      have d1 : ((i : Int) - (k : Int)) = ((i - k : Nat) : Int) := by omega
      have d2 : ((n : Int) - (k : Int)) = ((n - k : Nat) : Int) := by omega
      clear hI hlp hcl hdp hdd hD hRS hROW hDV hEV hLV hFV hr hps hps' hlen2 hL hK ih e0 hleaf hk
      simp only [List.replicate] at hW2
      go_enter Tryd.func54, Tryd.ntmps54
      go_upto_region 8 with (go_at_call 55; refine (HS.out _).mono ?_; rintro e w9 ⟨rfl, hw9⟩; subst hw9)
      rw [← hW2]
      clear hW2
      go_cut [14, 15] (fun dp rows wx => ∃ (gd : Nat) (B6 : Option Addr) (c6 : Nat), dp = .pointer (some ⟨gd, 0, none⟩) ∧ rows = .slice B6 L c6 ∧ Hid (Blk wx gd 23 DV ∧ MineP W2 wx 22 B6 L c6 RS ∧ W2.heap.size ≤ gd))
      case first =>
        refine wp_region_held_drew (S := Keeps (fun _ => False) W2) (by kernel_rfl) (Keeps.refl _ _).drew (fun hHeld => ?_)
        refine wpAnyH_take (i := 0) (oi := ⟨some 53, _, _, _, _, _⟩) (v := ?_) rfl (by kernel_rfl) (by kernel_rfl) (by kernel_rfl) (fun _ _ _ h => h) (Or.inl ⟨by rfl, ?_⟩) hHeld ?_
        rotate_left
        · intro w' hSw
          go_simp
          first | done | rfl
        try simp only [Act.put, List.setIfInBounds_toArray, List.set_cons_zero, List.set_cons_succ]
        refine wpAnyH_take (i := 1) (oi := ⟨some 54, _, _, _, _, _⟩) (v := ?_) rfl (by kernel_rfl) (by kernel_rfl) (by kernel_rfl) (fun _ _ _ h => h) (Or.inl ⟨by rfl, ?_⟩) hHeld ?_
        rotate_left
        · intro w' hSw
          go_simp
          first | done | rfl
        try simp only [Act.put, List.setIfInBounds_toArray, List.set_cons_zero, List.set_cons_succ]
        refine wpAnyH_take (i := 2) (oi := ⟨some 55, _, _, _, _, _⟩) (v := ?_) rfl (by kernel_rfl) (by kernel_rfl) (by kernel_rfl) (fun _ _ _ h => h) (Or.inl ⟨by rfl, ?_⟩) hHeld ?_
        rotate_left
        · intro w' hSw
          go_simp
          first | done | rfl
        try simp only [Act.put, List.setIfInBounds_toArray, List.set_cons_zero, List.set_cons_succ]
        refine wpAnyH_take (i := 3) (oi := ⟨some 56, _, _, _, _, _⟩) (v := ?_) rfl (by kernel_rfl) (by kernel_rfl) (by kernel_rfl) (fun _ _ _ h => h) (Or.inl ⟨by rfl, ?_⟩) hHeld ?_
        rotate_left
        · intro w' hSw
          go_simp
          first | done | rfl
        try simp only [Act.put, List.setIfInBounds_toArray, List.set_cons_zero, List.set_cons_succ]
        refine wpAnyH_take (i := 4) (oi := ⟨some 57, _, _, _, _, _⟩) (v := ?_) rfl (by kernel_rfl) (by kernel_rfl) (by kernel_rfl) (fun _ _ _ h => h) (Or.inl ⟨by rfl, ?_⟩) hHeld ?_
        rotate_left
        · intro w' hSw
          go_simp
          first | done | rfl
        try simp only [Act.put, List.setIfInBounds_toArray, List.set_cons_zero, List.set_cons_succ]
        refine wpAnyH_take (i := 5) (oi := ⟨some 58, _, _, _, _, _⟩) (v := ?_) rfl (by kernel_rfl) (by kernel_rfl) (by kernel_rfl) (fun _ _ _ h => h) (Or.inl ⟨by rfl, ?_⟩) hHeld ?_
        rotate_left
        · intro w' hSw
          go_simp
          first | done | rfl
        try simp only [Act.put, List.setIfInBounds_toArray, List.set_cons_zero, List.set_cons_succ]
        refine wpAnyH_take (i := 6) (oi := ⟨some 59, _, _, _, _, _⟩) (v := _) rfl (by kernel_rfl) (by kernel_rfl) (by kernel_rfl) (fun _ _ _ h => h) (yieldsIf_load_mid (by rfl) _ _ rfl _ _ rfl LV _ (fun w' h => HRL.out _ h) Tryd.underlying23 rfl HIL.out) hHeld ?_
        try simp only [Act.put, List.setIfInBounds_toArray, List.set_cons_zero, List.set_cons_succ]
        refine wpAnyH_take (i := 7) (oi := ⟨some 60, _, _, _, _, _⟩) (v := ?_) rfl (by kernel_rfl) (by kernel_rfl) (by kernel_rfl) (fun _ _ _ h => h) (Or.inl ⟨by rfl, ?_⟩) hHeld ?_
        rotate_left
        · intro w' hSw
          go_simp
          first | done | rfl
        try simp only [Act.put, List.setIfInBounds_toArray, List.set_cons_zero, List.set_cons_succ]
        refine wpAnyH_take (i := 8) (oi := ⟨some 61, _, _, _, _, _⟩) (v := ?_) rfl (by kernel_rfl) (by kernel_rfl) (by kernel_rfl) (fun _ _ _ h => h) (Or.inl ⟨by rfl, ?_⟩) hHeld ?_
        rotate_left
        · intro w' hSw
          go_simp
          first | done | rfl
        try simp only [Act.put, List.setIfInBounds_toArray, List.set_cons_zero, List.set_cons_succ]
        refine wpAnyH_take (i := 9) (oi := ⟨some 62, _, _, _, _, _⟩) (v := ?_) rfl (by kernel_rfl) (by kernel_rfl) (by kernel_rfl) (fun _ _ _ h => h) (Or.inl ⟨by rfl, ?_⟩) hHeld ?_
        rotate_left
        · intro w' hSw
          have cv := HC.out w'
          go_simp
          first | done | rfl
        try simp only [Act.put, List.setIfInBounds_toArray, List.set_cons_zero, List.set_cons_succ]
        refine wpAnyH_ready (rs := [10, 14]) (by kernel_rfl) (by simp) ?_
        refine (AllReadyH.cons (o := ⟨some 63, _, _, _, _, _⟩) rfl (fun K hK => ?_) (AllReadyH.cons (o := ⟨some 14, _, _, _, _, _⟩) rfl (fun K hK => ?_) AllReadyH.nil))
        · go_simp
          refine (HI.out _ hHeld).mono ?_
          rintro e v6 ⟨B6, c6, rfl, hP6⟩
          have hq6 := hHeld.trans hP6.keeps (fun _ _ h => h)
          refine hK.out _ _ hq6 (fun hHeld => ?_)
          clear hK K
          try simp only [Act.put, List.setIfInBounds_toArray, List.set_cons_zero, List.set_cons_succ]
          refine wpAnyH_take (i := 11) (oi := ⟨some 52, _, _, _, _, _⟩) (v := ?_) rfl (by kernel_rfl) (by kernel_rfl) (by kernel_rfl) (fun _ _ _ h => h) (Or.inl ⟨by rfl, ?_⟩) hHeld ?_
          rotate_left
          · intro w' hSw
            go_simp
            first | done | rfl
          try simp only [Act.put, List.setIfInBounds_toArray, List.set_cons_zero, List.set_cons_succ]
          refine wpAnyH_take (i := 12) (oi := ⟨some 64, _, _, _, _, _⟩) (v := ?_) rfl (by kernel_rfl) (by kernel_rfl) (by kernel_rfl) (fun _ _ _ h => h) (Or.inl ⟨by rfl, ?_⟩) hHeld ?_
          rotate_left
          · intro w' hSw
            go_simp
            first | done | rfl
          try simp only [Act.put, List.setIfInBounds_toArray, List.set_cons_zero, List.set_cons_succ]
          refine wpAnyH_take (i := 13) (oi := ⟨some 65, _, _, _, _, _⟩) (v := ?_) rfl (by kernel_rfl) (by kernel_rfl) (by kernel_rfl) (fun _ _ _ h => h) (Or.inl ⟨by rfl, ?_⟩) hHeld ?_
          rotate_left
          · intro w' hSw
            go_simp
            first | done | rfl
          try simp only [Act.put, List.setIfInBounds_toArray, List.set_cons_zero, List.set_cons_succ]
          refine wpAnyH_ready (rs := [14]) (by kernel_rfl) (by simp) ?_
          refine (AllReadyH.cons (o := ⟨some 14, _, _, _, _, _⟩) rfl (fun K hK => ?_) AllReadyH.nil)
          go_simp
          have hz := Blk.new (v6) 23 (List.replicate 32 (Value.int .u8 0))
          have hzg : W2.heap.size ≤ (v6).heap.size := hHeld.size
          refine hK.out _ _ (hHeld.alloc _) (fun hHeld => ?_)
          clear hK K
          try simp only [Act.put, List.setIfInBounds_toArray, List.set_cons_zero, List.set_cons_succ]
          refine wpAnyH_ready (rs := [15]) (by kernel_rfl) (by simp) ?_
          refine (AllReadyH.cons (o := ⟨none, _, _, _, _, _⟩) rfl (fun K hK => ?_) AllReadyH.nil)
          
          refine stepH_store rfl 23 _ _ rfl DV rfl rfl hz (by rw [HDL.out]; simp) HIN.out HD1.out ?_
          have hPz : MineP W2 _ 22 B6 L c6 RS := (hP6.base ((Keeps.refl (fun _ => False) W2).drew)).keep (((Keeps.refl (fun _ => False) v6).alloc (.cells (List.replicate 32 (Value.int .u8 0)).toArray 23)).setRow (.inr (Nat.le_refl _)) DV.toArray)
          have hzz := hz.setRow DV
          refine hK.out _ _ (hHeld.setRow (.inr hzg) _) (fun hHeld => ?_)
          clear hK K
          try simp only [Act.put, List.setIfInBounds_toArray, List.set_cons_zero, List.set_cons_succ]
          refine wpAnyH_take (i := 16) (oi := ⟨some 15, _, _, _, _, _⟩) (v := ?_) rfl (by kernel_rfl) (by kernel_rfl) (by kernel_rfl) (fun _ _ _ h => h) (Or.inl ⟨by rfl, ?_⟩) hHeld ?_
          rotate_left
          · intro w' hSw
            go_simp
            first | done | rfl
          try simp only [Act.put, List.setIfInBounds_toArray, List.set_cons_zero, List.set_cons_succ]
          refine wpAnyH_done (by kernel_rfl) ?_ _
          go_wp2_with fail
          go_meet
          exact ⟨_, B6, c6, rfl, rfl, Lib.hid ⟨hzz, hPz, hzg⟩⟩
        · go_simp
          have hz := Blk.new (W2.drew) 23 (List.replicate 32 (Value.int .u8 0))
          have hzg : W2.heap.size ≤ (W2.drew).heap.size := hHeld.size
          refine hK.out _ _ (hHeld.alloc _) (fun hHeld => ?_)
          clear hK K
          try simp only [Act.put, List.setIfInBounds_toArray, List.set_cons_zero, List.set_cons_succ]
          refine wpAnyH_ready (rs := [10]) (by kernel_rfl) (by simp) ?_
          refine (AllReadyH.cons (o := ⟨some 63, _, _, _, _, _⟩) rfl (fun K hK => ?_) AllReadyH.nil)
          go_simp
          refine (HI.out _ hHeld).mono ?_
          rintro e v6 ⟨B6, c6, rfl, hP6⟩
          have hq6 := hHeld.trans hP6.keeps (fun _ _ h => h)
          have hz6 := hP6.keeps.blk hz (fun h => h)
          refine hK.out _ _ hq6 (fun hHeld => ?_)
          clear hK K
          try simp only [Act.put, List.setIfInBounds_toArray, List.set_cons_zero, List.set_cons_succ]
          refine wpAnyH_take (i := 11) (oi := ⟨some 52, _, _, _, _, _⟩) (v := ?_) rfl (by kernel_rfl) (by kernel_rfl) (by kernel_rfl) (fun _ _ _ h => h) (Or.inl ⟨by rfl, ?_⟩) hHeld ?_
          rotate_left
          · intro w' hSw
            go_simp
            first | done | rfl
          try simp only [Act.put, List.setIfInBounds_toArray, List.set_cons_zero, List.set_cons_succ]
          refine wpAnyH_take (i := 12) (oi := ⟨some 64, _, _, _, _, _⟩) (v := ?_) rfl (by kernel_rfl) (by kernel_rfl) (by kernel_rfl) (fun _ _ _ h => h) (Or.inl ⟨by rfl, ?_⟩) hHeld ?_
          rotate_left
          · intro w' hSw
            go_simp
            first | done | rfl
          try simp only [Act.put, List.setIfInBounds_toArray, List.set_cons_zero, List.set_cons_succ]
          refine wpAnyH_take (i := 13) (oi := ⟨some 65, _, _, _, _, _⟩) (v := ?_) rfl (by kernel_rfl) (by kernel_rfl) (by kernel_rfl) (fun _ _ _ h => h) (Or.inl ⟨by rfl, ?_⟩) hHeld ?_
          rotate_left
          · intro w' hSw
            go_simp
            first | done | rfl
          try simp only [Act.put, List.setIfInBounds_toArray, List.set_cons_zero, List.set_cons_succ]
          refine wpAnyH_ready (rs := [15]) (by kernel_rfl) (by simp) ?_
          refine (AllReadyH.cons (o := ⟨none, _, _, _, _, _⟩) rfl (fun K hK => ?_) AllReadyH.nil)
          
          refine stepH_store rfl 23 _ _ rfl DV rfl rfl hz6 (by rw [HDL.out]; simp) HIN.out HD1.out ?_
          have hPz : MineP W2 _ 22 B6 L c6 RS := hP6.out ((Keeps.refl (fun _ => False) _).drew.alloc _) ((Keeps.refl (fun i => i = W2.drew.heap.size) v6).setRow (.inl rfl) DV.toArray) (fun g e => by subst e; exact hzg) (fun g e => by subst e; simp)
          have hzz := hz6.setRow DV
          refine hK.out _ _ (hHeld.setRow (.inr hzg) _) (fun hHeld => ?_)
          clear hK K
          try simp only [Act.put, List.setIfInBounds_toArray, List.set_cons_zero, List.set_cons_succ]
          refine wpAnyH_take (i := 16) (oi := ⟨some 15, _, _, _, _, _⟩) (v := ?_) rfl (by kernel_rfl) (by kernel_rfl) (by kernel_rfl) (fun _ _ _ h => h) (Or.inl ⟨by rfl, ?_⟩) hHeld ?_
          rotate_left
          · intro w' hSw
            go_simp
            first | done | rfl
          try simp only [Act.put, List.setIfInBounds_toArray, List.set_cons_zero, List.set_cons_succ]
          refine wpAnyH_done (by kernel_rfl) ?_ _
          go_wp2_with fail
          go_meet
          exact ⟨_, B6, c6, rfl, rfl, Lib.hid ⟨hzz, hPz, hzg⟩⟩
      case rest =>
        obtain ⟨gd, B6, c6, rfl, rfl, HX⟩ := hcut
        have HRD : Hid (∀ W, Keeps (fun _ => False) wc W → W.rangeAt gd 0 DV) := Lib.hid fun W hW j v hv => by rw [Nat.zero_add, (hW.blk HX.out.1 (fun h => h)).cell]; exact hv
        have HRP : Hid (∀ W, Keeps (fun _ => False) wc W → W.rangeAt g (o + L * 32) EV) := Lib.hid fun W hW => HLP.out W (HX.out.2.1.keeps.trans hW (fun _ _ h => h))
        replace HPA := Lib.hid (HPA.out wc)
        replace HPR := Lib.hid (HPR.out wc)
        replace HEL := Lib.hid (HEL.out wc)
        go_upto_region 9 with fail
        have hL1 : (L : Int) < (L : Int) + 1 := by omega
        refine wp_region_tail (S := Keeps (fun _ => False) wc) 14 (by kernel_rfl) (Keeps.refl _ _).drew (fun hHeld => ?_)
        refine wpAnyT_pure (i := 0) (oi := ⟨some 66, _, _, _, _, _⟩) (v := ?_) rfl (by kernel_rfl) (by kernel_rfl) (by kernel_rfl) (fun _ _ _ h => h) (Or.inl ⟨by rfl, ?_⟩) ?_
        rotate_left
        · intro w' hSw
          go_simp
          first | done | rfl
        try simp only [Act.put, List.setIfInBounds_toArray, List.set_cons_zero, List.set_cons_succ]
        refine wpAnyT_pure (i := 1) (oi := ⟨some 67, _, _, _, _, _⟩) (v := ?_) rfl (by kernel_rfl) (by kernel_rfl) (by kernel_rfl) (fun _ _ _ h => h) (Or.inl ⟨by rfl, ?_⟩) ?_
        rotate_left
        · intro w' hSw
          go_simp
          first | done | rfl
        try simp only [Act.put, List.setIfInBounds_toArray, List.set_cons_zero, List.set_cons_succ]
        refine wpAnyT_pure (i := 2) (oi := ⟨some 68, _, _, _, _, _⟩) (v := ?_) rfl (by kernel_rfl) (by kernel_rfl) (by kernel_rfl) (fun _ _ _ h => h) (Or.inl ⟨by rfl, ?_⟩) ?_
        rotate_left
        · intro w' hSw
          go_simp
          first | done | rfl
        try simp only [Act.put, List.setIfInBounds_toArray, List.set_cons_zero, List.set_cons_succ]
        refine wpAnyT_take [3, 5, 12] (i := 3) (oi := ⟨some 69, _, _, _, _, _⟩) (v := _) rfl (by kernel_rfl) (by kernel_rfl) (by kernel_rfl) (by kernel_rfl) (by kernel_rfl) (fun _ _ _ h => h) (yieldsIf_load_mid (by rfl) _ _ rfl _ _ rfl EV _ (fun w' h => HRP.out _ h) Tryd.underlying23 rfl HIE.out) hHeld ?_
        try simp only [Act.put, List.setIfInBounds_toArray, List.set_cons_zero, List.set_cons_succ]
        refine wpAnyT_take [4, 5, 12] (i := 4) (oi := ⟨some 70, _, _, _, _, _⟩) (v := _) rfl (by kernel_rfl) (by kernel_rfl) (by kernel_rfl) (by kernel_rfl) (by kernel_rfl) (fun _ _ _ h => h) (yieldsIf_load_mid (by rfl) _ _ rfl _ _ rfl DV _ (fun w' h => HRD.out _ h) Tryd.underlying23 rfl HIN.out) hHeld ?_
        try simp only [Act.put, List.setIfInBounds_toArray, List.set_cons_zero, List.set_cons_succ]
        refine wpAnyT_pure (i := 6) (oi := ⟨some 72, _, _, _, _, _⟩) (v := ?_) rfl (by kernel_rfl) (by kernel_rfl) (by kernel_rfl) (fun _ _ _ h => h) (Or.inl ⟨by rfl, ?_⟩) ?_
        rotate_left
        · intro w' hSw
          go_simp
          first | done | rfl
        try simp only [Act.put, List.setIfInBounds_toArray, List.set_cons_zero, List.set_cons_succ]
        refine wpAnyT_pure (i := 7) (oi := ⟨some 73, _, _, _, _, _⟩) (v := ?_) rfl (by kernel_rfl) (by kernel_rfl) (by kernel_rfl) (fun _ _ _ h => h) (Or.inl ⟨by rfl, ?_⟩) ?_
        rotate_left
        · intro w' hSw
          go_simp
          first | done | rfl
        try simp only [Act.put, List.setIfInBounds_toArray, List.set_cons_zero, List.set_cons_succ]
        refine wpAnyT_pure (i := 8) (oi := ⟨some 74, _, _, _, _, _⟩) (v := ?_) rfl (by kernel_rfl) (by kernel_rfl) (by kernel_rfl) (fun _ _ _ h => h) (Or.inl ⟨by rfl, ?_⟩) ?_
        rotate_left
        · intro w' hSw
          go_simp
          first | done | rfl
        try simp only [Act.put, List.setIfInBounds_toArray, List.set_cons_zero, List.set_cons_succ]
        refine wpAnyT_pure (i := 9) (oi := ⟨some 75, _, _, _, _, _⟩) (v := ?_) rfl (by kernel_rfl) (by kernel_rfl) (by kernel_rfl) (fun _ _ _ h => h) (Or.inl ⟨by rfl, ?_⟩) ?_
        rotate_left
        · intro w' hSw
          go_simp
          first | done | rfl
        try simp only [Act.put, List.setIfInBounds_toArray, List.set_cons_zero, List.set_cons_succ]
        refine wpAnyT_take [10, 12, 14] (i := 10) (oi := ⟨some 76, _, _, _, _, _⟩) (v := _) rfl (by kernel_rfl) (by kernel_rfl) (by kernel_rfl) (by kernel_rfl) (by kernel_rfl) (fun _ _ _ h => h) (yieldsIf_load_mid (by rfl) _ _ rfl _ _ rfl EV _ (fun w' h => HRP.out _ h) Tryd.underlying23 rfl HIE.out) hHeld ?_
        try simp only [Act.put, List.setIfInBounds_toArray, List.set_cons_zero, List.set_cons_succ]
        refine wpAnyT_take [11, 12, 14] (i := 11) (oi := ⟨some 77, _, _, _, _, _⟩) (v := _) rfl (by kernel_rfl) (by kernel_rfl) (by kernel_rfl) (by kernel_rfl) (by kernel_rfl) (fun _ _ _ h => h) (yieldsIf_load_mid (by rfl) _ _ rfl _ _ rfl DV _ (fun w' h => HRD.out _ h) Tryd.underlying23 rfl HIN.out) hHeld ?_
        try simp only [Act.put, List.setIfInBounds_toArray, List.set_cons_zero, List.set_cons_succ]
        refine wpAnyT_step (i := 5) (o := ⟨some 71, _, _, _, _, _⟩) (by kernel_rfl) rfl (fun K hK => ?_)
        go_simp
        refine (HPA.out _ hHeld).mono ?_
        rintro e v5 ⟨rfl, hk5⟩
        have hq5 := hHeld.trans hk5 (fun _ _ h => h)
        refine hK.out _ _ hq5 (fun hHeld => ?_)
        clear hK K
        try simp only [Act.put, List.setIfInBounds_toArray, List.set_cons_zero, List.set_cons_succ]
        refine wpAnyT_step (i := 12) (o := ⟨some 78, _, _, _, _, _⟩) (by kernel_rfl) rfl (fun K hK => ?_)
        go_simp
        refine (HPR.out _ hHeld).mono ?_
        rintro e v7 ⟨A7, c7, rfl, hM7⟩
        have hq7 := hHeld.trans hM7.2.1 (fun _ _ h => h)
        have HE7 := HEL.out v5 v7 A7 c7 hHeld hM7
        refine hK.out _ _ hq7 (fun hHeld => ?_)
        clear hK K
        try simp only [Act.put, List.setIfInBounds_toArray, List.set_cons_zero, List.set_cons_succ]
        refine wpAnyT_step (i := 13) (o := ⟨some 79, _, _, _, _, _⟩) (by kernel_rfl) rfl (fun K hK => ?_)
        go_simp
        refine hK.out _ _ (hHeld.alloc _) (fun hHeld => ?_)
        clear hK K
        try simp only [Act.put, List.setIfInBounds_toArray, List.set_cons_zero, List.set_cons_succ]
        refine wpAnyT_tail (i := 14) (o := ⟨some 80, _, _, _, _, _⟩) (by kernel_rfl) (by kernel_rfl) rfl (fun K hK => ?_)
        refine step_append_rows W2 wc rfl (.tmp 72) (.tmp 79) 26 rfl 22 (.slice none 0 0) Tryd.underlying26 infoRows rfl B6 L c6 RS rfl HX.out.2.1 (hq7.alloc (.cells #[Value.slice A7 65 c7] 22)) ⟨v7.heap.size, 0, none⟩ 1 1 [ROW] [Value.slice A7 65 c7] rfl rfl (cell_one_new v7 _ _) (HE7.keep ((Keeps.refl (fun _ => False) v7).alloc _) (fun _ _ h => h)) (by intro x hx; rw [List.mem_singleton.1 hx]; rfl) (by omega) ?_
        intro B9 c9 v9 hP9 _
        refine hK.out _ _ ?_
        clear hK K
        try simp only [Act.put, List.setIfInBounds_toArray, List.set_cons_zero, List.set_cons_succ]
        refine wpAnyT_tail (i := 15) (o := ⟨none, _, _, _, _, _⟩) (by kernel_rfl) (by kernel_rfl) rfl (fun K hK => ?_)
        
        refine stepH_store rfl 23 _ _ rfl FV rfl rfl (hP9.keeps.blk HZ.out (fun h => h)) (by rw [HFL.out]; simp) HIF.out HF1.out ?_
        refine hK.out _ _ ?_
        clear hK K
        try simp only [Act.put, List.setIfInBounds_toArray, List.set_cons_zero, List.set_cons_succ]
        refine wpAnyT_tail (i := 16) (o := ⟨some 9, _, _, _, _, _⟩) (by kernel_rfl) (by kernel_rfl) rfl (fun K hK => ?_)
        go_simp
        refine hK.out _ _ ?_
        clear hK K
        try simp only [Act.put, List.setIfInBounds_toArray, List.set_cons_zero, List.set_cons_succ]
        refine wpAnyT_done (by kernel_rfl) ?_
        go_wp2
        refine bodyPost_ret (results_blk_tmp rfl _ _ rfl ((hP9.keeps.blk HZ.out (fun h => h)).setRow FV) Tryd.underlying23 rfl HIF.out) rfl ⟨B9, c9, rfl, ?_⟩
        exact hP9.out HK2.out ((Keeps.refl (fun i => i = w.heap.size + 1) v9).setRow (.inl rfl) _) (fun g e => by omega) (fun g e => by have := HZ.out.lt; omega)
end Go.Proofs.YtknecjjdegngfaaDoor
