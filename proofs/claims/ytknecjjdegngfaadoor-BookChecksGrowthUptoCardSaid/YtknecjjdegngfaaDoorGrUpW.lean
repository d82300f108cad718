/-
  WALK: the reference's growthUp.
-/
import Derived.Test.YtknecjjdegngfaaDoorUpW
set_option linter.unusedSimpArgs false
namespace Go.Proofs.YtknecjjdegngfaaDoor
open Go Go.RowKit Go.Sha Go.Aff Go.Book
theorem results_blk2_tmp {P : Program} {w : World} {g g' : Nat} {t t' : TypeId} {cs cs' : List Value} {fn : Func} {p p' u : Tmp} {ty : TypeId} (h : fn.results = #[.cell p ty, .cell p' ty, .tmp u]) (tmps : Array Value) (d : TypeDesc)
    (hp : tmps.getD p undef = .pointer (some ⟨g, 0, none⟩)) (hp' : tmps.getD p' undef = .pointer (some ⟨g', 0, none⟩)) (hg : Blk w g t cs) (hg' : Blk w g' t' cs')
    (hu : P.underlying ty = some d) (hd : (match d with | .struct _ | .array _ _ => true | _ => false) = true) (hi : (P.info? ty).map (·.size) = some cs.length) (hi' : (P.info? ty).map (·.size) = some cs'.length) :
    (results fn tmps).run P w = .ok (.tuple #[.agg cs.toArray, .agg cs'.toArray, tmps.getD u undef]) w := by
  have e1 := run_loadVar_row w g t ty cs.toArray (0, 0) d hg hu hd (by simpa using hi)
  have e2 := run_loadVar_row w g' t' ty cs'.toArray (0, 0) d hg' hu hd (by simpa using hi')
  have e0 : (results fn tmps).run P w = ((asAddr (tmps.getD p undef)).run P w).andThen fun a w₁ => ((loadVar ty a).run P w₁).andThen fun v w₂ => ((asAddr (tmps.getD p' undef)).run P w₂).andThen fun a' w₃ => ((loadVar ty a').run P w₃).andThen fun v' w₄ => .ok (.tuple #[v, v', tmps.getD u undef]) w₄ := by
    simp only [results, h]
    simp [Sem.run_bind, Result.andThen]
  rw [e0, hp, hp']
  simp only [asAddr, Sem.run_pure, Result.andThen, e1, e2]
theorem climb2_dig (s : List Int × List Int) : ∀ (way : List Bool) (ps : List (List Int)), IsDig s.1 → IsDig s.2 → IsDigs ps → IsDig (climb2 s way ps).1 ∧ IsDig (climb2 s way ps).2 := by
  intro way
  induction way generalizing s with
  | nil => intro ps h h' _; cases ps <;> exact ⟨h, h'⟩
  | cons b way ih =>
    intro ps h h' hp
    cases ps with
    | nil => exact ⟨h, h'⟩
    | cons d ps =>
      refine ih _ ps ?_ ?_ (fun x hx => hp x (by simp [hx]))
      · cases b
        · exact dig_pair _ _
        · exact h
      · cases b <;> exact dig_pair _ _
theorem gupRows_len : ∀ (way : List Bool) (ps : List (List Int)) (s : List Int × List Int), (gupRows s way ps).length ≤ 2 * way.length
  | [], _, s => by simp [gupRows]
  | _ :: _, [], s => by simp [gupRows]
  | b :: way, d :: ps, s => by
    have h := gupRows_len way ps (if b then (s.1, pairF s.2 d) else (pairF d s.1, pairF d s.2))
    simp only [gupRows, List.length_append, List.length_cons]
    cases b <;> simp_all <;> omega
theorem own_between {w wr : World} {T : TypeId} {B : Option Addr} {m c : Nat} {rs : List (List Int)} (h : MineP w wr T B m c rs) (g : Nat) (e : (Value.slice B m c).ownBlock = some g) : w.heap.size ≤ g ∧ g < wr.heap.size := by
  obtain ⟨_, vals, m1, _⟩ := h
  exact ⟨m1.2.2 g e, own_lt m1.1 e⟩
theorem drew_size (w : World) : w.drew.heap.size = w.heap.size := rfl
theorem cell_two_new (w : World) (u v : Value) (T : TypeId) : ∀ j x, [u, v][j]? = some x → (w.alloc (.cells #[u, v] T)).cell? ((⟨w.heap.size, 0, none⟩ : Addr).add j) = some x := by
  intro j x hx
  rw [add_at, Nat.zero_add]
  exact ((Blk.new w T [u, v]).cell j).trans hx
set_option maxRecDepth 100000 in
set_option maxHeartbeats 4000000 in
theorem gup_any : ∀ (n m : Nat) (b : Bool) (w : World) (old s : List Int) (A : Option Addr) (K c : Nat) (pre ps : List (List Int)), n ≤ 9007199254740992 → 0 < m → m ≤ n → IsDig old → IsDig s →
    ((gwayF m n b).2 = true ∧ pre = [] ∧ s = old ∨ (gwayF m n b).2 = false ∧ pre = [s]) → RdD w A K (pre ++ ps) → K ≤ c → ps.length = (gwayF m n b).1.length →
    Calls Tryd.prog 62 #[.int .i64 m, .int .i64 n, .bool b, .agg (vb old).toArray, .slice A K c] w fun e w' => ∃ B c', e = .returned (.tuple #[.agg (vb (climb2 (s, s) (gwayF m n b).1 ps).1).toArray, .agg (vb (climb2 (s, s) (gwayF m n b).1 ps).2).toArray, .slice B (gupRows (s, s) (gwayF m n b).1 ps).length c']) ∧ MineP w w' 22 B (gupRows (s, s) (gwayF m n b).1 ps).length c' (gupRows (s, s) (gwayF m n b).1 ps) := by
  intro n
  induction n using Nat.strongRecOn with
  | _ n ih =>
  intro m b w old s A K c pre ps hn hm0 hmn hold hs hpre hr hc hps
  obtain ⟨W1, hW1⟩ : ∃ W1, W1 = ((w.alloc (.cells (vb old).toArray 23)).alloc (.cells (List.replicate 32 (Value.int .u8 0)).toArray 23)).alloc (.cells (List.replicate 32 (Value.int .u8 0)).toArray 23) := ⟨_, rfl⟩
  have hk1 : Keeps (fun _ => False) w W1 := by rw [hW1]; exact (((Keeps.refl _ w).alloc _).alloc _).alloc _
  have hb1 : Blk W1 w.heap.size 23 (vb old) := by rw [hW1]; exact ((Blk.new w _ _).alloc _).alloc _
  have HZ1 : Hid (Blk W1 (w.heap.size + 1) 23 (List.replicate 32 (Value.int .u8 0))) := Lib.hid (by have := (Blk.new (w.alloc (.cells (vb old).toArray 23)) 23 (List.replicate 32 (Value.int .u8 0))).alloc (.cells (List.replicate 32 (Value.int .u8 0)).toArray 23); rw [World.size_alloc] at this; rw [hW1]; exact this)
  have HZ2 : Hid (Blk W1 (w.heap.size + 1 + 1) 23 (List.replicate 32 (Value.int .u8 0))) := Lib.hid (by have := Blk.new ((w.alloc (.cells (vb old).toArray 23)).alloc (.cells (List.replicate 32 (Value.int .u8 0)).toArray 23)) 23 (List.replicate 32 (Value.int .u8 0)); rw [World.size_alloc, World.size_alloc] at this; rw [hW1]; exact this)
  have HK1 := Lib.hid hk1
  by_cases hme : m = n
  · subst hme
    have e0 : gwayF m m b = ([], b) := by rw [gwayF, if_pos rfl]
    rw [e0] at hpre hps ⊢
    obtain rfl : ps = [] := List.eq_nil_of_length_eq_zero hps
    rw [List.append_nil] at hr
    have ec : climb2 (s, s) [] [] = (s, s) := rfl
    have eg : gupRows (s, s) [] [] = [] := rfl
    simp only [ec, eg, List.length_nil]
    have hq : ((m : Int) == (m : Int)) = true := by simp
    obtain ⟨DV, hDV⟩ : ∃ DV, DV = vb s := ⟨_, rfl⟩
    have HD1 : Hid (∀ u ∈ DV, u.oneCell' = true) := Lib.hid (by rw [hDV]; exact vb_one _)
    have HDL : Hid (DV.length = 32) := Lib.hid (by rw [hDV, vb_length]; exact hs.1)
    have HIN : Hid ((Tryd.prog.info? 23).map (·.size) = some DV.length) := Lib.hid (by rw [HDL.out]; kernel_rfl)
    cases b
    · obtain ⟨_, rfl⟩ := hpre.resolve_left (fun h => by cases h.1)
      obtain rfl : K = 1 := by have := hr.1; simpa using this.symm
      have hlp : ∃ g o, A = some ⟨g, o, none⟩ ∧ ∀ W, Keeps (fun _ => False) w W → W.rangeAt g o (vb s) := by
        obtain ⟨g, o, d', hA, hd', _⟩ := hr.lies (k := 0) (by omega)
        refine ⟨g, o, hA, fun W hW => ?_⟩
        obtain ⟨g1, o1, d1, hA1, hd1, hl1⟩ := (hr.keep hW (no_out _ _)).lies (k := 0) (by omega)
        rw [hA] at hA1
        injection hA1 with hA1
        injection hA1 with e1 e2
        subst e1 e2
        have : s = d1 := by simpa using hd1
        rw [this]
        have := lies_range hl1
        simpa using this
      obtain ⟨g, o, rfl, hlp⟩ := hlp
      rw [← hDV] at hlp ⊢
      have HRP : Hid (∀ W, Keeps (fun i => i = w.heap.size + 1 ∨ i = w.heap.size + 1 + 1) W1 W → W.rangeAt g o DV) := Lib.hid fun W hW => hlp W (HK1.out.trans hW (fun i h1 h2 => by omega))
      clear hlp hDV e0 ec eg hr ih hold hs hpre hps hk1 hb1
      simp only [List.replicate] at hW1
      go_enter Tryd.func62, Tryd.ntmps62
      go_upto_region 4 with fail
      rw [← hW1]
      clear hW1
      refine wp_region_held_drew (S := Keeps (fun i => i = w.heap.size + 1 ∨ i = w.heap.size + 1 + 1) W1) (by kernel_rfl) (Keeps.refl _ _).drew (fun hHeld => ?_)
      refine wpAnyH_take (i := 0) (oi := ⟨some 28, _, _, _, _, _⟩) (v := ?_) rfl (by kernel_rfl) (by kernel_rfl) (by kernel_rfl) (fun _ _ _ h => h) (Or.inl ⟨by rfl, ?_⟩) hHeld ?_
      rotate_left
      · intro w' hSw
        go_simp
        first | done | rfl
      try simp only [Act.put, List.setIfInBounds_toArray, List.set_cons_zero, List.set_cons_succ]
      refine wpAnyH_take (i := 1) (oi := ⟨some 29, _, _, _, _, _⟩) (v := ?_) rfl (by kernel_rfl) (by kernel_rfl) (by kernel_rfl) (fun _ _ _ h => h) (Or.inl ⟨by rfl, ?_⟩) hHeld ?_
      rotate_left
      · intro w' hSw
        go_simp
        first | done | rfl
      try simp only [Act.put, List.setIfInBounds_toArray, List.set_cons_zero, List.set_cons_succ]
      refine wpAnyH_take (i := 2) (oi := ⟨some 30, _, _, _, _, _⟩) (v := _) rfl (by kernel_rfl) (by kernel_rfl) (by kernel_rfl) (fun _ _ _ h => h) (yieldsIf_load_mid (by rfl) _ _ rfl _ _ rfl DV _ (fun w' h => HRP.out _ h) Tryd.underlying23 rfl HIN.out) hHeld ?_
      try simp only [Act.put, List.setIfInBounds_toArray, List.set_cons_zero, List.set_cons_succ]
      refine wpAnyH_take (i := 3) (oi := ⟨some 31, _, _, _, _, _⟩) (v := ?_) rfl (by kernel_rfl) (by kernel_rfl) (by kernel_rfl) (fun _ _ _ h => h) (Or.inl ⟨by rfl, ?_⟩) hHeld ?_
      rotate_left
      · intro w' hSw
        go_simp
        first | done | rfl
      try simp only [Act.put, List.setIfInBounds_toArray, List.set_cons_zero, List.set_cons_succ]
      refine wpAnyH_take (i := 4) (oi := ⟨some 32, _, _, _, _, _⟩) (v := ?_) rfl (by kernel_rfl) (by kernel_rfl) (by kernel_rfl) (fun _ _ _ h => h) (Or.inl ⟨by rfl, ?_⟩) hHeld ?_
      rotate_left
      · intro w' hSw
        go_simp
        first | done | rfl
      try simp only [Act.put, List.setIfInBounds_toArray, List.set_cons_zero, List.set_cons_succ]
      refine wpAnyH_take (i := 5) (oi := ⟨some 33, _, _, _, _, _⟩) (v := _) rfl (by kernel_rfl) (by kernel_rfl) (by kernel_rfl) (fun _ _ _ h => h) (yieldsIf_load_mid (by rfl) _ _ rfl _ _ rfl DV _ (fun w' h => HRP.out _ h) Tryd.underlying23 rfl HIN.out) hHeld ?_
      try simp only [Act.put, List.setIfInBounds_toArray, List.set_cons_zero, List.set_cons_succ]
      refine wpAnyH_ready (rs := [6]) (by kernel_rfl) (by simp) ?_
      refine AllReadyH.cons (o := ⟨none, _, _, _, _, _⟩) rfl (fun K hK => ?_) AllReadyH.nil
      
      refine stepH_store rfl 23 _ _ rfl DV rfl rfl HZ1.out (by rw [HDL.out]; simp) HIN.out HD1.out ?_
      have hc2 := HZ2.out.setRow_far (by omega : w.heap.size + 1 + 1 ≠ w.heap.size + 1) DV.toArray
      have hc1 := HZ1.out.setRow DV
      refine hK.out _ _ (hHeld.setRow (.inl (.inl rfl)) _) (fun hHeld => ?_)
      clear hK K
      try simp only [Act.put, List.setIfInBounds_toArray, List.set_cons_zero, List.set_cons_succ]
      refine wpAnyH_ready (rs := [7]) (by kernel_rfl) (by simp) ?_
      refine AllReadyH.cons (o := ⟨none, _, _, _, _, _⟩) rfl (fun K hK => ?_) AllReadyH.nil
      
      refine stepH_store rfl 23 _ _ rfl DV rfl rfl hc2 (by rw [HDL.out]; simp) HIN.out HD1.out ?_
      refine hK.out _ _ (hHeld.setRow (.inl (.inr rfl)) _) (fun hHeld => ?_)
      clear hK K
      try simp only [Act.put, List.setIfInBounds_toArray, List.set_cons_zero, List.set_cons_succ]
      refine wpAnyH_take (i := 8) (oi := ⟨some 12, _, _, _, _, _⟩) (v := ?_) rfl (by kernel_rfl) (by kernel_rfl) (by kernel_rfl) (fun _ _ _ h => h) (Or.inl ⟨by rfl, ?_⟩) hHeld ?_
      rotate_left
      · intro w' hSw
        go_simp
        first | done | rfl
      try simp only [Act.put, List.setIfInBounds_toArray, List.set_cons_zero, List.set_cons_succ]
      refine wpAnyH_done (by kernel_rfl) ?_ _
      go_wp2
      refine bodyPost_ret (results_blk2_tmp rfl _ _ rfl rfl (hc1.setRow_far (by omega : w.heap.size + 1 ≠ w.heap.size + 1 + 1) DV.toArray) (hc2.setRow DV) Tryd.underlying23 rfl HIN.out HIN.out) rfl ⟨none, 0, rfl, ?_⟩
      exact MineP.nil' _ (HK1.out.trans hHeld (fun i h1 h2 => by omega))
    · obtain ⟨_, rfl, rfl⟩ := hpre.resolve_right (fun h => by cases h.1)
      rw [← hDV] at hb1 hW1 ⊢
      have HRL : Hid (∀ W, Keeps (fun i => i = w.heap.size + 1 ∨ i = w.heap.size + 1 + 1) W1 W → W.rangeAt w.heap.size 0 DV) := Lib.hid fun W hW j v hv => by rw [Nat.zero_add, (hW.blk hb1 (fun h => by omega)).cell]; exact hv
      clear hDV e0 ec eg hr ih hold hs hpre hps hk1 hb1
      simp only [List.replicate] at hW1
      go_enter Tryd.func62, Tryd.ntmps62
      go_upto_region 3 with fail
      rw [← hW1]
      clear hW1
      refine wp_region_held_drew (S := Keeps (fun i => i = w.heap.size + 1 ∨ i = w.heap.size + 1 + 1) W1) (by kernel_rfl) (Keeps.refl _ _).drew (fun hHeld => ?_)
      refine wpAnyH_take (i := 0) (oi := ⟨some 26, _, _, _, _, _⟩) (v := _) rfl (by kernel_rfl) (by kernel_rfl) (by kernel_rfl) (fun _ _ _ h => h) (yieldsIf_load_mid (by rfl) _ _ rfl _ _ rfl DV _ (fun w' h => HRL.out _ h) Tryd.underlying23 rfl HIN.out) hHeld ?_
      try simp only [Act.put, List.setIfInBounds_toArray, List.set_cons_zero, List.set_cons_succ]
      refine wpAnyH_take (i := 1) (oi := ⟨some 27, _, _, _, _, _⟩) (v := _) rfl (by kernel_rfl) (by kernel_rfl) (by kernel_rfl) (fun _ _ _ h => h) (yieldsIf_load_mid (by rfl) _ _ rfl _ _ rfl DV _ (fun w' h => HRL.out _ h) Tryd.underlying23 rfl HIN.out) hHeld ?_
      try simp only [Act.put, List.setIfInBounds_toArray, List.set_cons_zero, List.set_cons_succ]
      refine wpAnyH_ready (rs := [2]) (by kernel_rfl) (by simp) ?_
      refine AllReadyH.cons (o := ⟨none, _, _, _, _, _⟩) rfl (fun K hK => ?_) AllReadyH.nil
      
      refine stepH_store rfl 23 _ _ rfl DV rfl rfl HZ1.out (by rw [HDL.out]; simp) HIN.out HD1.out ?_
      have hc2 := HZ2.out.setRow_far (by omega : w.heap.size + 1 + 1 ≠ w.heap.size + 1) DV.toArray
      have hc1 := HZ1.out.setRow DV
      refine hK.out _ _ (hHeld.setRow (.inl (.inl rfl)) _) (fun hHeld => ?_)
      clear hK K
      try simp only [Act.put, List.setIfInBounds_toArray, List.set_cons_zero, List.set_cons_succ]
      refine wpAnyH_ready (rs := [3]) (by kernel_rfl) (by simp) ?_
      refine AllReadyH.cons (o := ⟨none, _, _, _, _, _⟩) rfl (fun K hK => ?_) AllReadyH.nil
      
      refine stepH_store rfl 23 _ _ rfl DV rfl rfl hc2 (by rw [HDL.out]; simp) HIN.out HD1.out ?_
      refine hK.out _ _ (hHeld.setRow (.inl (.inr rfl)) _) (fun hHeld => ?_)
      clear hK K
      try simp only [Act.put, List.setIfInBounds_toArray, List.set_cons_zero, List.set_cons_succ]
      refine wpAnyH_take (i := 4) (oi := ⟨some 12, _, _, _, _, _⟩) (v := ?_) rfl (by kernel_rfl) (by kernel_rfl) (by kernel_rfl) (fun _ _ _ h => h) (Or.inl ⟨by rfl, ?_⟩) hHeld ?_
      rotate_left
      · intro w' hSw
        go_simp
        first | done | rfl
      try simp only [Act.put, List.setIfInBounds_toArray, List.set_cons_zero, List.set_cons_succ]
      refine wpAnyH_done (by kernel_rfl) ?_ _
      go_wp2
      refine bodyPost_ret (results_blk2_tmp rfl _ _ rfl rfl (hc1.setRow_far (by omega : w.heap.size + 1 ≠ w.heap.size + 1 + 1) DV.toArray) (hc2.setRow DV) Tryd.underlying23 rfl HIN.out HIN.out) rfl ⟨none, 0, rfl, ?_⟩
      exact MineP.nil' _ (HK1.out.trans hHeld (fun i h1 h2 => by omega))
  · have hbig : 2 ≤ n := by omega
    have hs1 := spl_lt hbig
    have hs0 := spl_pos n
    have HS := Lib.hid fun W => rsplit_any n W hbig hn
    have e0 : gwayF m n b = if m ≤ spl n then ((gwayF m (spl n) b).1 ++ [true], (gwayF m (spl n) b).2) else ((gwayF (m - spl n) (n - spl n) false).1 ++ [false], false) := by rw [gwayF, if_neg hme, dif_pos hbig]
    obtain ⟨k, hk⟩ : ∃ k, k = spl n := ⟨_, rfl⟩
    rw [← hk] at HS hs1 hs0 e0
    have hn1 : ((m : Int) == (n : Int)) = false := by simp; omega
    by_cases hik : m ≤ k
    · skip
      rw [if_pos hik] at e0
      have e1 : (gwayF m n b).2 = (gwayF m k b).2 := by rw [e0]
      have e2 : (gwayF m n b).1 = (gwayF m k b).1 ++ [true] := by rw [e0]
      rw [e1] at hpre
      rw [e2] at hps ⊢
      clear e0 e1 e2
      obtain ⟨L, hL⟩ : ∃ L, (gwayF m k b).1.length = L := ⟨_, rfl⟩
      have hL53 : L ≤ 53 := by rw [← hL]; exact gway_short _ _ 53 _ (by omega)
      rw [List.length_append, hL] at hps
      obtain ⟨ps', d, rfl, hps'⟩ := snoc_of ps L hps
      have hpl : pre.length ≤ 1 := by rcases hpre with ⟨_, h, _⟩ | ⟨_, h⟩ <;> (rw [h]; simp)
      obtain ⟨q, hq⟩ : ∃ q, pre.length + L = q := ⟨_, rfl⟩
      have hKL : K = q + 1 := by have := hr.1; simp only [List.length_append, List.length_singleton] at this; omega
      subst hKL
      have hdp : IsDigs ps' := fun x hx => hr.2.1 x (by simp [hx])
      have hdd : IsDig d := hr.2.1 d (by simp)
      have hcl := climb2_dig (s, s) (gwayF m k b).1 ps' hs hs hdp
      have hlen2 : (gwayF m k b).1.length = ps'.length := by omega
      rw [climb2_snoc _ _ _ _ _ hlen2, gupRows_snoc _ _ _ _ _ hlen2]
      simp only [if_true, if_false, Bool.false_eq_true]
      have hgl := gupRows_len (gwayF m k b).1 ps' (s, s)
      rw [hL] at hgl
      have hI : ∀ W, Keeps (fun _ => False) w W → Calls Tryd.prog 62 #[.int .i64 m, .int .i64 k, .bool b, .agg (vb old).toArray, .slice (cutD A c 0) q c] W fun e w' => ∃ B c', e = .returned (.tuple #[.agg (vb (climb2 (s, s) (gwayF m k b).1 ps').1).toArray, .agg (vb (climb2 (s, s) (gwayF m k b).1 ps').2).toArray, .slice B (gupRows (s, s) (gwayF m k b).1 ps').length c']) ∧ MineP W w' 22 B (gupRows (s, s) (gwayF m k b).1 ps').length c' (gupRows (s, s) (gwayF m k b).1 ps') := fun W hW => by
        have hrd : RdD W (cutD A c 0) q (pre ++ ps') := by
          have := ((hr.keep hW (no_out _ _)).take (k := q) (by omega)).cut (k := 0) (c := c) (by omega) (by omega)
          rw [List.drop_zero, ← List.append_assoc, List.take_left' (by rw [List.length_append]; omega)] at this
          exact this
        exact ih k hs1 m b W old s (cutD A c 0) q c pre ps' (by omega) (by omega) (by omega) hold hs hpre hrd (by omega) (by omega)
      have hlp : ∃ g o, A = some ⟨g, o, none⟩ ∧ ∀ W, Keeps (fun _ => False) w W → Lies W g (o + q * 32) (vb d) := by
        obtain ⟨g, o, d', hA, hd', _⟩ := hr.lies (k := q) (by omega)
        refine ⟨g, o, hA, fun W hW => ?_⟩
        obtain ⟨g1, o1, d1, hA1, hd1, hl1⟩ := (hr.keep hW (no_out _ _)).lies (k := q) (by omega)
        rw [hA] at hA1
        injection hA1 with hA1
        injection hA1 with e1 e2
        subst e1 e2
        have : d1 = d := by rw [← List.append_assoc, List.getElem?_append_right (by rw [List.length_append]; omega), List.length_append, hps', hq] at hd1; simpa using hd1.symm
        subst this
        exact hl1
      obtain ⟨g, o, rfl, hlp⟩ := hlp
      have HC : Hid (∀ W, (Instr.sliceAt 42 (.slice (some ⟨g, o, none⟩) (q + 1) c) none (some (.int .i64 q)) none).run Tryd.prog W = .ok (.slice (cutD (some ⟨g, o, none⟩) c 0) q c) W) := Lib.hid (cutD_h Tryd.underlying42 (by kernel_rfl) (some ⟨g, o, none⟩) (q + 1) c q q rfl (by omega))
      obtain ⟨C, hC⟩ : ∃ C, C = climb2 (s, s) (gwayF m k b).1 ps' := ⟨_, rfl⟩
      obtain ⟨RS, hRS⟩ : ∃ RS, RS = gupRows (s, s) (gwayF m k b).1 ps' := ⟨_, rfl⟩
      obtain ⟨N, hN⟩ : ∃ N, N = RS.length := ⟨_, rfl⟩
      rw [← hC] at hI hcl ⊢
      rw [← hRS] at hI hgl ⊢
      rw [← hN] at hI hgl
      have hNl : (RS ++ [1 :: (C.2 ++ d)]).length = N + 1 := by rw [hN]; simp
      rw [hNl]
      have hac : IsDig C.1 := hcl.1
      have hbc : IsDig C.2 := hcl.2
      obtain ⟨a', ha'⟩ : ∃ a', a' = C.1 := ⟨_, rfl⟩
      obtain ⟨b', hb'⟩ : ∃ b', b' = C.2 := ⟨_, rfl⟩
      simp only [← ha', ← hb'] at hI hac hbc ⊢
      obtain ⟨ROW, hROW⟩ : ∃ ROW, ROW = (1 : Int) :: (b' ++ d) := ⟨_, rfl⟩
      rw [← hROW]
      obtain ⟨AV, hAV⟩ : ∃ AV, AV = vb a' := ⟨_, rfl⟩
      obtain ⟨DV, hDV⟩ : ∃ DV, DV = vb b' := ⟨_, rfl⟩
      obtain ⟨EV, hEV⟩ : ∃ EV, EV = vb d := ⟨_, rfl⟩
      obtain ⟨LV, hLV⟩ : ∃ LV, LV = vb old := ⟨_, rfl⟩
      obtain ⟨FV, hFV⟩ : ∃ FV, FV = vb (pairF b' d) := ⟨_, rfl⟩
      have HAL : Hid (AV.length = 32) := Lib.hid (by rw [hAV, vb_length]; exact hac.1)
      have HA1 : Hid (∀ u ∈ AV, u.oneCell' = true) := Lib.hid (by rw [hAV]; exact vb_one _)
      have HIA : Hid ((Tryd.prog.info? 23).map (·.size) = some AV.length) := Lib.hid (by rw [HAL.out]; kernel_rfl)
      have HDL : Hid (DV.length = 32) := Lib.hid (by rw [hDV, vb_length]; exact hbc.1)
      have HD1 : Hid (∀ u ∈ DV, u.oneCell' = true) := Lib.hid (by rw [hDV]; exact vb_one _)
      have HIN : Hid ((Tryd.prog.info? 23).map (·.size) = some DV.length) := Lib.hid (by rw [HDL.out]; kernel_rfl)
      have HEL0 : Hid (EV.length = 32) := Lib.hid (by rw [hEV, vb_length]; exact hdd.1)
      have HE1 : Hid (∀ u ∈ EV, u.oneCell' = true) := Lib.hid (by rw [hEV]; exact vb_one _)
      have HIE : Hid ((Tryd.prog.info? 23).map (·.size) = some EV.length) := Lib.hid (by rw [HEL0.out]; kernel_rfl)
      have HIL : Hid ((Tryd.prog.info? 23).map (·.size) = some LV.length) := Lib.hid (by rw [hLV, vb_length, hold.1]; kernel_rfl)
      have HFL : Hid (FV.length = 32) := Lib.hid (by rw [hFV, vb_length]; exact (dig_pair _ _).1)
      have HF1 : Hid (∀ u ∈ FV, u.oneCell' = true) := Lib.hid (by rw [hFV]; exact vb_one _)
      have HIF : Hid ((Tryd.prog.info? 23).map (·.size) = some FV.length) := Lib.hid (by rw [HFL.out]; kernel_rfl)
      have HPA : Hid (∀ (W0 W : World), Keeps (fun _ => False) W0 W → Calls Tryd.prog 14 #[.agg DV.toArray, .agg EV.toArray] W fun e w' => e = .returned (.agg FV.toArray) ∧ Keeps (fun _ => False) W w') := Lib.hid fun W0 W _ => by
        rw [hFV, hDV, hEV]
        exact rpair_any W _ _ hbc.1 hdd.1 hbc.2 hdd.2
      have HPR : Hid (∀ (W0 W : World), Keeps (fun _ => False) W0 W → Calls Tryd.prog 45 #[.agg DV.toArray, .agg EV.toArray] W fun e w' => ∃ A' c', e = .returned (.slice A' 65 c') ∧ Mine W w' 5 A' 65 c' (vb ROW)) := Lib.hid fun W0 W _ => by
        rw [hDV, hEV, hROW]
        exact pairRow_any W _ _ hbc.1 hdd.1
      have HEL : Hid (∀ (W0 W v7 : World) (A7 : Option Addr) (c7 : Nat), Keeps (fun _ => False) W0 W → Mine W v7 5 A7 65 c7 (vb ROW) → ElemsR W0 v7 (fun _ => False) [ROW] [.slice A7 65 c7]) := Lib.hid fun W0 W v7 A7 c7 hk hM => ElemsR.mine hM hk.size (by rw [hROW]; simp [hbc.1, hdd.1]) (by
        rw [hROW]
        exact bytes_cons1 (bytes_app2 hbc.2 hdd.2)) (by omega)
      rw [← hEV] at hlp
      rw [← hLV] at hI hb1 hW1 ⊢
      rw [← hDV, ← hAV] at hI
      rw [← hFV]
      rw [← hAV]
      have HLP := Lib.hid hlp
      have HI := Lib.hid hI
      have HB1 := Lib.hid hb1
      skip
      have hlt : (m : Int) ≤ (k : Int) := by omega
      have hqb : (q : Int) ≤ 54 := by omega
      clear hI hlp hcl hac hbc hdp hdd hC hRS hN hNl hROW hDV hAV hEV hLV hFV ha' hb' hr hps hps' hlen2 hL ih hold hs hpre hpl hq hk hb1
      simp only [List.replicate] at hW1
      go_enter Tryd.func62, Tryd.ntmps62
      go_upto_region 7 with (go_at_call 55; refine (HS.out _).mono ?_; rintro e w9 ⟨rfl, hw9⟩; subst hw9)
      rw [← hW1]
      clear hW1
      have hq1 : (q : Int) < (q : Int) + 1 := by omega
      go_upto_region 9 with (first
        | ((with_reducible show wpList _ _ _ (⟨_, Op.load 23 _, _, _, _, _⟩ :: _) _ _); refine wpList_load_lies rfl 23 _ rfl _ EV _ rfl (HLP.out _ HK1.out) Tryd.underlying23 rfl HIE.out ?_)
        | ((with_reducible show wpList _ _ _ (⟨none, Op.store 23 _ _, _, _, _, _⟩ :: _) _ _); refine wpList_store_whole rfl 23 _ _ rfl EV rfl rfl (Blk.new W1 23 (List.replicate 32 (Value.int .u8 0))) (by rw [HEL0.out]; simp) HIE.out HE1.out ?_; refine gen_world (fun W => Blk W W1.heap.size 23 EV ∧ Keeps (fun _ => False) W1 W) ⟨(Blk.new W1 23 (List.replicate 32 (Value.int .u8 0))).setRow EV, (((Keeps.refl (fun _ => False) W1).alloc _).setRow (.inr (Nat.le_refl _)) _)⟩ ?_; rintro W3 ⟨hbE, hk3⟩; have HBE := Lib.hid hbE; have HK3 := Lib.hid hk3; clear hbE hk3))
      have HK13 := Lib.hid (HK1.out.trans HK3.out (fun _ _ h => h))
      replace HI := Lib.hid fun W (hW : Keeps (fun _ => False) W3 W) => HI.out W (HK13.out.trans hW (fun _ _ h => h))
      have HRL : Hid (∀ W, Keeps (fun _ => False) W3 W → W.rangeAt w.heap.size 0 LV) := Lib.hid fun W hW j v hv => by rw [Nat.zero_add, ((HK3.out.trans hW (fun _ _ h => h)).blk HB1.out (fun h => h)).cell]; exact hv
      go_cut [16, 17, 18] (fun ap dp rows wx => ∃ (ga gd : Nat) (B6 : Option Addr) (N6 c6 : Nat), ap = .pointer (some ⟨ga, 0, none⟩) ∧ dp = .pointer (some ⟨gd, 0, none⟩) ∧ rows = .slice B6 N6 c6 ∧ Hid (Blk wx ga 23 AV ∧ Blk wx gd 23 DV ∧ MineP W3 wx 22 B6 N6 c6 RS ∧ (∀ g, (Value.slice B6 N6 c6).ownBlock = some g → g ≠ ga ∧ g ≠ gd ∧ W3.heap.size ≤ g) ∧ N6 = N))
      case first =>
        refine wp_region_held_drew (S := Keeps (fun _ => False) W3) (by kernel_rfl) (Keeps.refl _ _).drew (fun hHeld => ?_)
        refine wpAnyH_take (i := 0) (oi := ⟨some 47, _, _, _, _, _⟩) (v := ?_) rfl (by kernel_rfl) (by kernel_rfl) (by kernel_rfl) (fun _ _ _ h => h) (Or.inl ⟨by rfl, ?_⟩) hHeld ?_
        rotate_left
        · intro w' hSw
          go_simp
          first | done | rfl
        try simp only [Act.put, List.setIfInBounds_toArray, List.set_cons_zero, List.set_cons_succ]
        refine wpAnyH_take (i := 1) (oi := ⟨some 48, _, _, _, _, _⟩) (v := ?_) rfl (by kernel_rfl) (by kernel_rfl) (by kernel_rfl) (fun _ _ _ h => h) (Or.inl ⟨by rfl, ?_⟩) hHeld ?_
        rotate_left
        · intro w' hSw
          go_simp
          first | done | rfl
        try simp only [Act.put, List.setIfInBounds_toArray, List.set_cons_zero, List.set_cons_succ]
        refine wpAnyH_take (i := 2) (oi := ⟨some 49, _, _, _, _, _⟩) (v := ?_) rfl (by kernel_rfl) (by kernel_rfl) (by kernel_rfl) (fun _ _ _ h => h) (Or.inl ⟨by rfl, ?_⟩) hHeld ?_
        rotate_left
        · intro w' hSw
          go_simp
          first | done | rfl
        try simp only [Act.put, List.setIfInBounds_toArray, List.set_cons_zero, List.set_cons_succ]
        refine wpAnyH_take (i := 3) (oi := ⟨some 50, _, _, _, _, _⟩) (v := _) rfl (by kernel_rfl) (by kernel_rfl) (by kernel_rfl) (fun _ _ _ h => h) (yieldsIf_load_mid (by rfl) _ _ rfl _ _ rfl LV _ (fun w' h => HRL.out _ h) Tryd.underlying23 rfl HIL.out) hHeld ?_
        try simp only [Act.put, List.setIfInBounds_toArray, List.set_cons_zero, List.set_cons_succ]
        refine wpAnyH_take (i := 4) (oi := ⟨some 51, _, _, _, _, _⟩) (v := ?_) rfl (by kernel_rfl) (by kernel_rfl) (by kernel_rfl) (fun _ _ _ h => h) (Or.inl ⟨by rfl, ?_⟩) hHeld ?_
        rotate_left
        · intro w' hSw
          go_simp
          first | done | rfl
        try simp only [Act.put, List.setIfInBounds_toArray, List.set_cons_zero, List.set_cons_succ]
        refine wpAnyH_take (i := 5) (oi := ⟨some 52, _, _, _, _, _⟩) (v := ?_) rfl (by kernel_rfl) (by kernel_rfl) (by kernel_rfl) (fun _ _ _ h => h) (Or.inl ⟨by rfl, ?_⟩) hHeld ?_
        rotate_left
        · intro w' hSw
          go_simp
          first | done | rfl
        try simp only [Act.put, List.setIfInBounds_toArray, List.set_cons_zero, List.set_cons_succ]
        refine wpAnyH_take (i := 6) (oi := ⟨some 53, _, _, _, _, _⟩) (v := ?_) rfl (by kernel_rfl) (by kernel_rfl) (by kernel_rfl) (fun _ _ _ h => h) (Or.inl ⟨by rfl, ?_⟩) hHeld ?_
        rotate_left
        · intro w' hSw
          have cv := HC.out w'
          go_simp
          first | done | rfl
        try simp only [Act.put, List.setIfInBounds_toArray, List.set_cons_zero, List.set_cons_succ]
        refine wpAnyH_ready (rs := [7, 12, 13]) (by kernel_rfl) (by simp) ?_
        refine (AllReadyH.cons (o := ⟨some 54, _, _, _, _, _⟩) rfl (fun K hK => ?_) (AllReadyH.cons (o := ⟨some 16, _, _, _, _, _⟩) rfl (fun K hK => ?_) (AllReadyH.cons (o := ⟨some 17, _, _, _, _, _⟩) rfl (fun K hK => ?_) AllReadyH.nil)))
        · go_simp
          refine (HI.out _ hHeld).mono ?_
          rintro e v6 ⟨B6, c6, rfl, hP6⟩
          have hq6 := hHeld.trans hP6.keeps (fun _ _ h => h)
          have hbase := hHeld
          refine hK.out _ _ hq6 (fun hHeld => ?_)
          clear hK K
          try simp only [Act.put, List.setIfInBounds_toArray, List.set_cons_zero, List.set_cons_succ]
          refine wpAnyH_take (i := 8) (oi := ⟨some 46, _, _, _, _, _⟩) (v := ?_) rfl (by kernel_rfl) (by kernel_rfl) (by kernel_rfl) (fun _ _ _ h => h) (Or.inl ⟨by rfl, ?_⟩) hHeld ?_
          rotate_left
          · intro w' hSw
            go_simp
            first | done | rfl
          try simp only [Act.put, List.setIfInBounds_toArray, List.set_cons_zero, List.set_cons_succ]
          refine wpAnyH_take (i := 9) (oi := ⟨some 55, _, _, _, _, _⟩) (v := ?_) rfl (by kernel_rfl) (by kernel_rfl) (by kernel_rfl) (fun _ _ _ h => h) (Or.inl ⟨by rfl, ?_⟩) hHeld ?_
          rotate_left
          · intro w' hSw
            go_simp
            first | done | rfl
          try simp only [Act.put, List.setIfInBounds_toArray, List.set_cons_zero, List.set_cons_succ]
          refine wpAnyH_take (i := 10) (oi := ⟨some 56, _, _, _, _, _⟩) (v := ?_) rfl (by kernel_rfl) (by kernel_rfl) (by kernel_rfl) (fun _ _ _ h => h) (Or.inl ⟨by rfl, ?_⟩) hHeld ?_
          rotate_left
          · intro w' hSw
            go_simp
            first | done | rfl
          try simp only [Act.put, List.setIfInBounds_toArray, List.set_cons_zero, List.set_cons_succ]
          refine wpAnyH_take (i := 11) (oi := ⟨some 57, _, _, _, _, _⟩) (v := ?_) rfl (by kernel_rfl) (by kernel_rfl) (by kernel_rfl) (fun _ _ _ h => h) (Or.inl ⟨by rfl, ?_⟩) hHeld ?_
          rotate_left
          · intro w' hSw
            go_simp
            first | done | rfl
          try simp only [Act.put, List.setIfInBounds_toArray, List.set_cons_zero, List.set_cons_succ]
          refine wpAnyH_ready (rs := [12, 13]) (by kernel_rfl) (by simp) ?_
          refine (AllReadyH.cons (o := ⟨some 16, _, _, _, _, _⟩) rfl (fun K hK => ?_) (AllReadyH.cons (o := ⟨some 17, _, _, _, _, _⟩) rfl (fun K hK => ?_) AllReadyH.nil))
          · go_simp
            have hz1 := Blk.new (v6) 23 (List.replicate 32 (Value.int .u8 0))
            have hg1 : W3.heap.size ≤ (v6).heap.size := hHeld.size
            try simp only [World.size_alloc] at hz1 hg1
            refine hK.out _ _ (hHeld.alloc _) (fun hHeld => ?_)
            clear hK K
            try simp only [Act.put, List.setIfInBounds_toArray, List.set_cons_zero, List.set_cons_succ]
            refine wpAnyH_ready (rs := [13]) (by kernel_rfl) (by simp) ?_
            refine (AllReadyH.cons (o := ⟨some 17, _, _, _, _, _⟩) rfl (fun K hK => ?_) AllReadyH.nil)
            go_simp
            have hz1w := hz1.lt
            try simp only [World.size_alloc] at hz1w
            replace hz1 := hz1.alloc (.cells (List.replicate 32 (Value.int .u8 0)).toArray 23)
            have hz2 := Blk.new ((v6).alloc (.cells (List.replicate 32 (Value.int .u8 0)).toArray 23)) 23 (List.replicate 32 (Value.int .u8 0))
            have hg2 : W3.heap.size ≤ ((v6).alloc (.cells (List.replicate 32 (Value.int .u8 0)).toArray 23)).heap.size := hHeld.size
            try simp only [World.size_alloc] at hz2 hg2
            refine hK.out _ _ (hHeld.alloc _) (fun hHeld => ?_)
            clear hK K
            try simp only [Act.put, List.setIfInBounds_toArray, List.set_cons_zero, List.set_cons_succ]
            refine wpAnyH_ready (rs := [14]) (by kernel_rfl) (by simp) ?_
            refine (AllReadyH.cons (o := ⟨none, _, _, _, _, _⟩) rfl (fun K hK => ?_) AllReadyH.nil)
            have HNE := Lib.hid (Nat.ne_of_gt (hz1w))
            refine stepH_store rfl 23 _ _ rfl AV rfl rfl hz1 (by rw [HAL.out]; simp) HIA.out HA1.out ?_
            have hz2' := hz2.setRow_far HNE.out AV.toArray
            have hz1' := hz1.setRow AV
            refine hK.out _ _ (hHeld.setRow (.inr hg1) _) (fun hHeld => ?_)
            clear hK K
            try simp only [Act.put, List.setIfInBounds_toArray, List.set_cons_zero, List.set_cons_succ]
            refine wpAnyH_ready (rs := [15]) (by kernel_rfl) (by simp) ?_
            refine (AllReadyH.cons (o := ⟨none, _, _, _, _, _⟩) rfl (fun K hK => ?_) AllReadyH.nil)
            
            refine stepH_store rfl 23 _ _ rfl DV rfl rfl hz2' (by rw [HDL.out]; simp) HIN.out HD1.out ?_
            have hzb := hz2'.setRow DV
            have hza := hz1'.setRow_far HNE.out.symm DV.toArray
            refine hK.out _ _ (hHeld.setRow (.inr hg2) _) (fun hHeld => ?_)
            clear hK K
            try simp only [Act.put, List.setIfInBounds_toArray, List.set_cons_zero, List.set_cons_succ]
            refine wpAnyH_take (i := 16) (oi := ⟨some 18, _, _, _, _, _⟩) (v := ?_) rfl (by kernel_rfl) (by kernel_rfl) (by kernel_rfl) (fun _ _ _ h => h) (Or.inl ⟨by rfl, ?_⟩) hHeld ?_
            rotate_left
            · intro w' hSw
              go_simp
              first | done | rfl
            try simp only [Act.put, List.setIfInBounds_toArray, List.set_cons_zero, List.set_cons_succ]
            refine wpAnyH_done (by kernel_rfl) ?_ _
            have hPz := hP6.out hbase (Keeps.setRow (g := v6.heap.size + 1) (Keeps.setRow (g := v6.heap.size) (((Keeps.refl (fun i => W3.heap.size ≤ i ∧ i < (W3.drew).heap.size) v6).alloc (.cells (List.replicate 32 (Value.int .u8 0)).toArray 23)).alloc (.cells (List.replicate 32 (Value.int .u8 0)).toArray 23)) (.inr (by omega)) AV.toArray) (.inr (by omega)) DV.toArray) (fun _ h => h.1) (fun _ h => h.2)
            go_wp2_with fail
            go_meet
            refine ⟨_, _, B6, N, c6, rfl, rfl, rfl, Lib.hid ⟨hza, hzb, hPz, ?_, rfl⟩⟩
            intro g hgo
            obtain ⟨ho1, ho2⟩ := own_between hP6 g hgo
            have := hbase.size
            simp only [World.size_alloc, drew_size] at *
            skip
            skip
            exact ⟨by omega, by omega, by omega⟩
          · go_simp
            have hz2 := Blk.new (v6) 23 (List.replicate 32 (Value.int .u8 0))
            have hg2 : W3.heap.size ≤ (v6).heap.size := hHeld.size
            try simp only [World.size_alloc] at hz2 hg2
            refine hK.out _ _ (hHeld.alloc _) (fun hHeld => ?_)
            clear hK K
            try simp only [Act.put, List.setIfInBounds_toArray, List.set_cons_zero, List.set_cons_succ]
            refine wpAnyH_ready (rs := [12]) (by kernel_rfl) (by simp) ?_
            refine (AllReadyH.cons (o := ⟨some 16, _, _, _, _, _⟩) rfl (fun K hK => ?_) AllReadyH.nil)
            go_simp
            have hz2w := hz2.lt
            try simp only [World.size_alloc] at hz2w
            replace hz2 := hz2.alloc (.cells (List.replicate 32 (Value.int .u8 0)).toArray 23)
            have hz1 := Blk.new ((v6).alloc (.cells (List.replicate 32 (Value.int .u8 0)).toArray 23)) 23 (List.replicate 32 (Value.int .u8 0))
            have hg1 : W3.heap.size ≤ ((v6).alloc (.cells (List.replicate 32 (Value.int .u8 0)).toArray 23)).heap.size := hHeld.size
            try simp only [World.size_alloc] at hz1 hg1
            refine hK.out _ _ (hHeld.alloc _) (fun hHeld => ?_)
            clear hK K
            try simp only [Act.put, List.setIfInBounds_toArray, List.set_cons_zero, List.set_cons_succ]
            refine wpAnyH_ready (rs := [14]) (by kernel_rfl) (by simp) ?_
            refine (AllReadyH.cons (o := ⟨none, _, _, _, _, _⟩) rfl (fun K hK => ?_) AllReadyH.nil)
            have HNE := Lib.hid (Nat.ne_of_lt (hz2w))
            refine stepH_store rfl 23 _ _ rfl AV rfl rfl hz1 (by rw [HAL.out]; simp) HIA.out HA1.out ?_
            have hz2' := hz2.setRow_far HNE.out AV.toArray
            have hz1' := hz1.setRow AV
            refine hK.out _ _ (hHeld.setRow (.inr hg1) _) (fun hHeld => ?_)
            clear hK K
            try simp only [Act.put, List.setIfInBounds_toArray, List.set_cons_zero, List.set_cons_succ]
            refine wpAnyH_ready (rs := [15]) (by kernel_rfl) (by simp) ?_
            refine (AllReadyH.cons (o := ⟨none, _, _, _, _, _⟩) rfl (fun K hK => ?_) AllReadyH.nil)
            
            refine stepH_store rfl 23 _ _ rfl DV rfl rfl hz2' (by rw [HDL.out]; simp) HIN.out HD1.out ?_
            have hzb := hz2'.setRow DV
            have hza := hz1'.setRow_far HNE.out.symm DV.toArray
            refine hK.out _ _ (hHeld.setRow (.inr hg2) _) (fun hHeld => ?_)
            clear hK K
            try simp only [Act.put, List.setIfInBounds_toArray, List.set_cons_zero, List.set_cons_succ]
            refine wpAnyH_take (i := 16) (oi := ⟨some 18, _, _, _, _, _⟩) (v := ?_) rfl (by kernel_rfl) (by kernel_rfl) (by kernel_rfl) (fun _ _ _ h => h) (Or.inl ⟨by rfl, ?_⟩) hHeld ?_
            rotate_left
            · intro w' hSw
              go_simp
              first | done | rfl
            try simp only [Act.put, List.setIfInBounds_toArray, List.set_cons_zero, List.set_cons_succ]
            refine wpAnyH_done (by kernel_rfl) ?_ _
            have hPz := hP6.out hbase (Keeps.setRow (g := v6.heap.size) (Keeps.setRow (g := v6.heap.size + 1) (((Keeps.refl (fun i => W3.heap.size ≤ i ∧ i < (W3.drew).heap.size) v6).alloc (.cells (List.replicate 32 (Value.int .u8 0)).toArray 23)).alloc (.cells (List.replicate 32 (Value.int .u8 0)).toArray 23)) (.inr (by omega)) AV.toArray) (.inr (by omega)) DV.toArray) (fun _ h => h.1) (fun _ h => h.2)
            go_wp2_with fail
            go_meet
            refine ⟨_, _, B6, N, c6, rfl, rfl, rfl, Lib.hid ⟨hza, hzb, hPz, ?_, rfl⟩⟩
            intro g hgo
            obtain ⟨ho1, ho2⟩ := own_between hP6 g hgo
            have := hbase.size
            simp only [World.size_alloc, drew_size] at *
            skip
            skip
            exact ⟨by omega, by omega, by omega⟩
        · go_simp
          have hz1 := Blk.new (W3.drew) 23 (List.replicate 32 (Value.int .u8 0))
          have hg1 : W3.heap.size ≤ (W3.drew).heap.size := hHeld.size
          try simp only [World.size_alloc] at hz1 hg1
          refine hK.out _ _ (hHeld.alloc _) (fun hHeld => ?_)
          clear hK K
          try simp only [Act.put, List.setIfInBounds_toArray, List.set_cons_zero, List.set_cons_succ]
          refine wpAnyH_ready (rs := [7, 13]) (by kernel_rfl) (by simp) ?_
          refine (AllReadyH.cons (o := ⟨some 54, _, _, _, _, _⟩) rfl (fun K hK => ?_) (AllReadyH.cons (o := ⟨some 17, _, _, _, _, _⟩) rfl (fun K hK => ?_) AllReadyH.nil))
          · go_simp
            refine (HI.out _ hHeld).mono ?_
            rintro e v6 ⟨B6, c6, rfl, hP6⟩
            have hq6 := hHeld.trans hP6.keeps (fun _ _ h => h)
            have hbase := hHeld
            have hlt1 := hz1.lt
            replace hz1 := hP6.keeps.blk hz1 (fun h => h)
            refine hK.out _ _ hq6 (fun hHeld => ?_)
            clear hK K
            try simp only [Act.put, List.setIfInBounds_toArray, List.set_cons_zero, List.set_cons_succ]
            refine wpAnyH_take (i := 8) (oi := ⟨some 46, _, _, _, _, _⟩) (v := ?_) rfl (by kernel_rfl) (by kernel_rfl) (by kernel_rfl) (fun _ _ _ h => h) (Or.inl ⟨by rfl, ?_⟩) hHeld ?_
            rotate_left
            · intro w' hSw
              go_simp
              first | done | rfl
            try simp only [Act.put, List.setIfInBounds_toArray, List.set_cons_zero, List.set_cons_succ]
            refine wpAnyH_take (i := 9) (oi := ⟨some 55, _, _, _, _, _⟩) (v := ?_) rfl (by kernel_rfl) (by kernel_rfl) (by kernel_rfl) (fun _ _ _ h => h) (Or.inl ⟨by rfl, ?_⟩) hHeld ?_
            rotate_left
            · intro w' hSw
              go_simp
              first | done | rfl
            try simp only [Act.put, List.setIfInBounds_toArray, List.set_cons_zero, List.set_cons_succ]
            refine wpAnyH_take (i := 10) (oi := ⟨some 56, _, _, _, _, _⟩) (v := ?_) rfl (by kernel_rfl) (by kernel_rfl) (by kernel_rfl) (fun _ _ _ h => h) (Or.inl ⟨by rfl, ?_⟩) hHeld ?_
            rotate_left
            · intro w' hSw
              go_simp
              first | done | rfl
            try simp only [Act.put, List.setIfInBounds_toArray, List.set_cons_zero, List.set_cons_succ]
            refine wpAnyH_take (i := 11) (oi := ⟨some 57, _, _, _, _, _⟩) (v := ?_) rfl (by kernel_rfl) (by kernel_rfl) (by kernel_rfl) (fun _ _ _ h => h) (Or.inl ⟨by rfl, ?_⟩) hHeld ?_
            rotate_left
            · intro w' hSw
              go_simp
              first | done | rfl
            try simp only [Act.put, List.setIfInBounds_toArray, List.set_cons_zero, List.set_cons_succ]
            refine wpAnyH_ready (rs := [13]) (by kernel_rfl) (by simp) ?_
            refine (AllReadyH.cons (o := ⟨some 17, _, _, _, _, _⟩) rfl (fun K hK => ?_) AllReadyH.nil)
            go_simp
            have hz1w := hz1.lt
            try simp only [World.size_alloc] at hz1w
            replace hz1 := hz1.alloc (.cells (List.replicate 32 (Value.int .u8 0)).toArray 23)
            have hz2 := Blk.new (v6) 23 (List.replicate 32 (Value.int .u8 0))
            have hg2 : W3.heap.size ≤ (v6).heap.size := hHeld.size
            try simp only [World.size_alloc] at hz2 hg2
            refine hK.out _ _ (hHeld.alloc _) (fun hHeld => ?_)
            clear hK K
            try simp only [Act.put, List.setIfInBounds_toArray, List.set_cons_zero, List.set_cons_succ]
            refine wpAnyH_ready (rs := [14]) (by kernel_rfl) (by simp) ?_
            refine (AllReadyH.cons (o := ⟨none, _, _, _, _, _⟩) rfl (fun K hK => ?_) AllReadyH.nil)
            have HNE := Lib.hid (Nat.ne_of_gt (hz1w))
            refine stepH_store rfl 23 _ _ rfl AV rfl rfl hz1 (by rw [HAL.out]; simp) HIA.out HA1.out ?_
            have hz2' := hz2.setRow_far HNE.out AV.toArray
            have hz1' := hz1.setRow AV
            refine hK.out _ _ (hHeld.setRow (.inr hg1) _) (fun hHeld => ?_)
            clear hK K
            try simp only [Act.put, List.setIfInBounds_toArray, List.set_cons_zero, List.set_cons_succ]
            refine wpAnyH_ready (rs := [15]) (by kernel_rfl) (by simp) ?_
            refine (AllReadyH.cons (o := ⟨none, _, _, _, _, _⟩) rfl (fun K hK => ?_) AllReadyH.nil)
            
            refine stepH_store rfl 23 _ _ rfl DV rfl rfl hz2' (by rw [HDL.out]; simp) HIN.out HD1.out ?_
            have hzb := hz2'.setRow DV
            have hza := hz1'.setRow_far HNE.out.symm DV.toArray
            refine hK.out _ _ (hHeld.setRow (.inr hg2) _) (fun hHeld => ?_)
            clear hK K
            try simp only [Act.put, List.setIfInBounds_toArray, List.set_cons_zero, List.set_cons_succ]
            refine wpAnyH_take (i := 16) (oi := ⟨some 18, _, _, _, _, _⟩) (v := ?_) rfl (by kernel_rfl) (by kernel_rfl) (by kernel_rfl) (fun _ _ _ h => h) (Or.inl ⟨by rfl, ?_⟩) hHeld ?_
            rotate_left
            · intro w' hSw
              go_simp
              first | done | rfl
            try simp only [Act.put, List.setIfInBounds_toArray, List.set_cons_zero, List.set_cons_succ]
            refine wpAnyH_done (by kernel_rfl) ?_ _
            have hPz := hP6.out hbase (Keeps.setRow (g := v6.heap.size) (Keeps.setRow (g := W3.drew.heap.size) ((Keeps.refl (fun i => W3.heap.size ≤ i ∧ i < ((W3.drew).alloc (.cells (List.replicate 32 (Value.int .u8 0)).toArray 23)).heap.size) v6).alloc (.cells (List.replicate 32 (Value.int .u8 0)).toArray 23)) (.inl ⟨hg1, hlt1⟩) AV.toArray) (.inr (by omega)) DV.toArray) (fun _ h => h.1) (fun _ h => h.2)
            go_wp2_with fail
            go_meet
            refine ⟨_, _, B6, N, c6, rfl, rfl, rfl, Lib.hid ⟨hza, hzb, hPz, ?_, rfl⟩⟩
            intro g hgo
            obtain ⟨ho1, ho2⟩ := own_between hP6 g hgo
            have := hbase.size
            simp only [World.size_alloc, drew_size] at *
            have := hlt1
            skip
            exact ⟨by omega, by omega, by omega⟩
          · go_simp
            have hz1w := hz1.lt
            try simp only [World.size_alloc] at hz1w
            replace hz1 := hz1.alloc (.cells (List.replicate 32 (Value.int .u8 0)).toArray 23)
            have hz2 := Blk.new ((W3.drew).alloc (.cells (List.replicate 32 (Value.int .u8 0)).toArray 23)) 23 (List.replicate 32 (Value.int .u8 0))
            have hg2 : W3.heap.size ≤ ((W3.drew).alloc (.cells (List.replicate 32 (Value.int .u8 0)).toArray 23)).heap.size := hHeld.size
            try simp only [World.size_alloc] at hz2 hg2
            refine hK.out _ _ (hHeld.alloc _) (fun hHeld => ?_)
            clear hK K
            try simp only [Act.put, List.setIfInBounds_toArray, List.set_cons_zero, List.set_cons_succ]
            refine wpAnyH_ready (rs := [7]) (by kernel_rfl) (by simp) ?_
            refine (AllReadyH.cons (o := ⟨some 54, _, _, _, _, _⟩) rfl (fun K hK => ?_) AllReadyH.nil)
            go_simp
            refine (HI.out _ hHeld).mono ?_
            rintro e v6 ⟨B6, c6, rfl, hP6⟩
            have hq6 := hHeld.trans hP6.keeps (fun _ _ h => h)
            have hbase := hHeld
            have hlt1 := hz1.lt
            have hlt2 := hz2.lt
            replace hz1 := hP6.keeps.blk hz1 (fun h => h)
            replace hz2 := hP6.keeps.blk hz2 (fun h => h)
            refine hK.out _ _ hq6 (fun hHeld => ?_)
            clear hK K
            try simp only [Act.put, List.setIfInBounds_toArray, List.set_cons_zero, List.set_cons_succ]
            refine wpAnyH_take (i := 8) (oi := ⟨some 46, _, _, _, _, _⟩) (v := ?_) rfl (by kernel_rfl) (by kernel_rfl) (by kernel_rfl) (fun _ _ _ h => h) (Or.inl ⟨by rfl, ?_⟩) hHeld ?_
            rotate_left
            · intro w' hSw
              go_simp
              first | done | rfl
            try simp only [Act.put, List.setIfInBounds_toArray, List.set_cons_zero, List.set_cons_succ]
            refine wpAnyH_take (i := 9) (oi := ⟨some 55, _, _, _, _, _⟩) (v := ?_) rfl (by kernel_rfl) (by kernel_rfl) (by kernel_rfl) (fun _ _ _ h => h) (Or.inl ⟨by rfl, ?_⟩) hHeld ?_
            rotate_left
            · intro w' hSw
              go_simp
              first | done | rfl
            try simp only [Act.put, List.setIfInBounds_toArray, List.set_cons_zero, List.set_cons_succ]
            refine wpAnyH_take (i := 10) (oi := ⟨some 56, _, _, _, _, _⟩) (v := ?_) rfl (by kernel_rfl) (by kernel_rfl) (by kernel_rfl) (fun _ _ _ h => h) (Or.inl ⟨by rfl, ?_⟩) hHeld ?_
            rotate_left
            · intro w' hSw
              go_simp
              first | done | rfl
            try simp only [Act.put, List.setIfInBounds_toArray, List.set_cons_zero, List.set_cons_succ]
            refine wpAnyH_take (i := 11) (oi := ⟨some 57, _, _, _, _, _⟩) (v := ?_) rfl (by kernel_rfl) (by kernel_rfl) (by kernel_rfl) (fun _ _ _ h => h) (Or.inl ⟨by rfl, ?_⟩) hHeld ?_
            rotate_left
            · intro w' hSw
              go_simp
              first | done | rfl
            try simp only [Act.put, List.setIfInBounds_toArray, List.set_cons_zero, List.set_cons_succ]
            refine wpAnyH_ready (rs := [14]) (by kernel_rfl) (by simp) ?_
            refine (AllReadyH.cons (o := ⟨none, _, _, _, _, _⟩) rfl (fun K hK => ?_) AllReadyH.nil)
            have HNE := Lib.hid (Nat.ne_of_gt (hz1w))
            refine stepH_store rfl 23 _ _ rfl AV rfl rfl hz1 (by rw [HAL.out]; simp) HIA.out HA1.out ?_
            have hz2' := hz2.setRow_far HNE.out AV.toArray
            have hz1' := hz1.setRow AV
            refine hK.out _ _ (hHeld.setRow (.inr hg1) _) (fun hHeld => ?_)
            clear hK K
            try simp only [Act.put, List.setIfInBounds_toArray, List.set_cons_zero, List.set_cons_succ]
            refine wpAnyH_ready (rs := [15]) (by kernel_rfl) (by simp) ?_
            refine (AllReadyH.cons (o := ⟨none, _, _, _, _, _⟩) rfl (fun K hK => ?_) AllReadyH.nil)
            
            refine stepH_store rfl 23 _ _ rfl DV rfl rfl hz2' (by rw [HDL.out]; simp) HIN.out HD1.out ?_
            have hzb := hz2'.setRow DV
            have hza := hz1'.setRow_far HNE.out.symm DV.toArray
            refine hK.out _ _ (hHeld.setRow (.inr hg2) _) (fun hHeld => ?_)
            clear hK K
            try simp only [Act.put, List.setIfInBounds_toArray, List.set_cons_zero, List.set_cons_succ]
            refine wpAnyH_take (i := 16) (oi := ⟨some 18, _, _, _, _, _⟩) (v := ?_) rfl (by kernel_rfl) (by kernel_rfl) (by kernel_rfl) (fun _ _ _ h => h) (Or.inl ⟨by rfl, ?_⟩) hHeld ?_
            rotate_left
            · intro w' hSw
              go_simp
              first | done | rfl
            try simp only [Act.put, List.setIfInBounds_toArray, List.set_cons_zero, List.set_cons_succ]
            refine wpAnyH_done (by kernel_rfl) ?_ _
            have hPz := hP6.out hbase (Keeps.setRow (g := W3.drew.heap.size + 1) (Keeps.setRow (g := W3.drew.heap.size) (Keeps.refl (fun i => W3.heap.size ≤ i ∧ i < (((W3.drew).alloc (.cells (List.replicate 32 (Value.int .u8 0)).toArray 23)).alloc (.cells (List.replicate 32 (Value.int .u8 0)).toArray 23)).heap.size) v6) (.inl ⟨hg1, hlt1⟩) AV.toArray) (.inl ⟨hg2, hlt2⟩) DV.toArray) (fun _ h => h.1) (fun _ h => h.2)
            go_wp2_with fail
            go_meet
            refine ⟨_, _, B6, N, c6, rfl, rfl, rfl, Lib.hid ⟨hza, hzb, hPz, ?_, rfl⟩⟩
            intro g hgo
            obtain ⟨ho1, ho2⟩ := own_between hP6 g hgo
            have := hbase.size
            simp only [World.size_alloc, drew_size] at *
            have := hlt1
            have := hlt2
            exact ⟨by omega, by omega, by omega⟩
        · go_simp
          have hz2 := Blk.new (W3.drew) 23 (List.replicate 32 (Value.int .u8 0))
          have hg2 : W3.heap.size ≤ (W3.drew).heap.size := hHeld.size
          try simp only [World.size_alloc] at hz2 hg2
          refine hK.out _ _ (hHeld.alloc _) (fun hHeld => ?_)
          clear hK K
          try simp only [Act.put, List.setIfInBounds_toArray, List.set_cons_zero, List.set_cons_succ]
          refine wpAnyH_ready (rs := [7, 12]) (by kernel_rfl) (by simp) ?_
          refine (AllReadyH.cons (o := ⟨some 54, _, _, _, _, _⟩) rfl (fun K hK => ?_) (AllReadyH.cons (o := ⟨some 16, _, _, _, _, _⟩) rfl (fun K hK => ?_) AllReadyH.nil))
          · go_simp
            refine (HI.out _ hHeld).mono ?_
            rintro e v6 ⟨B6, c6, rfl, hP6⟩
            have hq6 := hHeld.trans hP6.keeps (fun _ _ h => h)
            have hbase := hHeld
            have hlt2 := hz2.lt
            replace hz2 := hP6.keeps.blk hz2 (fun h => h)
            refine hK.out _ _ hq6 (fun hHeld => ?_)
            clear hK K
            try simp only [Act.put, List.setIfInBounds_toArray, List.set_cons_zero, List.set_cons_succ]
            refine wpAnyH_take (i := 8) (oi := ⟨some 46, _, _, _, _, _⟩) (v := ?_) rfl (by kernel_rfl) (by kernel_rfl) (by kernel_rfl) (fun _ _ _ h => h) (Or.inl ⟨by rfl, ?_⟩) hHeld ?_
            rotate_left
            · intro w' hSw
              go_simp
              first | done | rfl
            try simp only [Act.put, List.setIfInBounds_toArray, List.set_cons_zero, List.set_cons_succ]
            refine wpAnyH_take (i := 9) (oi := ⟨some 55, _, _, _, _, _⟩) (v := ?_) rfl (by kernel_rfl) (by kernel_rfl) (by kernel_rfl) (fun _ _ _ h => h) (Or.inl ⟨by rfl, ?_⟩) hHeld ?_
            rotate_left
            · intro w' hSw
              go_simp
              first | done | rfl
            try simp only [Act.put, List.setIfInBounds_toArray, List.set_cons_zero, List.set_cons_succ]
            refine wpAnyH_take (i := 10) (oi := ⟨some 56, _, _, _, _, _⟩) (v := ?_) rfl (by kernel_rfl) (by kernel_rfl) (by kernel_rfl) (fun _ _ _ h => h) (Or.inl ⟨by rfl, ?_⟩) hHeld ?_
            rotate_left
            · intro w' hSw
              go_simp
              first | done | rfl
            try simp only [Act.put, List.setIfInBounds_toArray, List.set_cons_zero, List.set_cons_succ]
            refine wpAnyH_take (i := 11) (oi := ⟨some 57, _, _, _, _, _⟩) (v := ?_) rfl (by kernel_rfl) (by kernel_rfl) (by kernel_rfl) (fun _ _ _ h => h) (Or.inl ⟨by rfl, ?_⟩) hHeld ?_
            rotate_left
            · intro w' hSw
              go_simp
              first | done | rfl
            try simp only [Act.put, List.setIfInBounds_toArray, List.set_cons_zero, List.set_cons_succ]
            refine wpAnyH_ready (rs := [12]) (by kernel_rfl) (by simp) ?_
            refine (AllReadyH.cons (o := ⟨some 16, _, _, _, _, _⟩) rfl (fun K hK => ?_) AllReadyH.nil)
            go_simp
            have hz2w := hz2.lt
            try simp only [World.size_alloc] at hz2w
            replace hz2 := hz2.alloc (.cells (List.replicate 32 (Value.int .u8 0)).toArray 23)
            have hz1 := Blk.new (v6) 23 (List.replicate 32 (Value.int .u8 0))
            have hg1 : W3.heap.size ≤ (v6).heap.size := hHeld.size
            try simp only [World.size_alloc] at hz1 hg1
            refine hK.out _ _ (hHeld.alloc _) (fun hHeld => ?_)
            clear hK K
            try simp only [Act.put, List.setIfInBounds_toArray, List.set_cons_zero, List.set_cons_succ]
            refine wpAnyH_ready (rs := [14]) (by kernel_rfl) (by simp) ?_
            refine (AllReadyH.cons (o := ⟨none, _, _, _, _, _⟩) rfl (fun K hK => ?_) AllReadyH.nil)
            have HNE := Lib.hid (Nat.ne_of_lt (hz2w))
            refine stepH_store rfl 23 _ _ rfl AV rfl rfl hz1 (by rw [HAL.out]; simp) HIA.out HA1.out ?_
            have hz2' := hz2.setRow_far HNE.out AV.toArray
            have hz1' := hz1.setRow AV
            refine hK.out _ _ (hHeld.setRow (.inr hg1) _) (fun hHeld => ?_)
            clear hK K
            try simp only [Act.put, List.setIfInBounds_toArray, List.set_cons_zero, List.set_cons_succ]
            refine wpAnyH_ready (rs := [15]) (by kernel_rfl) (by simp) ?_
            refine (AllReadyH.cons (o := ⟨none, _, _, _, _, _⟩) rfl (fun K hK => ?_) AllReadyH.nil)
            
            refine stepH_store rfl 23 _ _ rfl DV rfl rfl hz2' (by rw [HDL.out]; simp) HIN.out HD1.out ?_
            have hzb := hz2'.setRow DV
            have hza := hz1'.setRow_far HNE.out.symm DV.toArray
            refine hK.out _ _ (hHeld.setRow (.inr hg2) _) (fun hHeld => ?_)
            clear hK K
            try simp only [Act.put, List.setIfInBounds_toArray, List.set_cons_zero, List.set_cons_succ]
            refine wpAnyH_take (i := 16) (oi := ⟨some 18, _, _, _, _, _⟩) (v := ?_) rfl (by kernel_rfl) (by kernel_rfl) (by kernel_rfl) (fun _ _ _ h => h) (Or.inl ⟨by rfl, ?_⟩) hHeld ?_
            rotate_left
            · intro w' hSw
              go_simp
              first | done | rfl
            try simp only [Act.put, List.setIfInBounds_toArray, List.set_cons_zero, List.set_cons_succ]
            refine wpAnyH_done (by kernel_rfl) ?_ _
            have hPz := hP6.out hbase (Keeps.setRow (g := W3.drew.heap.size) (Keeps.setRow (g := v6.heap.size) ((Keeps.refl (fun i => W3.heap.size ≤ i ∧ i < ((W3.drew).alloc (.cells (List.replicate 32 (Value.int .u8 0)).toArray 23)).heap.size) v6).alloc (.cells (List.replicate 32 (Value.int .u8 0)).toArray 23)) (.inr (by omega)) AV.toArray) (.inl ⟨hg2, hlt2⟩) DV.toArray) (fun _ h => h.1) (fun _ h => h.2)
            go_wp2_with fail
            go_meet
            refine ⟨_, _, B6, N, c6, rfl, rfl, rfl, Lib.hid ⟨hza, hzb, hPz, ?_, rfl⟩⟩
            intro g hgo
            obtain ⟨ho1, ho2⟩ := own_between hP6 g hgo
            have := hbase.size
            simp only [World.size_alloc, drew_size] at *
            skip
            have := hlt2
            exact ⟨by omega, by omega, by omega⟩
          · go_simp
            have hz2w := hz2.lt
            try simp only [World.size_alloc] at hz2w
            replace hz2 := hz2.alloc (.cells (List.replicate 32 (Value.int .u8 0)).toArray 23)
            have hz1 := Blk.new ((W3.drew).alloc (.cells (List.replicate 32 (Value.int .u8 0)).toArray 23)) 23 (List.replicate 32 (Value.int .u8 0))
            have hg1 : W3.heap.size ≤ ((W3.drew).alloc (.cells (List.replicate 32 (Value.int .u8 0)).toArray 23)).heap.size := hHeld.size
            try simp only [World.size_alloc] at hz1 hg1
            refine hK.out _ _ (hHeld.alloc _) (fun hHeld => ?_)
            clear hK K
            try simp only [Act.put, List.setIfInBounds_toArray, List.set_cons_zero, List.set_cons_succ]
            refine wpAnyH_ready (rs := [7]) (by kernel_rfl) (by simp) ?_
            refine (AllReadyH.cons (o := ⟨some 54, _, _, _, _, _⟩) rfl (fun K hK => ?_) AllReadyH.nil)
            go_simp
            refine (HI.out _ hHeld).mono ?_
            rintro e v6 ⟨B6, c6, rfl, hP6⟩
            have hq6 := hHeld.trans hP6.keeps (fun _ _ h => h)
            have hbase := hHeld
            have hlt1 := hz1.lt
            have hlt2 := hz2.lt
            replace hz1 := hP6.keeps.blk hz1 (fun h => h)
            replace hz2 := hP6.keeps.blk hz2 (fun h => h)
            refine hK.out _ _ hq6 (fun hHeld => ?_)
            clear hK K
            try simp only [Act.put, List.setIfInBounds_toArray, List.set_cons_zero, List.set_cons_succ]
            refine wpAnyH_take (i := 8) (oi := ⟨some 46, _, _, _, _, _⟩) (v := ?_) rfl (by kernel_rfl) (by kernel_rfl) (by kernel_rfl) (fun _ _ _ h => h) (Or.inl ⟨by rfl, ?_⟩) hHeld ?_
            rotate_left
            · intro w' hSw
              go_simp
              first | done | rfl
            try simp only [Act.put, List.setIfInBounds_toArray, List.set_cons_zero, List.set_cons_succ]
            refine wpAnyH_take (i := 9) (oi := ⟨some 55, _, _, _, _, _⟩) (v := ?_) rfl (by kernel_rfl) (by kernel_rfl) (by kernel_rfl) (fun _ _ _ h => h) (Or.inl ⟨by rfl, ?_⟩) hHeld ?_
            rotate_left
            · intro w' hSw
              go_simp
              first | done | rfl
            try simp only [Act.put, List.setIfInBounds_toArray, List.set_cons_zero, List.set_cons_succ]
            refine wpAnyH_take (i := 10) (oi := ⟨some 56, _, _, _, _, _⟩) (v := ?_) rfl (by kernel_rfl) (by kernel_rfl) (by kernel_rfl) (fun _ _ _ h => h) (Or.inl ⟨by rfl, ?_⟩) hHeld ?_
            rotate_left
            · intro w' hSw
              go_simp
              first | done | rfl
            try simp only [Act.put, List.setIfInBounds_toArray, List.set_cons_zero, List.set_cons_succ]
            refine wpAnyH_take (i := 11) (oi := ⟨some 57, _, _, _, _, _⟩) (v := ?_) rfl (by kernel_rfl) (by kernel_rfl) (by kernel_rfl) (fun _ _ _ h => h) (Or.inl ⟨by rfl, ?_⟩) hHeld ?_
            rotate_left
            · intro w' hSw
              go_simp
              first | done | rfl
            try simp only [Act.put, List.setIfInBounds_toArray, List.set_cons_zero, List.set_cons_succ]
            refine wpAnyH_ready (rs := [14]) (by kernel_rfl) (by simp) ?_
            refine (AllReadyH.cons (o := ⟨none, _, _, _, _, _⟩) rfl (fun K hK => ?_) AllReadyH.nil)
            have HNE := Lib.hid (Nat.ne_of_lt (hz2w))
            refine stepH_store rfl 23 _ _ rfl AV rfl rfl hz1 (by rw [HAL.out]; simp) HIA.out HA1.out ?_
            have hz2' := hz2.setRow_far HNE.out AV.toArray
            have hz1' := hz1.setRow AV
            refine hK.out _ _ (hHeld.setRow (.inr hg1) _) (fun hHeld => ?_)
            clear hK K
            try simp only [Act.put, List.setIfInBounds_toArray, List.set_cons_zero, List.set_cons_succ]
            refine wpAnyH_ready (rs := [15]) (by kernel_rfl) (by simp) ?_
            refine (AllReadyH.cons (o := ⟨none, _, _, _, _, _⟩) rfl (fun K hK => ?_) AllReadyH.nil)
            
            refine stepH_store rfl 23 _ _ rfl DV rfl rfl hz2' (by rw [HDL.out]; simp) HIN.out HD1.out ?_
            have hzb := hz2'.setRow DV
            have hza := hz1'.setRow_far HNE.out.symm DV.toArray
            refine hK.out _ _ (hHeld.setRow (.inr hg2) _) (fun hHeld => ?_)
            clear hK K
            try simp only [Act.put, List.setIfInBounds_toArray, List.set_cons_zero, List.set_cons_succ]
            refine wpAnyH_take (i := 16) (oi := ⟨some 18, _, _, _, _, _⟩) (v := ?_) rfl (by kernel_rfl) (by kernel_rfl) (by kernel_rfl) (fun _ _ _ h => h) (Or.inl ⟨by rfl, ?_⟩) hHeld ?_
            rotate_left
            · intro w' hSw
              go_simp
              first | done | rfl
            try simp only [Act.put, List.setIfInBounds_toArray, List.set_cons_zero, List.set_cons_succ]
            refine wpAnyH_done (by kernel_rfl) ?_ _
            have hPz := hP6.out hbase (Keeps.setRow (g := W3.drew.heap.size) (Keeps.setRow (g := W3.drew.heap.size + 1) (Keeps.refl (fun i => W3.heap.size ≤ i ∧ i < (((W3.drew).alloc (.cells (List.replicate 32 (Value.int .u8 0)).toArray 23)).alloc (.cells (List.replicate 32 (Value.int .u8 0)).toArray 23)).heap.size) v6) (.inl ⟨hg1, hlt1⟩) AV.toArray) (.inl ⟨hg2, hlt2⟩) DV.toArray) (fun _ h => h.1) (fun _ h => h.2)
            go_wp2_with fail
            go_meet
            refine ⟨_, _, B6, N, c6, rfl, rfl, rfl, Lib.hid ⟨hza, hzb, hPz, ?_, rfl⟩⟩
            intro g hgo
            obtain ⟨ho1, ho2⟩ := own_between hP6 g hgo
            have := hbase.size
            simp only [World.size_alloc, drew_size] at *
            have := hlt1
            have := hlt2
            exact ⟨by omega, by omega, by omega⟩
      case rest =>
        obtain ⟨ga, gd, B6, N6, c6, rfl, rfl, rfl, HX⟩ := hcut
        have hNN := HX.out.2.2.2.2.symm
        subst hNN
        have HO := Lib.hid HX.out.2.2.2.1
        have HRA : Hid (∀ W, Keeps (fun i => (Value.slice B6 N c6).ownBlock = some i) wc W → W.rangeAt ga 0 AV) := Lib.hid fun W hW j v hv => by rw [Nat.zero_add, (hW.blk HX.out.1 (fun h => (HO.out _ h).1 rfl)).cell]; exact hv
        have HRD : Hid (∀ W, Keeps (fun i => (Value.slice B6 N c6).ownBlock = some i) wc W → W.rangeAt gd 0 DV) := Lib.hid fun W hW j v hv => by rw [Nat.zero_add, (hW.blk HX.out.2.1 (fun h => (HO.out _ h).2.1 rfl)).cell]; exact hv
        have HRP : Hid (∀ W, Keeps (fun i => (Value.slice B6 N c6).ownBlock = some i) wc W → W.rangeAt W1.heap.size 0 EV) := Lib.hid fun W hW j v hv => by rw [Nat.zero_add, (hW.blk (HX.out.2.2.1.keeps.blk HBE.out (fun h => h)) (fun h => by have := (HO.out _ h).2.2; have := HBE.out.lt; omega)).cell]; exact hv
        replace HZ1 := Lib.hid (HK3.out.blk HZ1.out (fun h => h))
        replace HZ2 := Lib.hid (HK3.out.blk HZ2.out (fun h => h))
        replace HPA := Lib.hid (HPA.out wc)
        replace HPR := Lib.hid (HPR.out wc)
        replace HEL := Lib.hid (HEL.out wc)
        go_upto_region 10 with fail
        refine wp_region_tail (S := Keeps (fun i => (Value.slice B6 N c6).ownBlock = some i) wc) 10 (by kernel_rfl) (Keeps.refl _ _).drew (fun hHeld => ?_)
        refine wpAnyT_take [0] (i := 0) (oi := ⟨some 58, _, _, _, _, _⟩) (v := _) rfl (by kernel_rfl) (by kernel_rfl) (by kernel_rfl) (by kernel_rfl) (by kernel_rfl) (fun _ _ _ h => h) (yieldsIf_load_mid (by rfl) _ _ rfl _ _ rfl AV _ (fun w' h => HRA.out _ h) Tryd.underlying23 rfl HIA.out) hHeld ?_
        try simp only [Act.put, List.setIfInBounds_toArray, List.set_cons_zero, List.set_cons_succ]
        refine wpAnyT_take [1, 3, 7, 9] (i := 1) (oi := ⟨some 59, _, _, _, _, _⟩) (v := _) rfl (by kernel_rfl) (by kernel_rfl) (by kernel_rfl) (by kernel_rfl) (by kernel_rfl) (fun _ _ _ h => h) (yieldsIf_load_mid (by rfl) _ _ rfl _ _ rfl DV _ (fun w' h => HRD.out _ h) Tryd.underlying23 rfl HIN.out) hHeld ?_
        try simp only [Act.put, List.setIfInBounds_toArray, List.set_cons_zero, List.set_cons_succ]
        refine wpAnyT_take [2, 3, 7, 9] (i := 2) (oi := ⟨some 60, _, _, _, _, _⟩) (v := _) rfl (by kernel_rfl) (by kernel_rfl) (by kernel_rfl) (by kernel_rfl) (by kernel_rfl) (fun _ _ _ h => h) (yieldsIf_load_mid (by rfl) _ _ rfl _ _ rfl EV _ (fun w' h => HRP.out _ h) Tryd.underlying23 rfl HIE.out) hHeld ?_
        try simp only [Act.put, List.setIfInBounds_toArray, List.set_cons_zero, List.set_cons_succ]
        refine wpAnyT_pure (i := 4) (oi := ⟨some 62, _, _, _, _, _⟩) (v := ?_) rfl (by kernel_rfl) (by kernel_rfl) (by kernel_rfl) (fun _ _ _ h => h) (Or.inl ⟨by rfl, ?_⟩) ?_
        rotate_left
        · intro w' hSw
          go_simp
          first | done | rfl
        try simp only [Act.put, List.setIfInBounds_toArray, List.set_cons_zero, List.set_cons_succ]
        refine wpAnyT_take [5, 7, 9, 10] (i := 5) (oi := ⟨some 63, _, _, _, _, _⟩) (v := _) rfl (by kernel_rfl) (by kernel_rfl) (by kernel_rfl) (by kernel_rfl) (by kernel_rfl) (fun _ _ _ h => h) (yieldsIf_load_mid (by rfl) _ _ rfl _ _ rfl DV _ (fun w' h => HRD.out _ h) Tryd.underlying23 rfl HIN.out) hHeld ?_
        try simp only [Act.put, List.setIfInBounds_toArray, List.set_cons_zero, List.set_cons_succ]
        refine wpAnyT_take [6, 7, 9, 10] (i := 6) (oi := ⟨some 64, _, _, _, _, _⟩) (v := _) rfl (by kernel_rfl) (by kernel_rfl) (by kernel_rfl) (by kernel_rfl) (by kernel_rfl) (fun _ _ _ h => h) (yieldsIf_load_mid (by rfl) _ _ rfl _ _ rfl EV _ (fun w' h => HRP.out _ h) Tryd.underlying23 rfl HIE.out) hHeld ?_
        try simp only [Act.put, List.setIfInBounds_toArray, List.set_cons_zero, List.set_cons_succ]
        refine wpAnyT_step (i := 3) (o := ⟨some 61, _, _, _, _, _⟩) (by kernel_rfl) rfl (fun K hK => ?_)
        go_simp
        refine (HPA.out _ (Keeps.refl _ _).drew).mono ?_
        rintro e v5 ⟨rfl, hk5⟩
        have hq5 := hHeld.trans hk5 (fun _ _ h => h.elim)
        have hf5 := ((Keeps.refl (fun _ => False) wc).drew).trans hk5 (fun _ _ h => h)
        refine hK.out _ _ hq5 (fun hHeld => ?_)
        clear hK K
        try simp only [Act.put, List.setIfInBounds_toArray, List.set_cons_zero, List.set_cons_succ]
        refine wpAnyT_step (i := 7) (o := ⟨some 65, _, _, _, _, _⟩) (by kernel_rfl) rfl (fun K hK => ?_)
        go_simp
        refine (HPR.out _ hf5).mono ?_
        rintro e v7 ⟨A7, c7, rfl, hM7⟩
        have hq7 := hHeld.trans hM7.2.1 (fun _ _ h => h.elim)
        have hf7 := hf5.trans hM7.2.1 (fun _ _ h => h)
        have HE7 := HEL.out _ v7 A7 c7 hf5 hM7
        refine hK.out _ _ hq7 (fun hHeld => ?_)
        clear hK K
        try simp only [Act.put, List.setIfInBounds_toArray, List.set_cons_zero, List.set_cons_succ]
        refine wpAnyT_step (i := 8) (o := ⟨some 66, _, _, _, _, _⟩) (by kernel_rfl) rfl (fun K hK => ?_)
        go_simp
        refine hK.out _ _ (hHeld.alloc _) (fun hHeld => ?_)
        clear hK K
        try simp only [Act.put, List.setIfInBounds_toArray, List.set_cons_zero, List.set_cons_succ]
        refine wpAnyT_step (i := 9) (o := ⟨some 67, _, _, _, _, _⟩) (by kernel_rfl) rfl (fun K hK => ?_)
        refine step_append_rows W3 wc rfl (.tmp 62) (.tmp 66) 26 rfl 22 (.slice none 0 0) Tryd.underlying26 infoRows rfl B6 N c6 RS rfl HX.out.2.2.1 (hf7.alloc (.cells #[Value.slice A7 65 c7] 22)) ⟨v7.heap.size, 0, none⟩ 1 1 [ROW] [Value.slice A7 65 c7] rfl rfl (cell_one_new v7 _ _) (HE7.keep ((Keeps.refl (fun _ => False) v7).alloc _) (fun _ _ h => h)) (by intro x hx; rw [List.mem_singleton.1 hx]; rfl) (by omega) ?_
        intro B9 c9 v9 hP9 hg9
        refine hK.out _ _ (hHeld.grown hg9 (fun g h => .inl h)) (fun hHeld => ?_)
        clear hK K
        try simp only [Act.put, List.setIfInBounds_toArray, List.set_cons_zero, List.set_cons_succ]
        refine wpAnyT_tail (i := 10) (o := ⟨none, _, _, _, _, _⟩) (by kernel_rfl) (by kernel_rfl) rfl (fun K hK => ?_)
        
        refine stepH_store rfl 23 _ _ rfl AV rfl rfl (hP9.keeps.blk HZ1.out (fun h => h)) (by rw [HAL.out]; simp) HIA.out HA1.out ?_
        have hb2 := (hP9.keeps.blk HZ2.out (fun h => h)).setRow_far (by omega : w.heap.size + 1 + 1 ≠ w.heap.size + 1) AV.toArray
        have hb1 := (hP9.keeps.blk HZ1.out (fun h => h)).setRow AV
        refine hK.out _ _ ?_
        clear hK K
        try simp only [Act.put, List.setIfInBounds_toArray, List.set_cons_zero, List.set_cons_succ]
        refine wpAnyT_tail (i := 11) (o := ⟨none, _, _, _, _, _⟩) (by kernel_rfl) (by kernel_rfl) rfl (fun K hK => ?_)
        
        refine stepH_store rfl 23 _ _ rfl FV rfl rfl hb2 (by rw [HFL.out]; simp) HIF.out HF1.out ?_
        refine hK.out _ _ ?_
        clear hK K
        try simp only [Act.put, List.setIfInBounds_toArray, List.set_cons_zero, List.set_cons_succ]
        refine wpAnyT_tail (i := 12) (o := ⟨some 12, _, _, _, _, _⟩) (by kernel_rfl) (by kernel_rfl) rfl (fun K hK => ?_)
        go_simp
        refine hK.out _ _ ?_
        clear hK K
        try simp only [Act.put, List.setIfInBounds_toArray, List.set_cons_zero, List.set_cons_succ]
        refine wpAnyT_done (by kernel_rfl) ?_
        go_wp2
        refine bodyPost_ret (results_blk2_tmp rfl _ _ rfl rfl (hb1.setRow_far (by omega : w.heap.size + 1 ≠ w.heap.size + 1 + 1) FV.toArray) (hb2.setRow FV) Tryd.underlying23 rfl HIA.out HIF.out) rfl ⟨B9, c9, rfl, ?_⟩
        exact hP9.out HK13.out (((Keeps.refl (fun i => i = w.heap.size + 1 ∨ i = w.heap.size + 1 + 1) v9).setRow (.inl (.inl rfl)) _).setRow (.inl (.inr rfl)) _) (fun g e => by omega) (fun g e => by have := HZ1.out.lt; have := HZ2.out.lt; have := HK3.out.size; omega)
    · skip
      rw [if_neg hik] at e0
      have e1 : (gwayF m n b).2 = (gwayF (m - k) (n - k) false).2 := by rw [e0]; exact (gway_false _ _).symm
      have e2 : (gwayF m n b).1 = (gwayF (m - k) (n - k) false).1 ++ [false] := by rw [e0]
      rw [e1] at hpre
      rw [e2] at hps ⊢
      clear e0 e1 e2
      obtain ⟨L, hL⟩ : ∃ L, (gwayF (m - k) (n - k) false).1.length = L := ⟨_, rfl⟩
      have hL53 : L ≤ 53 := by rw [← hL]; exact gway_short _ _ 53 _ (by omega)
      rw [List.length_append, hL] at hps
      obtain ⟨ps', d, rfl, hps'⟩ := snoc_of ps L hps
      have hpl : pre.length ≤ 1 := by rcases hpre with ⟨_, h, _⟩ | ⟨_, h⟩ <;> (rw [h]; simp)
      obtain ⟨q, hq⟩ : ∃ q, pre.length + L = q := ⟨_, rfl⟩
      have hKL : K = q + 1 := by have := hr.1; simp only [List.length_append, List.length_singleton] at this; omega
      subst hKL
      have hdp : IsDigs ps' := fun x hx => hr.2.1 x (by simp [hx])
      have hdd : IsDig d := hr.2.1 d (by simp)
      have hcl := climb2_dig (s, s) (gwayF (m - k) (n - k) false).1 ps' hs hs hdp
      have hlen2 : (gwayF (m - k) (n - k) false).1.length = ps'.length := by omega
      rw [climb2_snoc _ _ _ _ _ hlen2, gupRows_snoc _ _ _ _ _ hlen2]
      simp only [if_true, if_false, Bool.false_eq_true]
      have hgl := gupRows_len (gwayF (m - k) (n - k) false).1 ps' (s, s)
      rw [hL] at hgl
      have hI : ∀ W, Keeps (fun _ => False) w W → Calls Tryd.prog 62 #[.int .i64 (m - k : Nat), .int .i64 (n - k : Nat), .bool false, .agg (vb old).toArray, .slice (cutD A c 0) q c] W fun e w' => ∃ B c', e = .returned (.tuple #[.agg (vb (climb2 (s, s) (gwayF (m - k) (n - k) false).1 ps').1).toArray, .agg (vb (climb2 (s, s) (gwayF (m - k) (n - k) false).1 ps').2).toArray, .slice B (gupRows (s, s) (gwayF (m - k) (n - k) false).1 ps').length c']) ∧ MineP W w' 22 B (gupRows (s, s) (gwayF (m - k) (n - k) false).1 ps').length c' (gupRows (s, s) (gwayF (m - k) (n - k) false).1 ps') := fun W hW => by
        have hrd : RdD W (cutD A c 0) q (pre ++ ps') := by
          have := ((hr.keep hW (no_out _ _)).take (k := q) (by omega)).cut (k := 0) (c := c) (by omega) (by omega)
          rw [List.drop_zero, ← List.append_assoc, List.take_left' (by rw [List.length_append]; omega)] at this
          exact this
        exact ih (n - k) (by omega) (m - k) false W old s (cutD A c 0) q c pre ps' (by omega) (by omega) (by omega) hold hs hpre hrd (by omega) (by omega)
      have hlp : ∃ g o, A = some ⟨g, o, none⟩ ∧ ∀ W, Keeps (fun _ => False) w W → Lies W g (o + q * 32) (vb d) := by
        obtain ⟨g, o, d', hA, hd', _⟩ := hr.lies (k := q) (by omega)
        refine ⟨g, o, hA, fun W hW => ?_⟩
        obtain ⟨g1, o1, d1, hA1, hd1, hl1⟩ := (hr.keep hW (no_out _ _)).lies (k := q) (by omega)
        rw [hA] at hA1
        injection hA1 with hA1
        injection hA1 with e1 e2
        subst e1 e2
        have : d1 = d := by rw [← List.append_assoc, List.getElem?_append_right (by rw [List.length_append]; omega), List.length_append, hps', hq] at hd1; simpa using hd1.symm
        subst this
        exact hl1
      obtain ⟨g, o, rfl, hlp⟩ := hlp
      have HC : Hid (∀ W, (Instr.sliceAt 42 (.slice (some ⟨g, o, none⟩) (q + 1) c) none (some (.int .i64 q)) none).run Tryd.prog W = .ok (.slice (cutD (some ⟨g, o, none⟩) c 0) q c) W) := Lib.hid (cutD_h Tryd.underlying42 (by kernel_rfl) (some ⟨g, o, none⟩) (q + 1) c q q rfl (by omega))
      obtain ⟨C, hC⟩ : ∃ C, C = climb2 (s, s) (gwayF (m - k) (n - k) false).1 ps' := ⟨_, rfl⟩
      obtain ⟨RS, hRS⟩ : ∃ RS, RS = gupRows (s, s) (gwayF (m - k) (n - k) false).1 ps' := ⟨_, rfl⟩
      obtain ⟨N, hN⟩ : ∃ N, N = RS.length := ⟨_, rfl⟩
      rw [← hC] at hI hcl ⊢
      rw [← hRS] at hI hgl ⊢
      rw [← hN] at hI hgl
      have hNl : (RS ++ [1 :: (d ++ C.1), 1 :: (d ++ C.2)]).length = N + 2 := by rw [hN]; simp
      rw [hNl]
      have hac : IsDig C.1 := hcl.1
      have hbc : IsDig C.2 := hcl.2
      obtain ⟨a', ha'⟩ : ∃ a', a' = C.1 := ⟨_, rfl⟩
      obtain ⟨b', hb'⟩ : ∃ b', b' = C.2 := ⟨_, rfl⟩
      simp only [← ha', ← hb'] at hI hac hbc ⊢
      obtain ⟨ROW2, hROW2⟩ : ∃ ROW2, ROW2 = (1 : Int) :: (d ++ a') := ⟨_, rfl⟩
      obtain ⟨ROW, hROW⟩ : ∃ ROW, ROW = (1 : Int) :: (d ++ b') := ⟨_, rfl⟩
      rw [← hROW, ← hROW2]
      obtain ⟨AV, hAV⟩ : ∃ AV, AV = vb a' := ⟨_, rfl⟩
      obtain ⟨DV, hDV⟩ : ∃ DV, DV = vb b' := ⟨_, rfl⟩
      obtain ⟨EV, hEV⟩ : ∃ EV, EV = vb d := ⟨_, rfl⟩
      obtain ⟨LV, hLV⟩ : ∃ LV, LV = vb old := ⟨_, rfl⟩
      obtain ⟨FV, hFV⟩ : ∃ FV, FV = vb (pairF d b') := ⟨_, rfl⟩
      obtain ⟨GV, hGV⟩ : ∃ GV, GV = vb (pairF d a') := ⟨_, rfl⟩
      have HGL : Hid (GV.length = 32) := Lib.hid (by rw [hGV, vb_length]; exact (dig_pair _ _).1)
      have HG1 : Hid (∀ u ∈ GV, u.oneCell' = true) := Lib.hid (by rw [hGV]; exact vb_one _)
      have HIG : Hid ((Tryd.prog.info? 23).map (·.size) = some GV.length) := Lib.hid (by rw [HGL.out]; kernel_rfl)
      have HAL : Hid (AV.length = 32) := Lib.hid (by rw [hAV, vb_length]; exact hac.1)
      have HA1 : Hid (∀ u ∈ AV, u.oneCell' = true) := Lib.hid (by rw [hAV]; exact vb_one _)
      have HIA : Hid ((Tryd.prog.info? 23).map (·.size) = some AV.length) := Lib.hid (by rw [HAL.out]; kernel_rfl)
      have HDL : Hid (DV.length = 32) := Lib.hid (by rw [hDV, vb_length]; exact hbc.1)
      have HD1 : Hid (∀ u ∈ DV, u.oneCell' = true) := Lib.hid (by rw [hDV]; exact vb_one _)
      have HIN : Hid ((Tryd.prog.info? 23).map (·.size) = some DV.length) := Lib.hid (by rw [HDL.out]; kernel_rfl)
      have HEL0 : Hid (EV.length = 32) := Lib.hid (by rw [hEV, vb_length]; exact hdd.1)
      have HE1 : Hid (∀ u ∈ EV, u.oneCell' = true) := Lib.hid (by rw [hEV]; exact vb_one _)
      have HIE : Hid ((Tryd.prog.info? 23).map (·.size) = some EV.length) := Lib.hid (by rw [HEL0.out]; kernel_rfl)
      have HIL : Hid ((Tryd.prog.info? 23).map (·.size) = some LV.length) := Lib.hid (by rw [hLV, vb_length, hold.1]; kernel_rfl)
      have HFL : Hid (FV.length = 32) := Lib.hid (by rw [hFV, vb_length]; exact (dig_pair _ _).1)
      have HF1 : Hid (∀ u ∈ FV, u.oneCell' = true) := Lib.hid (by rw [hFV]; exact vb_one _)
      have HIF : Hid ((Tryd.prog.info? 23).map (·.size) = some FV.length) := Lib.hid (by rw [HFL.out]; kernel_rfl)
      have HPA : Hid (∀ (W0 W : World), Keeps (fun _ => False) W0 W → Calls Tryd.prog 14 #[.agg EV.toArray, .agg DV.toArray] W fun e w' => e = .returned (.agg FV.toArray) ∧ Keeps (fun _ => False) W w') := Lib.hid fun W0 W _ => by
        rw [hFV, hDV, hEV]
        exact rpair_any W _ _ hdd.1 hbc.1 hdd.2 hbc.2
      have HPR : Hid (∀ (W0 W : World), Keeps (fun _ => False) W0 W → Calls Tryd.prog 45 #[.agg EV.toArray, .agg DV.toArray] W fun e w' => ∃ A' c', e = .returned (.slice A' 65 c') ∧ Mine W w' 5 A' 65 c' (vb ROW)) := Lib.hid fun W0 W _ => by
        rw [hDV, hEV, hROW]
        exact pairRow_any W _ _ hdd.1 hbc.1
      have HEL : Hid (∀ (W0 W v7 : World) (A7 : Option Addr) (c7 : Nat), Keeps (fun _ => False) W0 W → Mine W v7 5 A7 65 c7 (vb ROW) → ElemsR W0 v7 (fun _ => False) [ROW] [.slice A7 65 c7]) := Lib.hid fun W0 W v7 A7 c7 hk hM => ElemsR.mine hM hk.size (by rw [hROW]; simp [hdd.1, hbc.1]) (by
        rw [hROW]
        exact bytes_cons1 (bytes_app2 hdd.2 hbc.2)) (by omega)
      have HPB : Hid (∀ (W0 W : World), Keeps (fun _ => False) W0 W → Calls Tryd.prog 14 #[.agg EV.toArray, .agg AV.toArray] W fun e w' => e = .returned (.agg GV.toArray) ∧ Keeps (fun _ => False) W w') := Lib.hid fun W0 W _ => by
        rw [hGV, hAV, hEV]
        exact rpair_any W _ _ hdd.1 hac.1 hdd.2 hac.2
      have HPS : Hid (∀ (W0 W : World), Keeps (fun _ => False) W0 W → Calls Tryd.prog 45 #[.agg EV.toArray, .agg AV.toArray] W fun e w' => ∃ A' c', e = .returned (.slice A' 65 c') ∧ Mine W w' 5 A' 65 c' (vb ROW2)) := Lib.hid fun W0 W _ => by
        rw [hAV, hEV, hROW2]
        exact pairRow_any W _ _ hdd.1 hac.1
      have HES : Hid (∀ (W0 W v7 : World) (A7 : Option Addr) (c7 : Nat), Keeps (fun _ => False) W0 W → Mine W v7 5 A7 65 c7 (vb ROW2) → ElemsR W0 v7 (fun _ => False) [ROW2] [.slice A7 65 c7]) := Lib.hid fun W0 W v7 A7 c7 hk hM => ElemsR.mine hM hk.size (by rw [hROW2]; simp [hdd.1, hac.1]) (by
        rw [hROW2]
        exact bytes_cons1 (bytes_app2 hdd.2 hac.2)) (by omega)
      rw [← hEV] at hlp
      rw [← hLV] at hI hb1 hW1 ⊢
      rw [← hDV, ← hAV] at hI
      rw [← hFV]
      rw [← hGV]
      have HLP := Lib.hid hlp
      have HI := Lib.hid hI
      have HB1 := Lib.hid hb1
      have hsub : IntKind.i64.wrap ((m - k : Nat) : Int) = ((m - k : Nat) : Int) := IntWalk.i64_in _ (by omega)
      have hsub2 : IntKind.i64.wrap ((n - k : Nat) : Int) = ((n - k : Nat) : Int) := IntWalk.i64_in _ (by omega)
      have d1 : ((m : Int) - (k : Int)) = ((m - k : Nat) : Int) := by omega
      have d2 : ((n : Int) - (k : Int)) = ((n - k : Nat) : Int) := by omega
      have hlt : ¬ (m : Int) ≤ (k : Int) := by omega
      have hqb : (q : Int) ≤ 54 := by omega
      clear hI hlp hcl hac hbc hdp hdd hC hRS hN hNl hROW hROW2 hGV hDV hAV hEV hLV hFV ha' hb' hr hps hps' hlen2 hL ih hold hs hpre hpl hq hk hb1
      simp only [List.replicate] at hW1
      go_enter Tryd.func62, Tryd.ntmps62
      go_upto_region 7 with (go_at_call 55; refine (HS.out _).mono ?_; rintro e w9 ⟨rfl, hw9⟩; subst hw9)
      rw [← hW1]
      clear hW1
      have hq1 : (q : Int) < (q : Int) + 1 := by omega
      go_upto_region 11 with (first
        | ((with_reducible show wpList _ _ _ (⟨_, Op.load 23 _, _, _, _, _⟩ :: _) _ _); refine wpList_load_lies rfl 23 _ rfl _ EV _ rfl (HLP.out _ HK1.out) Tryd.underlying23 rfl HIE.out ?_)
        | ((with_reducible show wpList _ _ _ (⟨none, Op.store 23 _ _, _, _, _, _⟩ :: _) _ _); refine wpList_store_whole rfl 23 _ _ rfl EV rfl rfl (Blk.new W1 23 (List.replicate 32 (Value.int .u8 0))) (by rw [HEL0.out]; simp) HIE.out HE1.out ?_; refine gen_world (fun W => Blk W W1.heap.size 23 EV ∧ Keeps (fun _ => False) W1 W) ⟨(Blk.new W1 23 (List.replicate 32 (Value.int .u8 0))).setRow EV, (((Keeps.refl (fun _ => False) W1).alloc _).setRow (.inr (Nat.le_refl _)) _)⟩ ?_; rintro W3 ⟨hbE, hk3⟩; have HBE := Lib.hid hbE; have HK3 := Lib.hid hk3; clear hbE hk3))
      have HK13 := Lib.hid (HK1.out.trans HK3.out (fun _ _ h => h))
      replace HI := Lib.hid fun W (hW : Keeps (fun _ => False) W3 W) => HI.out W (HK13.out.trans hW (fun _ _ h => h))
      have HRL : Hid (∀ W, Keeps (fun _ => False) W3 W → W.rangeAt w.heap.size 0 LV) := Lib.hid fun W hW j v hv => by rw [Nat.zero_add, ((HK3.out.trans hW (fun _ _ h => h)).blk HB1.out (fun h => h)).cell]; exact hv
      go_cut [19, 20, 21] (fun ap dp rows wx => ∃ (ga gd : Nat) (B6 : Option Addr) (N6 c6 : Nat), ap = .pointer (some ⟨ga, 0, none⟩) ∧ dp = .pointer (some ⟨gd, 0, none⟩) ∧ rows = .slice B6 N6 c6 ∧ Hid (Blk wx ga 23 AV ∧ Blk wx gd 23 DV ∧ MineP W3 wx 22 B6 N6 c6 RS ∧ (∀ g, (Value.slice B6 N6 c6).ownBlock = some g → g ≠ ga ∧ g ≠ gd ∧ W3.heap.size ≤ g) ∧ N6 = N))
      case first =>
        refine wp_region_held_drew (S := Keeps (fun _ => False) W3) (by kernel_rfl) (Keeps.refl _ _).drew (fun hHeld => ?_)
        refine wpAnyH_take (i := 0) (oi := ⟨some 69, _, _, _, _, _⟩) (v := ?_) rfl (by kernel_rfl) (by kernel_rfl) (by kernel_rfl) (fun _ _ _ h => h) (Or.inl ⟨by rfl, ?_⟩) hHeld ?_
        rotate_left
        · intro w' hSw
          go_simp
          first | done | rfl
        try simp only [Act.put, List.setIfInBounds_toArray, List.set_cons_zero, List.set_cons_succ]
        refine wpAnyH_take (i := 1) (oi := ⟨some 70, _, _, _, _, _⟩) (v := ?_) rfl (by kernel_rfl) (by kernel_rfl) (by kernel_rfl) (fun _ _ _ h => h) (Or.inl ⟨by rfl, ?_⟩) hHeld ?_
        rotate_left
        · intro w' hSw
          go_simp
          first | done | rfl
        try simp only [Act.put, List.setIfInBounds_toArray, List.set_cons_zero, List.set_cons_succ]
        refine wpAnyH_take (i := 2) (oi := ⟨some 71, _, _, _, _, _⟩) (v := ?_) rfl (by kernel_rfl) (by kernel_rfl) (by kernel_rfl) (fun _ _ _ h => h) (Or.inl ⟨by rfl, ?_⟩) hHeld ?_
        rotate_left
        · intro w' hSw
          go_simp
          first | done | rfl
        try simp only [Act.put, List.setIfInBounds_toArray, List.set_cons_zero, List.set_cons_succ]
        refine wpAnyH_take (i := 3) (oi := ⟨some 72, _, _, _, _, _⟩) (v := ?_) rfl (by kernel_rfl) (by kernel_rfl) (by kernel_rfl) (fun _ _ _ h => h) (Or.inl ⟨by rfl, ?_⟩) hHeld ?_
        rotate_left
        · intro w' hSw
          go_simp
          first | done | rfl
        try simp only [Act.put, List.setIfInBounds_toArray, List.set_cons_zero, List.set_cons_succ]
        refine wpAnyH_take (i := 4) (oi := ⟨some 73, _, _, _, _, _⟩) (v := ?_) rfl (by kernel_rfl) (by kernel_rfl) (by kernel_rfl) (fun _ _ _ h => h) (Or.inl ⟨by rfl, ?_⟩) hHeld ?_
        rotate_left
        · intro w' hSw
          go_simp
          first | done | rfl
        try simp only [Act.put, List.setIfInBounds_toArray, List.set_cons_zero, List.set_cons_succ]
        refine wpAnyH_take (i := 5) (oi := ⟨some 74, _, _, _, _, _⟩) (v := ?_) rfl (by kernel_rfl) (by kernel_rfl) (by kernel_rfl) (fun _ _ _ h => h) (Or.inl ⟨by rfl, ?_⟩) hHeld ?_
        rotate_left
        · intro w' hSw
          go_simp
          first | done | rfl
        try simp only [Act.put, List.setIfInBounds_toArray, List.set_cons_zero, List.set_cons_succ]
        refine wpAnyH_take (i := 6) (oi := ⟨some 75, _, _, _, _, _⟩) (v := _) rfl (by kernel_rfl) (by kernel_rfl) (by kernel_rfl) (fun _ _ _ h => h) (yieldsIf_load_mid (by rfl) _ _ rfl _ _ rfl LV _ (fun w' h => HRL.out _ h) Tryd.underlying23 rfl HIL.out) hHeld ?_
        try simp only [Act.put, List.setIfInBounds_toArray, List.set_cons_zero, List.set_cons_succ]
        refine wpAnyH_take (i := 7) (oi := ⟨some 76, _, _, _, _, _⟩) (v := ?_) rfl (by kernel_rfl) (by kernel_rfl) (by kernel_rfl) (fun _ _ _ h => h) (Or.inl ⟨by rfl, ?_⟩) hHeld ?_
        rotate_left
        · intro w' hSw
          go_simp
          first | done | rfl
        try simp only [Act.put, List.setIfInBounds_toArray, List.set_cons_zero, List.set_cons_succ]
        refine wpAnyH_take (i := 8) (oi := ⟨some 77, _, _, _, _, _⟩) (v := ?_) rfl (by kernel_rfl) (by kernel_rfl) (by kernel_rfl) (fun _ _ _ h => h) (Or.inl ⟨by rfl, ?_⟩) hHeld ?_
        rotate_left
        · intro w' hSw
          go_simp
          first | done | rfl
        try simp only [Act.put, List.setIfInBounds_toArray, List.set_cons_zero, List.set_cons_succ]
        refine wpAnyH_take (i := 9) (oi := ⟨some 78, _, _, _, _, _⟩) (v := ?_) rfl (by kernel_rfl) (by kernel_rfl) (by kernel_rfl) (fun _ _ _ h => h) (Or.inl ⟨by rfl, ?_⟩) hHeld ?_
        rotate_left
        · intro w' hSw
          have cv := HC.out w'
          go_simp
          first | done | rfl
        try simp only [Act.put, List.setIfInBounds_toArray, List.set_cons_zero, List.set_cons_succ]
        refine wpAnyH_ready (rs := [10, 15, 16]) (by kernel_rfl) (by simp) ?_
        refine (AllReadyH.cons (o := ⟨some 79, _, _, _, _, _⟩) rfl (fun K hK => ?_) (AllReadyH.cons (o := ⟨some 19, _, _, _, _, _⟩) rfl (fun K hK => ?_) (AllReadyH.cons (o := ⟨some 20, _, _, _, _, _⟩) rfl (fun K hK => ?_) AllReadyH.nil)))
        · go_simp
          refine (HI.out _ hHeld).mono ?_
          rintro e v6 ⟨B6, c6, rfl, hP6⟩
          have hq6 := hHeld.trans hP6.keeps (fun _ _ h => h)
          have hbase := hHeld
          refine hK.out _ _ hq6 (fun hHeld => ?_)
          clear hK K
          try simp only [Act.put, List.setIfInBounds_toArray, List.set_cons_zero, List.set_cons_succ]
          refine wpAnyH_take (i := 11) (oi := ⟨some 68, _, _, _, _, _⟩) (v := ?_) rfl (by kernel_rfl) (by kernel_rfl) (by kernel_rfl) (fun _ _ _ h => h) (Or.inl ⟨by rfl, ?_⟩) hHeld ?_
          rotate_left
          · intro w' hSw
            go_simp
            first | done | rfl
          try simp only [Act.put, List.setIfInBounds_toArray, List.set_cons_zero, List.set_cons_succ]
          refine wpAnyH_take (i := 12) (oi := ⟨some 80, _, _, _, _, _⟩) (v := ?_) rfl (by kernel_rfl) (by kernel_rfl) (by kernel_rfl) (fun _ _ _ h => h) (Or.inl ⟨by rfl, ?_⟩) hHeld ?_
          rotate_left
          · intro w' hSw
            go_simp
            first | done | rfl
          try simp only [Act.put, List.setIfInBounds_toArray, List.set_cons_zero, List.set_cons_succ]
          refine wpAnyH_take (i := 13) (oi := ⟨some 81, _, _, _, _, _⟩) (v := ?_) rfl (by kernel_rfl) (by kernel_rfl) (by kernel_rfl) (fun _ _ _ h => h) (Or.inl ⟨by rfl, ?_⟩) hHeld ?_
          rotate_left
          · intro w' hSw
            go_simp
            first | done | rfl
          try simp only [Act.put, List.setIfInBounds_toArray, List.set_cons_zero, List.set_cons_succ]
          refine wpAnyH_take (i := 14) (oi := ⟨some 82, _, _, _, _, _⟩) (v := ?_) rfl (by kernel_rfl) (by kernel_rfl) (by kernel_rfl) (fun _ _ _ h => h) (Or.inl ⟨by rfl, ?_⟩) hHeld ?_
          rotate_left
          · intro w' hSw
            go_simp
            first | done | rfl
          try simp only [Act.put, List.setIfInBounds_toArray, List.set_cons_zero, List.set_cons_succ]
          refine wpAnyH_ready (rs := [15, 16]) (by kernel_rfl) (by simp) ?_
          refine (AllReadyH.cons (o := ⟨some 19, _, _, _, _, _⟩) rfl (fun K hK => ?_) (AllReadyH.cons (o := ⟨some 20, _, _, _, _, _⟩) rfl (fun K hK => ?_) AllReadyH.nil))
          · go_simp
            have hz1 := Blk.new (v6) 23 (List.replicate 32 (Value.int .u8 0))
            have hg1 : W3.heap.size ≤ (v6).heap.size := hHeld.size
            try simp only [World.size_alloc] at hz1 hg1
            refine hK.out _ _ (hHeld.alloc _) (fun hHeld => ?_)
            clear hK K
            try simp only [Act.put, List.setIfInBounds_toArray, List.set_cons_zero, List.set_cons_succ]
            refine wpAnyH_ready (rs := [16]) (by kernel_rfl) (by simp) ?_
            refine (AllReadyH.cons (o := ⟨some 20, _, _, _, _, _⟩) rfl (fun K hK => ?_) AllReadyH.nil)
            go_simp
            have hz1w := hz1.lt
            try simp only [World.size_alloc] at hz1w
            replace hz1 := hz1.alloc (.cells (List.replicate 32 (Value.int .u8 0)).toArray 23)
            have hz2 := Blk.new ((v6).alloc (.cells (List.replicate 32 (Value.int .u8 0)).toArray 23)) 23 (List.replicate 32 (Value.int .u8 0))
            have hg2 : W3.heap.size ≤ ((v6).alloc (.cells (List.replicate 32 (Value.int .u8 0)).toArray 23)).heap.size := hHeld.size
            try simp only [World.size_alloc] at hz2 hg2
            refine hK.out _ _ (hHeld.alloc _) (fun hHeld => ?_)
            clear hK K
            try simp only [Act.put, List.setIfInBounds_toArray, List.set_cons_zero, List.set_cons_succ]
            refine wpAnyH_ready (rs := [17]) (by kernel_rfl) (by simp) ?_
            refine (AllReadyH.cons (o := ⟨none, _, _, _, _, _⟩) rfl (fun K hK => ?_) AllReadyH.nil)
            have HNE := Lib.hid (Nat.ne_of_gt (hz1w))
            refine stepH_store rfl 23 _ _ rfl AV rfl rfl hz1 (by rw [HAL.out]; simp) HIA.out HA1.out ?_
            have hz2' := hz2.setRow_far HNE.out AV.toArray
            have hz1' := hz1.setRow AV
            refine hK.out _ _ (hHeld.setRow (.inr hg1) _) (fun hHeld => ?_)
            clear hK K
            try simp only [Act.put, List.setIfInBounds_toArray, List.set_cons_zero, List.set_cons_succ]
            refine wpAnyH_ready (rs := [18]) (by kernel_rfl) (by simp) ?_
            refine (AllReadyH.cons (o := ⟨none, _, _, _, _, _⟩) rfl (fun K hK => ?_) AllReadyH.nil)
            
            refine stepH_store rfl 23 _ _ rfl DV rfl rfl hz2' (by rw [HDL.out]; simp) HIN.out HD1.out ?_
            have hzb := hz2'.setRow DV
            have hza := hz1'.setRow_far HNE.out.symm DV.toArray
            refine hK.out _ _ (hHeld.setRow (.inr hg2) _) (fun hHeld => ?_)
            clear hK K
            try simp only [Act.put, List.setIfInBounds_toArray, List.set_cons_zero, List.set_cons_succ]
            refine wpAnyH_take (i := 19) (oi := ⟨some 21, _, _, _, _, _⟩) (v := ?_) rfl (by kernel_rfl) (by kernel_rfl) (by kernel_rfl) (fun _ _ _ h => h) (Or.inl ⟨by rfl, ?_⟩) hHeld ?_
            rotate_left
            · intro w' hSw
              go_simp
              first | done | rfl
            try simp only [Act.put, List.setIfInBounds_toArray, List.set_cons_zero, List.set_cons_succ]
            refine wpAnyH_done (by kernel_rfl) ?_ _
            have hPz := hP6.out hbase (Keeps.setRow (g := v6.heap.size + 1) (Keeps.setRow (g := v6.heap.size) (((Keeps.refl (fun i => W3.heap.size ≤ i ∧ i < (W3.drew).heap.size) v6).alloc (.cells (List.replicate 32 (Value.int .u8 0)).toArray 23)).alloc (.cells (List.replicate 32 (Value.int .u8 0)).toArray 23)) (.inr (by omega)) AV.toArray) (.inr (by omega)) DV.toArray) (fun _ h => h.1) (fun _ h => h.2)
            go_wp2_with fail
            go_meet
            refine ⟨_, _, B6, N, c6, rfl, rfl, rfl, Lib.hid ⟨hza, hzb, hPz, ?_, rfl⟩⟩
            intro g hgo
            obtain ⟨ho1, ho2⟩ := own_between hP6 g hgo
            have := hbase.size
            simp only [World.size_alloc, drew_size] at *
            skip
            skip
            exact ⟨by omega, by omega, by omega⟩
          · go_simp
            have hz2 := Blk.new (v6) 23 (List.replicate 32 (Value.int .u8 0))
            have hg2 : W3.heap.size ≤ (v6).heap.size := hHeld.size
            try simp only [World.size_alloc] at hz2 hg2
            refine hK.out _ _ (hHeld.alloc _) (fun hHeld => ?_)
            clear hK K
            try simp only [Act.put, List.setIfInBounds_toArray, List.set_cons_zero, List.set_cons_succ]
            refine wpAnyH_ready (rs := [15]) (by kernel_rfl) (by simp) ?_
            refine (AllReadyH.cons (o := ⟨some 19, _, _, _, _, _⟩) rfl (fun K hK => ?_) AllReadyH.nil)
            go_simp
            have hz2w := hz2.lt
            try simp only [World.size_alloc] at hz2w
            replace hz2 := hz2.alloc (.cells (List.replicate 32 (Value.int .u8 0)).toArray 23)
            have hz1 := Blk.new ((v6).alloc (.cells (List.replicate 32 (Value.int .u8 0)).toArray 23)) 23 (List.replicate 32 (Value.int .u8 0))
            have hg1 : W3.heap.size ≤ ((v6).alloc (.cells (List.replicate 32 (Value.int .u8 0)).toArray 23)).heap.size := hHeld.size
            try simp only [World.size_alloc] at hz1 hg1
            refine hK.out _ _ (hHeld.alloc _) (fun hHeld => ?_)
            clear hK K
            try simp only [Act.put, List.setIfInBounds_toArray, List.set_cons_zero, List.set_cons_succ]
            refine wpAnyH_ready (rs := [17]) (by kernel_rfl) (by simp) ?_
            refine (AllReadyH.cons (o := ⟨none, _, _, _, _, _⟩) rfl (fun K hK => ?_) AllReadyH.nil)
            have HNE := Lib.hid (Nat.ne_of_lt (hz2w))
            refine stepH_store rfl 23 _ _ rfl AV rfl rfl hz1 (by rw [HAL.out]; simp) HIA.out HA1.out ?_
            have hz2' := hz2.setRow_far HNE.out AV.toArray
            have hz1' := hz1.setRow AV
            refine hK.out _ _ (hHeld.setRow (.inr hg1) _) (fun hHeld => ?_)
            clear hK K
            try simp only [Act.put, List.setIfInBounds_toArray, List.set_cons_zero, List.set_cons_succ]
            refine wpAnyH_ready (rs := [18]) (by kernel_rfl) (by simp) ?_
            refine (AllReadyH.cons (o := ⟨none, _, _, _, _, _⟩) rfl (fun K hK => ?_) AllReadyH.nil)
            
            refine stepH_store rfl 23 _ _ rfl DV rfl rfl hz2' (by rw [HDL.out]; simp) HIN.out HD1.out ?_
            have hzb := hz2'.setRow DV
            have hza := hz1'.setRow_far HNE.out.symm DV.toArray
            refine hK.out _ _ (hHeld.setRow (.inr hg2) _) (fun hHeld => ?_)
            clear hK K
            try simp only [Act.put, List.setIfInBounds_toArray, List.set_cons_zero, List.set_cons_succ]
            refine wpAnyH_take (i := 19) (oi := ⟨some 21, _, _, _, _, _⟩) (v := ?_) rfl (by kernel_rfl) (by kernel_rfl) (by kernel_rfl) (fun _ _ _ h => h) (Or.inl ⟨by rfl, ?_⟩) hHeld ?_
            rotate_left
            · intro w' hSw
              go_simp
              first | done | rfl
            try simp only [Act.put, List.setIfInBounds_toArray, List.set_cons_zero, List.set_cons_succ]
            refine wpAnyH_done (by kernel_rfl) ?_ _
            have hPz := hP6.out hbase (Keeps.setRow (g := v6.heap.size) (Keeps.setRow (g := v6.heap.size + 1) (((Keeps.refl (fun i => W3.heap.size ≤ i ∧ i < (W3.drew).heap.size) v6).alloc (.cells (List.replicate 32 (Value.int .u8 0)).toArray 23)).alloc (.cells (List.replicate 32 (Value.int .u8 0)).toArray 23)) (.inr (by omega)) AV.toArray) (.inr (by omega)) DV.toArray) (fun _ h => h.1) (fun _ h => h.2)
            go_wp2_with fail
            go_meet
            refine ⟨_, _, B6, N, c6, rfl, rfl, rfl, Lib.hid ⟨hza, hzb, hPz, ?_, rfl⟩⟩
            intro g hgo
            obtain ⟨ho1, ho2⟩ := own_between hP6 g hgo
            have := hbase.size
            simp only [World.size_alloc, drew_size] at *
            skip
            skip
            exact ⟨by omega, by omega, by omega⟩
        · go_simp
          have hz1 := Blk.new (W3.drew) 23 (List.replicate 32 (Value.int .u8 0))
          have hg1 : W3.heap.size ≤ (W3.drew).heap.size := hHeld.size
          try simp only [World.size_alloc] at hz1 hg1
          refine hK.out _ _ (hHeld.alloc _) (fun hHeld => ?_)
          clear hK K
          try simp only [Act.put, List.setIfInBounds_toArray, List.set_cons_zero, List.set_cons_succ]
          refine wpAnyH_ready (rs := [10, 16]) (by kernel_rfl) (by simp) ?_
          refine (AllReadyH.cons (o := ⟨some 79, _, _, _, _, _⟩) rfl (fun K hK => ?_) (AllReadyH.cons (o := ⟨some 20, _, _, _, _, _⟩) rfl (fun K hK => ?_) AllReadyH.nil))
          · go_simp
            refine (HI.out _ hHeld).mono ?_
            rintro e v6 ⟨B6, c6, rfl, hP6⟩
            have hq6 := hHeld.trans hP6.keeps (fun _ _ h => h)
            have hbase := hHeld
            have hlt1 := hz1.lt
            replace hz1 := hP6.keeps.blk hz1 (fun h => h)
            refine hK.out _ _ hq6 (fun hHeld => ?_)
            clear hK K
            try simp only [Act.put, List.setIfInBounds_toArray, List.set_cons_zero, List.set_cons_succ]
            refine wpAnyH_take (i := 11) (oi := ⟨some 68, _, _, _, _, _⟩) (v := ?_) rfl (by kernel_rfl) (by kernel_rfl) (by kernel_rfl) (fun _ _ _ h => h) (Or.inl ⟨by rfl, ?_⟩) hHeld ?_
            rotate_left
            · intro w' hSw
              go_simp
              first | done | rfl
            try simp only [Act.put, List.setIfInBounds_toArray, List.set_cons_zero, List.set_cons_succ]
            refine wpAnyH_take (i := 12) (oi := ⟨some 80, _, _, _, _, _⟩) (v := ?_) rfl (by kernel_rfl) (by kernel_rfl) (by kernel_rfl) (fun _ _ _ h => h) (Or.inl ⟨by rfl, ?_⟩) hHeld ?_
            rotate_left
            · intro w' hSw
              go_simp
              first | done | rfl
            try simp only [Act.put, List.setIfInBounds_toArray, List.set_cons_zero, List.set_cons_succ]
            refine wpAnyH_take (i := 13) (oi := ⟨some 81, _, _, _, _, _⟩) (v := ?_) rfl (by kernel_rfl) (by kernel_rfl) (by kernel_rfl) (fun _ _ _ h => h) (Or.inl ⟨by rfl, ?_⟩) hHeld ?_
            rotate_left
            · intro w' hSw
              go_simp
              first | done | rfl
            try simp only [Act.put, List.setIfInBounds_toArray, List.set_cons_zero, List.set_cons_succ]
            refine wpAnyH_take (i := 14) (oi := ⟨some 82, _, _, _, _, _⟩) (v := ?_) rfl (by kernel_rfl) (by kernel_rfl) (by kernel_rfl) (fun _ _ _ h => h) (Or.inl ⟨by rfl, ?_⟩) hHeld ?_
            rotate_left
            · intro w' hSw
              go_simp
              first | done | rfl
            try simp only [Act.put, List.setIfInBounds_toArray, List.set_cons_zero, List.set_cons_succ]
            refine wpAnyH_ready (rs := [16]) (by kernel_rfl) (by simp) ?_
            refine (AllReadyH.cons (o := ⟨some 20, _, _, _, _, _⟩) rfl (fun K hK => ?_) AllReadyH.nil)
            go_simp
            have hz1w := hz1.lt
            try simp only [World.size_alloc] at hz1w
            replace hz1 := hz1.alloc (.cells (List.replicate 32 (Value.int .u8 0)).toArray 23)
            have hz2 := Blk.new (v6) 23 (List.replicate 32 (Value.int .u8 0))
            have hg2 : W3.heap.size ≤ (v6).heap.size := hHeld.size
            try simp only [World.size_alloc] at hz2 hg2
            refine hK.out _ _ (hHeld.alloc _) (fun hHeld => ?_)
            clear hK K
            try simp only [Act.put, List.setIfInBounds_toArray, List.set_cons_zero, List.set_cons_succ]
            refine wpAnyH_ready (rs := [17]) (by kernel_rfl) (by simp) ?_
            refine (AllReadyH.cons (o := ⟨none, _, _, _, _, _⟩) rfl (fun K hK => ?_) AllReadyH.nil)
            have HNE := Lib.hid (Nat.ne_of_gt (hz1w))
            refine stepH_store rfl 23 _ _ rfl AV rfl rfl hz1 (by rw [HAL.out]; simp) HIA.out HA1.out ?_
            have hz2' := hz2.setRow_far HNE.out AV.toArray
            have hz1' := hz1.setRow AV
            refine hK.out _ _ (hHeld.setRow (.inr hg1) _) (fun hHeld => ?_)
            clear hK K
            try simp only [Act.put, List.setIfInBounds_toArray, List.set_cons_zero, List.set_cons_succ]
            refine wpAnyH_ready (rs := [18]) (by kernel_rfl) (by simp) ?_
            refine (AllReadyH.cons (o := ⟨none, _, _, _, _, _⟩) rfl (fun K hK => ?_) AllReadyH.nil)
            
            refine stepH_store rfl 23 _ _ rfl DV rfl rfl hz2' (by rw [HDL.out]; simp) HIN.out HD1.out ?_
            have hzb := hz2'.setRow DV
            have hza := hz1'.setRow_far HNE.out.symm DV.toArray
            refine hK.out _ _ (hHeld.setRow (.inr hg2) _) (fun hHeld => ?_)
            clear hK K
            try simp only [Act.put, List.setIfInBounds_toArray, List.set_cons_zero, List.set_cons_succ]
            refine wpAnyH_take (i := 19) (oi := ⟨some 21, _, _, _, _, _⟩) (v := ?_) rfl (by kernel_rfl) (by kernel_rfl) (by kernel_rfl) (fun _ _ _ h => h) (Or.inl ⟨by rfl, ?_⟩) hHeld ?_
            rotate_left
            · intro w' hSw
              go_simp
              first | done | rfl
            try simp only [Act.put, List.setIfInBounds_toArray, List.set_cons_zero, List.set_cons_succ]
            refine wpAnyH_done (by kernel_rfl) ?_ _
            have hPz := hP6.out hbase (Keeps.setRow (g := v6.heap.size) (Keeps.setRow (g := W3.drew.heap.size) ((Keeps.refl (fun i => W3.heap.size ≤ i ∧ i < ((W3.drew).alloc (.cells (List.replicate 32 (Value.int .u8 0)).toArray 23)).heap.size) v6).alloc (.cells (List.replicate 32 (Value.int .u8 0)).toArray 23)) (.inl ⟨hg1, hlt1⟩) AV.toArray) (.inr (by omega)) DV.toArray) (fun _ h => h.1) (fun _ h => h.2)
            go_wp2_with fail
            go_meet
            refine ⟨_, _, B6, N, c6, rfl, rfl, rfl, Lib.hid ⟨hza, hzb, hPz, ?_, rfl⟩⟩
            intro g hgo
            obtain ⟨ho1, ho2⟩ := own_between hP6 g hgo
            have := hbase.size
            simp only [World.size_alloc, drew_size] at *
            have := hlt1
            skip
            exact ⟨by omega, by omega, by omega⟩
          · go_simp
            have hz1w := hz1.lt
            try simp only [World.size_alloc] at hz1w
            replace hz1 := hz1.alloc (.cells (List.replicate 32 (Value.int .u8 0)).toArray 23)
            have hz2 := Blk.new ((W3.drew).alloc (.cells (List.replicate 32 (Value.int .u8 0)).toArray 23)) 23 (List.replicate 32 (Value.int .u8 0))
            have hg2 : W3.heap.size ≤ ((W3.drew).alloc (.cells (List.replicate 32 (Value.int .u8 0)).toArray 23)).heap.size := hHeld.size
            try simp only [World.size_alloc] at hz2 hg2
            refine hK.out _ _ (hHeld.alloc _) (fun hHeld => ?_)
            clear hK K
            try simp only [Act.put, List.setIfInBounds_toArray, List.set_cons_zero, List.set_cons_succ]
            refine wpAnyH_ready (rs := [10]) (by kernel_rfl) (by simp) ?_
            refine (AllReadyH.cons (o := ⟨some 79, _, _, _, _, _⟩) rfl (fun K hK => ?_) AllReadyH.nil)
            go_simp
            refine (HI.out _ hHeld).mono ?_
            rintro e v6 ⟨B6, c6, rfl, hP6⟩
            have hq6 := hHeld.trans hP6.keeps (fun _ _ h => h)
            have hbase := hHeld
            have hlt1 := hz1.lt
            have hlt2 := hz2.lt
            replace hz1 := hP6.keeps.blk hz1 (fun h => h)
            replace hz2 := hP6.keeps.blk hz2 (fun h => h)
            refine hK.out _ _ hq6 (fun hHeld => ?_)
            clear hK K
            try simp only [Act.put, List.setIfInBounds_toArray, List.set_cons_zero, List.set_cons_succ]
            refine wpAnyH_take (i := 11) (oi := ⟨some 68, _, _, _, _, _⟩) (v := ?_) rfl (by kernel_rfl) (by kernel_rfl) (by kernel_rfl) (fun _ _ _ h => h) (Or.inl ⟨by rfl, ?_⟩) hHeld ?_
            rotate_left
            · intro w' hSw
              go_simp
              first | done | rfl
            try simp only [Act.put, List.setIfInBounds_toArray, List.set_cons_zero, List.set_cons_succ]
            refine wpAnyH_take (i := 12) (oi := ⟨some 80, _, _, _, _, _⟩) (v := ?_) rfl (by kernel_rfl) (by kernel_rfl) (by kernel_rfl) (fun _ _ _ h => h) (Or.inl ⟨by rfl, ?_⟩) hHeld ?_
            rotate_left
            · intro w' hSw
              go_simp
              first | done | rfl
            try simp only [Act.put, List.setIfInBounds_toArray, List.set_cons_zero, List.set_cons_succ]
            refine wpAnyH_take (i := 13) (oi := ⟨some 81, _, _, _, _, _⟩) (v := ?_) rfl (by kernel_rfl) (by kernel_rfl) (by kernel_rfl) (fun _ _ _ h => h) (Or.inl ⟨by rfl, ?_⟩) hHeld ?_
            rotate_left
            · intro w' hSw
              go_simp
              first | done | rfl
            try simp only [Act.put, List.setIfInBounds_toArray, List.set_cons_zero, List.set_cons_succ]
            refine wpAnyH_take (i := 14) (oi := ⟨some 82, _, _, _, _, _⟩) (v := ?_) rfl (by kernel_rfl) (by kernel_rfl) (by kernel_rfl) (fun _ _ _ h => h) (Or.inl ⟨by rfl, ?_⟩) hHeld ?_
            rotate_left
            · intro w' hSw
              go_simp
              first | done | rfl
            try simp only [Act.put, List.setIfInBounds_toArray, List.set_cons_zero, List.set_cons_succ]
            refine wpAnyH_ready (rs := [17]) (by kernel_rfl) (by simp) ?_
            refine (AllReadyH.cons (o := ⟨none, _, _, _, _, _⟩) rfl (fun K hK => ?_) AllReadyH.nil)
            have HNE := Lib.hid (Nat.ne_of_gt (hz1w))
            refine stepH_store rfl 23 _ _ rfl AV rfl rfl hz1 (by rw [HAL.out]; simp) HIA.out HA1.out ?_
            have hz2' := hz2.setRow_far HNE.out AV.toArray
            have hz1' := hz1.setRow AV
            refine hK.out _ _ (hHeld.setRow (.inr hg1) _) (fun hHeld => ?_)
            clear hK K
            try simp only [Act.put, List.setIfInBounds_toArray, List.set_cons_zero, List.set_cons_succ]
            refine wpAnyH_ready (rs := [18]) (by kernel_rfl) (by simp) ?_
            refine (AllReadyH.cons (o := ⟨none, _, _, _, _, _⟩) rfl (fun K hK => ?_) AllReadyH.nil)
            
            refine stepH_store rfl 23 _ _ rfl DV rfl rfl hz2' (by rw [HDL.out]; simp) HIN.out HD1.out ?_
            have hzb := hz2'.setRow DV
            have hza := hz1'.setRow_far HNE.out.symm DV.toArray
            refine hK.out _ _ (hHeld.setRow (.inr hg2) _) (fun hHeld => ?_)
            clear hK K
            try simp only [Act.put, List.setIfInBounds_toArray, List.set_cons_zero, List.set_cons_succ]
            refine wpAnyH_take (i := 19) (oi := ⟨some 21, _, _, _, _, _⟩) (v := ?_) rfl (by kernel_rfl) (by kernel_rfl) (by kernel_rfl) (fun _ _ _ h => h) (Or.inl ⟨by rfl, ?_⟩) hHeld ?_
            rotate_left
            · intro w' hSw
              go_simp
              first | done | rfl
            try simp only [Act.put, List.setIfInBounds_toArray, List.set_cons_zero, List.set_cons_succ]
            refine wpAnyH_done (by kernel_rfl) ?_ _
            have hPz := hP6.out hbase (Keeps.setRow (g := W3.drew.heap.size + 1) (Keeps.setRow (g := W3.drew.heap.size) (Keeps.refl (fun i => W3.heap.size ≤ i ∧ i < (((W3.drew).alloc (.cells (List.replicate 32 (Value.int .u8 0)).toArray 23)).alloc (.cells (List.replicate 32 (Value.int .u8 0)).toArray 23)).heap.size) v6) (.inl ⟨hg1, hlt1⟩) AV.toArray) (.inl ⟨hg2, hlt2⟩) DV.toArray) (fun _ h => h.1) (fun _ h => h.2)
            go_wp2_with fail
            go_meet
            refine ⟨_, _, B6, N, c6, rfl, rfl, rfl, Lib.hid ⟨hza, hzb, hPz, ?_, rfl⟩⟩
            intro g hgo
            obtain ⟨ho1, ho2⟩ := own_between hP6 g hgo
            have := hbase.size
            simp only [World.size_alloc, drew_size] at *
            have := hlt1
            have := hlt2
            exact ⟨by omega, by omega, by omega⟩
        · go_simp
          have hz2 := Blk.new (W3.drew) 23 (List.replicate 32 (Value.int .u8 0))
          have hg2 : W3.heap.size ≤ (W3.drew).heap.size := hHeld.size
          try simp only [World.size_alloc] at hz2 hg2
          refine hK.out _ _ (hHeld.alloc _) (fun hHeld => ?_)
          clear hK K
          try simp only [Act.put, List.setIfInBounds_toArray, List.set_cons_zero, List.set_cons_succ]
          refine wpAnyH_ready (rs := [10, 15]) (by kernel_rfl) (by simp) ?_
          refine (AllReadyH.cons (o := ⟨some 79, _, _, _, _, _⟩) rfl (fun K hK => ?_) (AllReadyH.cons (o := ⟨some 19, _, _, _, _, _⟩) rfl (fun K hK => ?_) AllReadyH.nil))
          · go_simp
            refine (HI.out _ hHeld).mono ?_
            rintro e v6 ⟨B6, c6, rfl, hP6⟩
            have hq6 := hHeld.trans hP6.keeps (fun _ _ h => h)
            have hbase := hHeld
            have hlt2 := hz2.lt
            replace hz2 := hP6.keeps.blk hz2 (fun h => h)
            refine hK.out _ _ hq6 (fun hHeld => ?_)
            clear hK K
            try simp only [Act.put, List.setIfInBounds_toArray, List.set_cons_zero, List.set_cons_succ]
            refine wpAnyH_take (i := 11) (oi := ⟨some 68, _, _, _, _, _⟩) (v := ?_) rfl (by kernel_rfl) (by kernel_rfl) (by kernel_rfl) (fun _ _ _ h => h) (Or.inl ⟨by rfl, ?_⟩) hHeld ?_
            rotate_left
            · intro w' hSw
              go_simp
              first | done | rfl
            try simp only [Act.put, List.setIfInBounds_toArray, List.set_cons_zero, List.set_cons_succ]
            refine wpAnyH_take (i := 12) (oi := ⟨some 80, _, _, _, _, _⟩) (v := ?_) rfl (by kernel_rfl) (by kernel_rfl) (by kernel_rfl) (fun _ _ _ h => h) (Or.inl ⟨by rfl, ?_⟩) hHeld ?_
            rotate_left
            · intro w' hSw
              go_simp
              first | done | rfl
            try simp only [Act.put, List.setIfInBounds_toArray, List.set_cons_zero, List.set_cons_succ]
            refine wpAnyH_take (i := 13) (oi := ⟨some 81, _, _, _, _, _⟩) (v := ?_) rfl (by kernel_rfl) (by kernel_rfl) (by kernel_rfl) (fun _ _ _ h => h) (Or.inl ⟨by rfl, ?_⟩) hHeld ?_
            rotate_left
            · intro w' hSw
              go_simp
              first | done | rfl
            try simp only [Act.put, List.setIfInBounds_toArray, List.set_cons_zero, List.set_cons_succ]
            refine wpAnyH_take (i := 14) (oi := ⟨some 82, _, _, _, _, _⟩) (v := ?_) rfl (by kernel_rfl) (by kernel_rfl) (by kernel_rfl) (fun _ _ _ h => h) (Or.inl ⟨by rfl, ?_⟩) hHeld ?_
            rotate_left
            · intro w' hSw
              go_simp
              first | done | rfl
            try simp only [Act.put, List.setIfInBounds_toArray, List.set_cons_zero, List.set_cons_succ]
            refine wpAnyH_ready (rs := [15]) (by kernel_rfl) (by simp) ?_
            refine (AllReadyH.cons (o := ⟨some 19, _, _, _, _, _⟩) rfl (fun K hK => ?_) AllReadyH.nil)
            go_simp
            have hz2w := hz2.lt
            try simp only [World.size_alloc] at hz2w
            replace hz2 := hz2.alloc (.cells (List.replicate 32 (Value.int .u8 0)).toArray 23)
            have hz1 := Blk.new (v6) 23 (List.replicate 32 (Value.int .u8 0))
            have hg1 : W3.heap.size ≤ (v6).heap.size := hHeld.size
            try simp only [World.size_alloc] at hz1 hg1
            refine hK.out _ _ (hHeld.alloc _) (fun hHeld => ?_)
            clear hK K
            try simp only [Act.put, List.setIfInBounds_toArray, List.set_cons_zero, List.set_cons_succ]
            refine wpAnyH_ready (rs := [17]) (by kernel_rfl) (by simp) ?_
            refine (AllReadyH.cons (o := ⟨none, _, _, _, _, _⟩) rfl (fun K hK => ?_) AllReadyH.nil)
            have HNE := Lib.hid (Nat.ne_of_lt (hz2w))
            refine stepH_store rfl 23 _ _ rfl AV rfl rfl hz1 (by rw [HAL.out]; simp) HIA.out HA1.out ?_
            have hz2' := hz2.setRow_far HNE.out AV.toArray
            have hz1' := hz1.setRow AV
            refine hK.out _ _ (hHeld.setRow (.inr hg1) _) (fun hHeld => ?_)
            clear hK K
            try simp only [Act.put, List.setIfInBounds_toArray, List.set_cons_zero, List.set_cons_succ]
            refine wpAnyH_ready (rs := [18]) (by kernel_rfl) (by simp) ?_
            refine (AllReadyH.cons (o := ⟨none, _, _, _, _, _⟩) rfl (fun K hK => ?_) AllReadyH.nil)
            
            refine stepH_store rfl 23 _ _ rfl DV rfl rfl hz2' (by rw [HDL.out]; simp) HIN.out HD1.out ?_
            have hzb := hz2'.setRow DV
            have hza := hz1'.setRow_far HNE.out.symm DV.toArray
            refine hK.out _ _ (hHeld.setRow (.inr hg2) _) (fun hHeld => ?_)
            clear hK K
            try simp only [Act.put, List.setIfInBounds_toArray, List.set_cons_zero, List.set_cons_succ]
            refine wpAnyH_take (i := 19) (oi := ⟨some 21, _, _, _, _, _⟩) (v := ?_) rfl (by kernel_rfl) (by kernel_rfl) (by kernel_rfl) (fun _ _ _ h => h) (Or.inl ⟨by rfl, ?_⟩) hHeld ?_
            rotate_left
            · intro w' hSw
              go_simp
              first | done | rfl
            try simp only [Act.put, List.setIfInBounds_toArray, List.set_cons_zero, List.set_cons_succ]
            refine wpAnyH_done (by kernel_rfl) ?_ _
            have hPz := hP6.out hbase (Keeps.setRow (g := W3.drew.heap.size) (Keeps.setRow (g := v6.heap.size) ((Keeps.refl (fun i => W3.heap.size ≤ i ∧ i < ((W3.drew).alloc (.cells (List.replicate 32 (Value.int .u8 0)).toArray 23)).heap.size) v6).alloc (.cells (List.replicate 32 (Value.int .u8 0)).toArray 23)) (.inr (by omega)) AV.toArray) (.inl ⟨hg2, hlt2⟩) DV.toArray) (fun _ h => h.1) (fun _ h => h.2)
            go_wp2_with fail
            go_meet
            refine ⟨_, _, B6, N, c6, rfl, rfl, rfl, Lib.hid ⟨hza, hzb, hPz, ?_, rfl⟩⟩
            intro g hgo
            obtain ⟨ho1, ho2⟩ := own_between hP6 g hgo
            have := hbase.size
            simp only [World.size_alloc, drew_size] at *
            skip
            have := hlt2
            exact ⟨by omega, by omega, by omega⟩
          · go_simp
            have hz2w := hz2.lt
            try simp only [World.size_alloc] at hz2w
            replace hz2 := hz2.alloc (.cells (List.replicate 32 (Value.int .u8 0)).toArray 23)
            have hz1 := Blk.new ((W3.drew).alloc (.cells (List.replicate 32 (Value.int .u8 0)).toArray 23)) 23 (List.replicate 32 (Value.int .u8 0))
            have hg1 : W3.heap.size ≤ ((W3.drew).alloc (.cells (List.replicate 32 (Value.int .u8 0)).toArray 23)).heap.size := hHeld.size
            try simp only [World.size_alloc] at hz1 hg1
            refine hK.out _ _ (hHeld.alloc _) (fun hHeld => ?_)
            clear hK K
            try simp only [Act.put, List.setIfInBounds_toArray, List.set_cons_zero, List.set_cons_succ]
            refine wpAnyH_ready (rs := [10]) (by kernel_rfl) (by simp) ?_
            refine (AllReadyH.cons (o := ⟨some 79, _, _, _, _, _⟩) rfl (fun K hK => ?_) AllReadyH.nil)
            go_simp
            refine (HI.out _ hHeld).mono ?_
            rintro e v6 ⟨B6, c6, rfl, hP6⟩
            have hq6 := hHeld.trans hP6.keeps (fun _ _ h => h)
            have hbase := hHeld
            have hlt1 := hz1.lt
            have hlt2 := hz2.lt
            replace hz1 := hP6.keeps.blk hz1 (fun h => h)
            replace hz2 := hP6.keeps.blk hz2 (fun h => h)
            refine hK.out _ _ hq6 (fun hHeld => ?_)
            clear hK K
            try simp only [Act.put, List.setIfInBounds_toArray, List.set_cons_zero, List.set_cons_succ]
            refine wpAnyH_take (i := 11) (oi := ⟨some 68, _, _, _, _, _⟩) (v := ?_) rfl (by kernel_rfl) (by kernel_rfl) (by kernel_rfl) (fun _ _ _ h => h) (Or.inl ⟨by rfl, ?_⟩) hHeld ?_
            rotate_left
            · intro w' hSw
              go_simp
              first | done | rfl
            try simp only [Act.put, List.setIfInBounds_toArray, List.set_cons_zero, List.set_cons_succ]
            refine wpAnyH_take (i := 12) (oi := ⟨some 80, _, _, _, _, _⟩) (v := ?_) rfl (by kernel_rfl) (by kernel_rfl) (by kernel_rfl) (fun _ _ _ h => h) (Or.inl ⟨by rfl, ?_⟩) hHeld ?_
            rotate_left
            · intro w' hSw
              go_simp
              first | done | rfl
            try simp only [Act.put, List.setIfInBounds_toArray, List.set_cons_zero, List.set_cons_succ]
            refine wpAnyH_take (i := 13) (oi := ⟨some 81, _, _, _, _, _⟩) (v := ?_) rfl (by kernel_rfl) (by kernel_rfl) (by kernel_rfl) (fun _ _ _ h => h) (Or.inl ⟨by rfl, ?_⟩) hHeld ?_
            rotate_left
            · intro w' hSw
              go_simp
              first | done | rfl
            try simp only [Act.put, List.setIfInBounds_toArray, List.set_cons_zero, List.set_cons_succ]
            refine wpAnyH_take (i := 14) (oi := ⟨some 82, _, _, _, _, _⟩) (v := ?_) rfl (by kernel_rfl) (by kernel_rfl) (by kernel_rfl) (fun _ _ _ h => h) (Or.inl ⟨by rfl, ?_⟩) hHeld ?_
            rotate_left
            · intro w' hSw
              go_simp
              first | done | rfl
            try simp only [Act.put, List.setIfInBounds_toArray, List.set_cons_zero, List.set_cons_succ]
            refine wpAnyH_ready (rs := [17]) (by kernel_rfl) (by simp) ?_
            refine (AllReadyH.cons (o := ⟨none, _, _, _, _, _⟩) rfl (fun K hK => ?_) AllReadyH.nil)
            have HNE := Lib.hid (Nat.ne_of_lt (hz2w))
            refine stepH_store rfl 23 _ _ rfl AV rfl rfl hz1 (by rw [HAL.out]; simp) HIA.out HA1.out ?_
            have hz2' := hz2.setRow_far HNE.out AV.toArray
            have hz1' := hz1.setRow AV
            refine hK.out _ _ (hHeld.setRow (.inr hg1) _) (fun hHeld => ?_)
            clear hK K
            try simp only [Act.put, List.setIfInBounds_toArray, List.set_cons_zero, List.set_cons_succ]
            refine wpAnyH_ready (rs := [18]) (by kernel_rfl) (by simp) ?_
            refine (AllReadyH.cons (o := ⟨none, _, _, _, _, _⟩) rfl (fun K hK => ?_) AllReadyH.nil)
            
            refine stepH_store rfl 23 _ _ rfl DV rfl rfl hz2' (by rw [HDL.out]; simp) HIN.out HD1.out ?_
            have hzb := hz2'.setRow DV
            have hza := hz1'.setRow_far HNE.out.symm DV.toArray
            refine hK.out _ _ (hHeld.setRow (.inr hg2) _) (fun hHeld => ?_)
            clear hK K
            try simp only [Act.put, List.setIfInBounds_toArray, List.set_cons_zero, List.set_cons_succ]
            refine wpAnyH_take (i := 19) (oi := ⟨some 21, _, _, _, _, _⟩) (v := ?_) rfl (by kernel_rfl) (by kernel_rfl) (by kernel_rfl) (fun _ _ _ h => h) (Or.inl ⟨by rfl, ?_⟩) hHeld ?_
            rotate_left
            · intro w' hSw
              go_simp
              first | done | rfl
            try simp only [Act.put, List.setIfInBounds_toArray, List.set_cons_zero, List.set_cons_succ]
            refine wpAnyH_done (by kernel_rfl) ?_ _
            have hPz := hP6.out hbase (Keeps.setRow (g := W3.drew.heap.size) (Keeps.setRow (g := W3.drew.heap.size + 1) (Keeps.refl (fun i => W3.heap.size ≤ i ∧ i < (((W3.drew).alloc (.cells (List.replicate 32 (Value.int .u8 0)).toArray 23)).alloc (.cells (List.replicate 32 (Value.int .u8 0)).toArray 23)).heap.size) v6) (.inl ⟨hg1, hlt1⟩) AV.toArray) (.inl ⟨hg2, hlt2⟩) DV.toArray) (fun _ h => h.1) (fun _ h => h.2)
            go_wp2_with fail
            go_meet
            refine ⟨_, _, B6, N, c6, rfl, rfl, rfl, Lib.hid ⟨hza, hzb, hPz, ?_, rfl⟩⟩
            intro g hgo
            obtain ⟨ho1, ho2⟩ := own_between hP6 g hgo
            have := hbase.size
            simp only [World.size_alloc, drew_size] at *
            have := hlt1
            have := hlt2
            exact ⟨by omega, by omega, by omega⟩
      case rest =>
        obtain ⟨ga, gd, B6, N6, c6, rfl, rfl, rfl, HX⟩ := hcut
        have hNN := HX.out.2.2.2.2.symm
        subst hNN
        have HO := Lib.hid HX.out.2.2.2.1
        have HRA : Hid (∀ W, Keeps (fun _ => False) wc W → W.rangeAt ga 0 AV) := Lib.hid fun W hW j v hv => by rw [Nat.zero_add, (hW.blk HX.out.1 (fun h => h)).cell]; exact hv
        have HRD : Hid (∀ W, Keeps (fun _ => False) wc W → W.rangeAt gd 0 DV) := Lib.hid fun W hW j v hv => by rw [Nat.zero_add, (hW.blk HX.out.2.1 (fun h => h)).cell]; exact hv
        have HRP : Hid (∀ W, Keeps (fun _ => False) wc W → W.rangeAt W1.heap.size 0 EV) := Lib.hid fun W hW j v hv => by rw [Nat.zero_add, (hW.blk (HX.out.2.2.1.keeps.blk HBE.out (fun h => h)) (fun h => h)).cell]; exact hv
        replace HZ1 := Lib.hid (HK3.out.blk HZ1.out (fun h => h))
        replace HZ2 := Lib.hid (HK3.out.blk HZ2.out (fun h => h))
        replace HPA := Lib.hid (HPA.out wc)
        replace HPR := Lib.hid (HPR.out wc)
        replace HEL := Lib.hid (HEL.out wc)
        replace HPB := Lib.hid (HPB.out wc)
        replace HPS := Lib.hid (HPS.out wc)
        replace HES := Lib.hid (HES.out wc)
        go_upto_region 12 with fail
        refine wp_region_tail (S := Keeps (fun _ => False) wc) 14 (by kernel_rfl) (Keeps.refl _ _).drew (fun hHeld => ?_)
        refine wpAnyT_take [0, 2, 5, 9, 12] (i := 0) (oi := ⟨some 83, _, _, _, _, _⟩) (v := _) rfl (by kernel_rfl) (by kernel_rfl) (by kernel_rfl) (by kernel_rfl) (by kernel_rfl) (fun _ _ _ h => h) (yieldsIf_load_mid (by rfl) _ _ rfl _ _ rfl EV _ (fun w' h => HRP.out _ h) Tryd.underlying23 rfl HIE.out) hHeld ?_
        try simp only [Act.put, List.setIfInBounds_toArray, List.set_cons_zero, List.set_cons_succ]
        refine wpAnyT_take [1, 2, 5, 9, 12] (i := 1) (oi := ⟨some 84, _, _, _, _, _⟩) (v := _) rfl (by kernel_rfl) (by kernel_rfl) (by kernel_rfl) (by kernel_rfl) (by kernel_rfl) (fun _ _ _ h => h) (yieldsIf_load_mid (by rfl) _ _ rfl _ _ rfl AV _ (fun w' h => HRA.out _ h) Tryd.underlying23 rfl HIA.out) hHeld ?_
        try simp only [Act.put, List.setIfInBounds_toArray, List.set_cons_zero, List.set_cons_succ]
        refine wpAnyT_take [3, 5, 9, 12, 14] (i := 3) (oi := ⟨some 86, _, _, _, _, _⟩) (v := _) rfl (by kernel_rfl) (by kernel_rfl) (by kernel_rfl) (by kernel_rfl) (by kernel_rfl) (fun _ _ _ h => h) (yieldsIf_load_mid (by rfl) _ _ rfl _ _ rfl EV _ (fun w' h => HRP.out _ h) Tryd.underlying23 rfl HIE.out) hHeld ?_
        try simp only [Act.put, List.setIfInBounds_toArray, List.set_cons_zero, List.set_cons_succ]
        refine wpAnyT_take [4, 5, 9, 12, 14] (i := 4) (oi := ⟨some 87, _, _, _, _, _⟩) (v := _) rfl (by kernel_rfl) (by kernel_rfl) (by kernel_rfl) (by kernel_rfl) (by kernel_rfl) (fun _ _ _ h => h) (yieldsIf_load_mid (by rfl) _ _ rfl _ _ rfl DV _ (fun w' h => HRD.out _ h) Tryd.underlying23 rfl HIN.out) hHeld ?_
        try simp only [Act.put, List.setIfInBounds_toArray, List.set_cons_zero, List.set_cons_succ]
        refine wpAnyT_pure (i := 6) (oi := ⟨some 89, _, _, _, _, _⟩) (v := ?_) rfl (by kernel_rfl) (by kernel_rfl) (by kernel_rfl) (fun _ _ _ h => h) (Or.inl ⟨by rfl, ?_⟩) ?_
        rotate_left
        · intro w' hSw
          go_simp
          first | done | rfl
        try simp only [Act.put, List.setIfInBounds_toArray, List.set_cons_zero, List.set_cons_succ]
        refine wpAnyT_take [7, 9, 12, 14, 15] (i := 7) (oi := ⟨some 90, _, _, _, _, _⟩) (v := _) rfl (by kernel_rfl) (by kernel_rfl) (by kernel_rfl) (by kernel_rfl) (by kernel_rfl) (fun _ _ _ h => h) (yieldsIf_load_mid (by rfl) _ _ rfl _ _ rfl EV _ (fun w' h => HRP.out _ h) Tryd.underlying23 rfl HIE.out) hHeld ?_
        try simp only [Act.put, List.setIfInBounds_toArray, List.set_cons_zero, List.set_cons_succ]
        refine wpAnyT_take [8, 9, 12, 14, 15] (i := 8) (oi := ⟨some 91, _, _, _, _, _⟩) (v := _) rfl (by kernel_rfl) (by kernel_rfl) (by kernel_rfl) (by kernel_rfl) (by kernel_rfl) (fun _ _ _ h => h) (yieldsIf_load_mid (by rfl) _ _ rfl _ _ rfl AV _ (fun w' h => HRA.out _ h) Tryd.underlying23 rfl HIA.out) hHeld ?_
        try simp only [Act.put, List.setIfInBounds_toArray, List.set_cons_zero, List.set_cons_succ]
        refine wpAnyT_take [10, 12, 14, 15] (i := 10) (oi := ⟨some 93, _, _, _, _, _⟩) (v := _) rfl (by kernel_rfl) (by kernel_rfl) (by kernel_rfl) (by kernel_rfl) (by kernel_rfl) (fun _ _ _ h => h) (yieldsIf_load_mid (by rfl) _ _ rfl _ _ rfl EV _ (fun w' h => HRP.out _ h) Tryd.underlying23 rfl HIE.out) hHeld ?_
        try simp only [Act.put, List.setIfInBounds_toArray, List.set_cons_zero, List.set_cons_succ]
        refine wpAnyT_take [11, 12, 14, 15] (i := 11) (oi := ⟨some 94, _, _, _, _, _⟩) (v := _) rfl (by kernel_rfl) (by kernel_rfl) (by kernel_rfl) (by kernel_rfl) (by kernel_rfl) (fun _ _ _ h => h) (yieldsIf_load_mid (by rfl) _ _ rfl _ _ rfl DV _ (fun w' h => HRD.out _ h) Tryd.underlying23 rfl HIN.out) hHeld ?_
        try simp only [Act.put, List.setIfInBounds_toArray, List.set_cons_zero, List.set_cons_succ]
        refine wpAnyT_step (i := 2) (o := ⟨some 85, _, _, _, _, _⟩) (by kernel_rfl) rfl (fun K hK => ?_)
        go_simp
        refine (HPB.out _ hHeld).mono ?_
        rintro e v4 ⟨rfl, hk4⟩
        have hq4 := hHeld.trans hk4 (fun _ _ h => h)
        refine hK.out _ _ hq4 (fun hHeld => ?_)
        clear hK K
        try simp only [Act.put, List.setIfInBounds_toArray, List.set_cons_zero, List.set_cons_succ]
        refine wpAnyT_step (i := 5) (o := ⟨some 88, _, _, _, _, _⟩) (by kernel_rfl) rfl (fun K hK => ?_)
        go_simp
        refine (HPA.out _ hHeld).mono ?_
        rintro e v5 ⟨rfl, hk5⟩
        have hq5 := hHeld.trans hk5 (fun _ _ h => h)
        refine hK.out _ _ hq5 (fun hHeld => ?_)
        clear hK K
        try simp only [Act.put, List.setIfInBounds_toArray, List.set_cons_zero, List.set_cons_succ]
        refine wpAnyT_step (i := 9) (o := ⟨some 92, _, _, _, _, _⟩) (by kernel_rfl) rfl (fun K hK => ?_)
        go_simp
        refine (HPS.out _ hHeld).mono ?_
        rintro e v7 ⟨A7, c7, rfl, hM7⟩
        have hq7 := hHeld.trans hM7.2.1 (fun _ _ h => h)
        have HE7 := HES.out _ v7 A7 c7 hHeld hM7
        refine hK.out _ _ hq7 (fun hHeld => ?_)
        clear hK K
        try simp only [Act.put, List.setIfInBounds_toArray, List.set_cons_zero, List.set_cons_succ]
        refine wpAnyT_step (i := 12) (o := ⟨some 95, _, _, _, _, _⟩) (by kernel_rfl) rfl (fun K hK => ?_)
        go_simp
        refine (HPR.out _ hHeld).mono ?_
        rintro e v8 ⟨A8, c8, rfl, hM8⟩
        have hq8 := hHeld.trans hM8.2.1 (fun _ _ h => h)
        have HE8 := HEL.out _ v8 A8 c8 hHeld hM8
        have HE9 := (HE7.keep hM8.2.1 (fun _ _ h => h)).app HE8
        refine hK.out _ _ hq8 (fun hHeld => ?_)
        clear hK K
        try simp only [Act.put, List.setIfInBounds_toArray, List.set_cons_zero, List.set_cons_succ]
        refine wpAnyT_step (i := 13) (o := ⟨some 96, _, _, _, _, _⟩) (by kernel_rfl) rfl (fun K hK => ?_)
        go_simp
        refine hK.out _ _ (hHeld.alloc _) (fun hHeld => ?_)
        clear hK K
        try simp only [Act.put, List.setIfInBounds_toArray, List.set_cons_zero, List.set_cons_succ]
        refine wpAnyT_tail (i := 14) (o := ⟨some 97, _, _, _, _, _⟩) (by kernel_rfl) (by kernel_rfl) rfl (fun K hK => ?_)
        refine step_append_rows W3 wc rfl (.tmp 89) (.tmp 96) 26 rfl 22 (.slice none 0 0) Tryd.underlying26 infoRows rfl B6 N c6 RS rfl HX.out.2.2.1 (hq8.alloc (.cells #[Value.slice A7 65 c7, Value.slice A8 65 c8] 22)) ⟨v8.heap.size, 0, none⟩ 2 2 [ROW2, ROW] [Value.slice A7 65 c7, Value.slice A8 65 c8] rfl rfl (cell_two_new v8 _ _ _) (HE9.keep ((Keeps.refl (fun _ => False) v8).alloc _) (fun _ _ h => h)) (by intro x hx; simp only [List.mem_cons, List.not_mem_nil, or_false] at hx; rcases hx with rfl | rfl <;> rfl) (by omega) ?_
        intro B9 c9 v9 hP9 _
        refine hK.out _ _ ?_
        clear hK K
        try simp only [Act.put, List.setIfInBounds_toArray, List.set_cons_zero, List.set_cons_succ]
        refine wpAnyT_tail (i := 15) (o := ⟨none, _, _, _, _, _⟩) (by kernel_rfl) (by kernel_rfl) rfl (fun K hK => ?_)
        
        refine stepH_store rfl 23 _ _ rfl GV rfl rfl (hP9.keeps.blk HZ1.out (fun h => h)) (by rw [HGL.out]; simp) HIG.out HG1.out ?_
        have hb2 := (hP9.keeps.blk HZ2.out (fun h => h)).setRow_far (by omega : w.heap.size + 1 + 1 ≠ w.heap.size + 1) GV.toArray
        have hb1 := (hP9.keeps.blk HZ1.out (fun h => h)).setRow GV
        refine hK.out _ _ ?_
        clear hK K
        try simp only [Act.put, List.setIfInBounds_toArray, List.set_cons_zero, List.set_cons_succ]
        refine wpAnyT_tail (i := 16) (o := ⟨none, _, _, _, _, _⟩) (by kernel_rfl) (by kernel_rfl) rfl (fun K hK => ?_)
        
        refine stepH_store rfl 23 _ _ rfl FV rfl rfl hb2 (by rw [HFL.out]; simp) HIF.out HF1.out ?_
        refine hK.out _ _ ?_
        clear hK K
        try simp only [Act.put, List.setIfInBounds_toArray, List.set_cons_zero, List.set_cons_succ]
        refine wpAnyT_tail (i := 17) (o := ⟨some 12, _, _, _, _, _⟩) (by kernel_rfl) (by kernel_rfl) rfl (fun K hK => ?_)
        go_simp
        refine hK.out _ _ ?_
        clear hK K
        try simp only [Act.put, List.setIfInBounds_toArray, List.set_cons_zero, List.set_cons_succ]
        refine wpAnyT_done (by kernel_rfl) ?_
        go_wp2
        refine bodyPost_ret (results_blk2_tmp rfl _ _ rfl rfl (hb1.setRow_far (by omega : w.heap.size + 1 ≠ w.heap.size + 1 + 1) FV.toArray) (hb2.setRow FV) Tryd.underlying23 rfl HIG.out HIF.out) rfl ⟨B9, c9, rfl, ?_⟩
        exact hP9.out HK13.out (((Keeps.refl (fun i => i = w.heap.size + 1 ∨ i = w.heap.size + 1 + 1) v9).setRow (.inl (.inl rfl)) _).setRow (.inl (.inr rfl)) _) (fun g e => by omega) (fun g e => by have := HZ1.out.lt; have := HZ2.out.lt; have := HK3.out.size; omega)
end Go.Proofs.YtknecjjdegngfaaDoor
