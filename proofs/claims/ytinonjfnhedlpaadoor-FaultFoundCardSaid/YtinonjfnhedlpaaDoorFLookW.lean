/-
  WALKS: Look.
-/
import Derived.Test.YtinonjfnhedlpaaDoorFCollK
set_option linter.unusedSimpArgs false
namespace Go.Proofs.YtinonjfnhedlpaaDoor
open Go Go.RowKit Go.Shelf Go.Aff Go.Fault
attribute [local go_sem] Oper.semAt_some
theorem infoSeenZ : (Tryd.prog.info? 36).map (fun i => (i.zero, i.size, i.bytes)) = some (some (.agg seenZ.toArray), 6, 56) := by kernel_rfl
/-- What Look tells. -/
def looksF (l : List (Nat × VT)) : List Value := l.flatMap fun p => seenV p.1 p.2
def LookPost (w : World) (cs : List CauseV) (e : Ending) (w' : World) : Prop := Keeps (fun _ => False) w w' ∧ (∀ er, buildF cs = .inl er → e = .returned (.tuple #[.slice none 0 0, spotE er.1 er.2])) ∧
  ∀ t, buildF cs = .inr t → ∃ v, e = .returned (.tuple #[v, .nilIface]) ∧ w'.ownsRow 0 36 6 v t.count (looksF (t.items 1)) ∧ ∀ g, v.ownBlock = some g → w.heap.size ≤ g
theorem looksF_erase (t : VT) : looksF (t.erase.items 1) = looksF (t.items 1) := by
  simp [looksF, VT.items_erase, List.flatMap_map, plainI, seenV_erase]
/-- While it is looked at. -/
def LookI (w : World) (B : Nat) (vt : VT) (pre : List (XI (vt.items 1))) (W : World) : Prop :=
  Keeps (fun _ => False) w W ∧ At (fun i => ¬ OwnB [B] W i) W vt ∧ ∃ v, Coll w.heap.size B 28 36 6 W v pre.length (looksF (pre.map (·.1)))
theorem LookI.ck {w : World} {B m : Nat} {vt : VT} {pre : List (XI (vt.items 1))} {W W' : World} (h : LookI w B vt pre W) (k : CK m W W') (hm : w.heap.size ≤ m) : LookI w B vt pre W' := by
  obtain ⟨h1, h2, v, h3⟩ := h
  refine ⟨k.keeps h1 hm, (h2.ck k).mono fun i hi _ ho => hi (OwnB.ck k (fun B' hB' => ?_) ho), v, h3.ck k⟩
  obtain rfl := List.mem_singleton.1 hB'
  exact ⟨_, _, _, h3.blk⟩
set_option maxHeartbeats 4000000 in
set_option maxRecDepth 100000 in
theorem Look_any (w : World) (A : Option Addr) (n c : Nat) (cs : List CauseV) (hn : cs.length = n) (hS : CausesAt w A cs) :
    Calls Tryd.prog 6 #[.slice A n c] w (LookPost w cs) := by
  have HB := Lib.hid (Build_any w A n c cs hn hS)
  clear hS hn
  have hdd : ∀ k : Nat, (Fence.wide.depth.isSome = true → 1 ≤ k) := fun k h => by cases h
  cases hb : buildF cs with
  | inl er =>
    have HBR : Hid (∀ e w', BuildPost w cs e w' → e = .returned (.tuple #[.nilIface, .iface 40 (.agg #[.int .i64 er.1, .int .i64 er.2])]) ∧ Hid (Keeps (fun _ => False) w w')) := Lib.hid fun e w' h => ⟨h.2.1 er hb, Lib.hid h.1⟩
    have HBF := Lib.hid hb
    clear hb
    refine (callsIn_wide (n := 8)).1 ?_
    refine callsIn_of_wp_marks Tryd.func6 rfl trivial ?_ rfl
    simp only [Tryd.ntmps6, List.size_toArray, List.length_cons, List.length_nil, Nat.reduceAdd, Nat.reduceSub, Array.replicate_succ, Array.replicate_zero, List.push_toArray, List.append_toArray, List.nil_append, List.cons_append]
    gi_wp2_with ((try refine ⟨trivial, ?_⟩); (try refine ⟨hdd _, ?_⟩); gi_at_call 4; refine (callsIn_wide.2 HB.out).mono ?_; intro e w1 hp; obtain ⟨rfl, HK⟩ := HBR.out e w1 hp; clear hp)
    refine ⟨_, results_tmp2 rfl _ _ _, ?_⟩
    exact ⟨HK.out, fun er2 h => (by rw [HBF.out] at h; injection h with h; subst h; rfl), fun t h => (by rw [HBF.out] at h; cases h)⟩
  | inr t =>
    have HBR : Hid (∀ e w', BuildPost w cs e w' → ∃ vt x, x = vv vt ∧ e = .returned (.tuple #[x, .nilIface]) ∧ Hid (Keeps (fun _ => False) w w' ∧ vt.erase = t ∧ At (fun i => w.heap.size ≤ i) w' vt ∧ vt.deep ≤ 512)) := Lib.hid fun e w' h => by
      obtain ⟨vt, h1, h2, h3, h4⟩ := h.2.2 t hb
      exact ⟨vt, _, rfl, h2, Lib.hid ⟨h.1, h1, h3, h4⟩⟩
    have HCN := Lib.hid (buildF_count hb)
    have HBF := Lib.hid hb
    clear hb
    refine (callsIn_wide (n := 8)).1 ?_
    refine callsIn_of_wp_marks Tryd.func6 rfl trivial ?_ rfl
    simp only [Tryd.ntmps6, List.size_toArray, List.length_cons, List.length_nil, Nat.reduceAdd, Nat.reduceSub, Array.replicate_succ, Array.replicate_zero, List.push_toArray, List.append_toArray, List.nil_append, List.cons_append]
    gi_wp2_with (first
      | ((try refine ⟨trivial, ?_⟩); (try refine ⟨hdd _, ?_⟩); gi_at_call 4; refine (callsIn_wide.2 HB.out).mono ?_; intro e w1 hp; obtain ⟨vt, x, hx, rfl, HK⟩ := HBR.out e w1 hp; have HX := Lib.hid hx; clear hp hx)
      | ((try refine ⟨trivial, ?_⟩); (try refine ⟨hdd _, ?_⟩); gi_at_call 16; rw [HX.out]; refine (callsIn_wide.2 (all_any _ vt)).mono ?_; rintro e w2 ⟨rfl, hw2⟩; have HW2 := Lib.hid hw2; clear hw2))
    obtain ⟨k1, e1, a1, d1⟩ := HK.out
    have hx := HX.out
    obtain ⟨B, hB⟩ : ∃ B, B = w1.heap.size := ⟨_, rfl⟩
    have hw2 := HW2.out
    have k2 : Keeps (fun _ => False) w1 w2 := by rw [hw2]; exact ((Keeps.refl _ w1).alloc _).alloc _
    have bB : Blk w2 B 28 [.slice none 0 0] := by rw [hw2, hB]; exact (Blk.new w1 _ _).alloc _
    have bE : Blk w2 (B + 1) 24 [vv vt] := by
      have h1 := Blk.new (w1.alloc (.cells #[.slice none 0 0] 28)) 24 [vv vt]
      rw [World.size_alloc] at h1
      rw [hw2, hB]
      exact h1
    have hBl : ∀ B', B' ∈ [B] → B' < w2.heap.size := fun B' h => by rw [List.mem_singleton.1 h]; exact bB.lt
    have hOB : ∀ i, OwnB [B] w2 i → i = B := fun i h => by
      rcases h with h | ⟨B', hB', a, n', c', hc, rfl⟩
      · exact List.mem_singleton.1 h
      · obtain rfl := List.mem_singleton.1 hB'
        have h1 : w2.cell? ⟨B', 0, none⟩ = some (.slice none 0 0) := bB.cell 0
        rw [hc] at h1
        injection h1 with h1
        injection h1 with h1
        cases h1
    have hat : At (fun i => ¬ OwnB [B] w2 i) w2 vt := by
      have h1 := (a1.mono (C := fun i => i < w1.heap.size) fun i _ hl => hl).keep k2 (fun _ _ h => h)
      exact h1.mono fun i hi _ ho => by have := hOB i ho; omega
    have hkw2 := k1.trans k2 (fun _ _ h => h)
    have hI0 : LookI w B vt [] w2 := ⟨hkw2, hat, _, bB, World.ownsRow_nil _ _ _ _, fun g h => (by cases h)⟩
    rw [← hB]
    have HBW := Lib.hid hB
    have k0 := k1.size
    clear hB hw2 HW2 hx
    refine wpIn_rangeFunc_ownG rfl (by omega) (gf := 32) (lb := #[.pointer (some ⟨B + 1, 0, none⟩)]) rfl trivial (enters_of Tryd.func32 (by kernel_rfl) rfl)
      (all_stops _ [B] (B + 1) vt w2 hBl (fun i h => by rw [hOB i h]; exact bB.lt) bE hat (by omega)) (fun h k => KpO.trans h k) (fun W l o o' h1 h2 h3 _ => OwnB.kb hBl W l o o' h1 h2 h3) (Below.refl _ _) (fun _ => rfl)
      (LookI w B vt) (fun _ _ _ => False) (ownFrom_cells _ _ fun _ _ _ h k => h.ck k hkw2.size) (fun _ _ _ _ _ h _ _ => h) hI0
      (fun x => { tmps := #[.slice A n c, undef, .slice none 0 0, .nilIface, vv vt, .nilIface, .pointer (some ⟨B, 0, none⟩), .int .i64 (x.1.1 : Nat), vv x.1.2, .tuple #[vv vt, .nilIface],
        .slice A n c, .tuple #[vv vt, .nilIface], vv vt, .nilIface, .nilIface, .bool false, undef, vv vt, .func (.func 32) #[] #[.pointer (some ⟨B + 1, 0, none⟩)], .int .i64 (x.1.1 : Nat), vv x.1.2, undef, undef, undef, undef, undef, undef, undef], defers := [] }) ?assign ?body ?done ?stop
    case assign =>
      intro l x W K hK
      simp only [encI]
      gi_wp2
      exact hK
    case body =>
      rintro l pre x W ⟨h1, h2, v, h3⟩ hlt
      obtain ⟨A3, c3, rfl⟩ := own_shape h3.own
      have HSN : Hid (∀ W2, Keeps (fun _ => False) W W2 → Calls Tryd.prog 17 #[vv x.1.2, .int .i64 (x.1.1 : Nat)] W2 fun e w' => e = .returned (.agg (seenV x.1.1 x.1.2).toArray) ∧ Keeps (fun _ => False) W2 w') := Lib.hid fun W2 hk => seen_any W2 _ x.1.2 ((h2.item 1 x.1 x.2).keep hk (fun _ _ h => h)) x.1.1
      obtain ⟨XS, hXS⟩ : ∃ XS, XS = seenV x.1.1 x.1.2 := ⟨_, rfl⟩
      rw [← hXS] at HSN
      have HXS := Lib.hid hXS
      have HXL : Hid (XS.length = 6) := Lib.hid (by rw [hXS]; exact seenV_length _ _)
      have HXO : Hid (∀ u ∈ XS, u.oneCell' = true) := Lib.hid (by rw [hXS]; exact seenV_one _ _)
      obtain ⟨dd, hdd2⟩ : ∃ dd, dd = x.1.1 := ⟨_, rfl⟩
      obtain ⟨xv, hxv⟩ : ∃ xv, xv = vv x.1.2 := ⟨_, rfl⟩
      rw [← hdd2, ← hxv] at HSN
      rw [← hdd2, ← hxv]
      have HC := Lib.hid h3
      have HFO : Hid (∀ cs : Array Value, cs.size = 6 → List.foldl (fun (cs : Array Value) (x : Value × Nat) => cs.setIfInBounds x.snd x.fst) cs XS.zipIdx = XS.toArray) := Lib.hid fun cs h => fold_zip0 XS cs (by rw [HXL.out]; exact h)
      have HLT : Hid (pre.length < 131072) := Lib.hid (by have := HCN.out; rw [← e1, VT.count_erase] at this; simp only [VT.count] at this; omega)
      have HNB : Hid ((Value.slice A3 pre.length c3).ownBlock ≠ some B) := Lib.hid (own_blk h3.own h3.blk (by decide))
      have H12 := Lib.hid (And.intro h1 h2)
      clear hXS hdd2 hxv h3 h1 h2 hkw2 hI0 hOB hat bE bB k2 a1 k1
      refine wpIn_block ?_
      refine wpIn_round_tail (S := Keeps (fun _ => False) W) 5 (by rintro ⟨_, _, h⟩; exact h) (by kernel_rfl) (by kernel_rfl) (Keeps.refl _ _).drew (fun hHeld => ?_)
      refine wpAnyT_take [0] (i := 0) (oi := ⟨some 21, _, _, _, _, _⟩) (v := ?_) rfl (by kernel_rfl) (by kernel_rfl) (by kernel_rfl) (by kernel_rfl) (by kernel_rfl) (fun _ _ _ h => h) (Or.inl ⟨by rfl, ?_⟩) hHeld ?_
      rotate_left
      · intro w' hSw
        have cv := (HC.out.keep hSw).blk.cell 0
        go_simp
        first | done | rfl
      try simp only [Act.put, List.setIfInBounds_toArray, List.set_cons_zero, List.set_cons_succ]
      refine wpAnyT_pure (i := 1) (oi := ⟨some 22, _, _, _, _, _⟩) (v := ?_) rfl (by kernel_rfl) (by kernel_rfl) (by kernel_rfl) (fun _ _ _ h => h) (Or.inl ⟨by rfl, ?_⟩) ?_
      rotate_left
      · intro w' hSw
        go_simp
        first | done | rfl
      try simp only [Act.put, List.setIfInBounds_toArray, List.set_cons_zero, List.set_cons_succ]
      refine wpAnyT_pure (i := 2) (oi := ⟨some 23, _, _, _, _, _⟩) (v := ?_) rfl (by kernel_rfl) (by kernel_rfl) (by kernel_rfl) (fun _ _ _ h => h) (Or.inl ⟨by rfl, ?_⟩) ?_
      rotate_left
      · intro w' hSw
        go_simp
        first | done | rfl
      try simp only [Act.put, List.setIfInBounds_toArray, List.set_cons_zero, List.set_cons_succ]
      refine wpAnyT_step (i := 3) (o := ⟨some 24, _, _, _, _, _⟩) (by kernel_rfl) rfl (fun K hK => ?_)
      go_simp
      refine (HSN.out _ hHeld).mono ?_
      rintro e W2 ⟨rfl, hk2⟩
      have hU2 : Keeps (fun _ => False) W W2 := hHeld.trans hk2 (fun _ _ h => h)
      refine hK.out _ _ hU2 (fun hHeld => ?_)
      clear hK K
      try simp only [Act.put, List.setIfInBounds_toArray, List.set_cons_zero, List.set_cons_succ]
      refine wpAnyT_step (i := 4) (o := ⟨some 25, _, _, _, _, _⟩) (by kernel_rfl) rfl (fun K hK => ?_)
      have hxl := HXL.out
      go_simp
      rw [HFO.out _ rfl]
      go_simp
      refine gen_KA (fun V => Keeps (fun _ => False) W2 V ∧ Blk V W2.heap.size 36 XS) ⟨(Keeps.refl _ W2).alloc _, Blk.new W2 _ XS⟩ ?_
      rintro W4 ⟨hk4, hb4⟩
      have hU4 : Keeps (fun _ => False) W W4 := hU2.trans hk4 (fun _ _ h => h)
      refine hK.out _ _ hU4 (fun hHeld => ?_)
      clear hK K
      try simp only [Act.put, List.setIfInBounds_toArray, List.set_cons_zero, List.set_cons_succ]
      refine wpAnyT_tail (i := 5) (o := ⟨some 26, _, _, _, _, _⟩) (by kernel_rfl) (by kernel_rfl) rfl (fun K hK => ?_)
      refine step_append_own rfl (.tmp 21) (.tmp 25) 28 rfl 36 (.agg seenZ.toArray) 6 56 Tryd.underlying28 infoSeenZ rfl (by decide) A3 pre.length c3 _ rfl (hU4.own HC.out.own (fun _ _ h => h)) ⟨W2.heap.size, 0, none⟩ 1 1 XS rfl (by rw [HXL.out]) (fun j y hy => by rw [add_at, Nat.zero_add, hb4.cell]; exact hy) HXO.out (by have := HLT.out; simp only [maxLen]; omega) (by have := HLT.out; omega) ?_
      intro A5 c5 W5 hown5 hg5 hbk5
      have hk5 := Keeps.of_grown hg5
      have hU5 := (hU4.mono (G := fun i => (Value.slice A3 pre.length c3).ownBlock = some i) (fun _ _ h => h.elim)).trans hk5 (fun _ _ h => h)
      have hbB := hU5.blk HC.out.blk HNB.out
      have hst := hbB.cell 0
      have hst2 := hbB.frozen 0
      refine hK.out _ _ ?_
      clear hK K
      try simp only [Act.put, List.setIfInBounds_toArray, List.set_cons_zero, List.set_cons_succ]
      refine wpAnyT_tail (i := 6) (o := ⟨none, _, _, _, _, _⟩) (by kernel_rfl) (by kernel_rfl) rfl (fun K hK => ?_)
      go_simp
      refine hK.out _ _ ?_
      clear hK K
      try simp only [Act.put, List.setIfInBounds_toArray, List.set_cons_zero, List.set_cons_succ]
      refine wpAnyT_done (by kernel_rfl) ?_
      have hU6 : Keeps (fun i => i = B ∨ (Value.slice A3 pre.length c3).ownBlock = some i) W (W5.setCell ⟨B, 0, none⟩ (.slice A5 (pre.length + 1) c5)) := (hU5.mono (fun _ _ h => .inr h)).setCell (.inl (.inl rfl)) _
      have hnb : (Value.slice A5 (pre.length + 1) c5).ownBlock ≠ some B := own_blk hown5 hbB (by decide)
      have hC6 : Coll w.heap.size B 28 36 6 (W5.setCell ⟨B, 0, none⟩ (.slice A5 (pre.length + 1) c5)) (.slice A5 (pre.length + 1) c5) (pre ++ [x]).length (looksF ((pre ++ [x]).map (·.1))) := by
        refine ⟨hbB.set_ 0 _, ?_, fun g hg => ?_⟩
        · rw [List.length_append, List.length_singleton, show looksF ((pre ++ [x]).map (·.1)) = looksF (pre.map (·.1)) ++ XS by rw [HXS.out]; simp [looksF]]
          exact ((Keeps.refl (fun i => i = B) W5).setCell (.inl rfl) _).own hown5 (fun g hg e => by subst e; exact hnb hg)
        · rcases hbk5 with e | e
          · rw [e] at hg
            exact HC.out.hi g hg
          · rw [e] at hg
            injection hg with hg
            have := hU4.size
            have := H12.out.1.size
            omega
      have hkp : KpO (OwnB [B]) W (W5.setCell ⟨B, 0, none⟩ (.slice A5 (pre.length + 1) c5)) := Coll.kp HC.out hC6 hU6 (hbk5.imp id (fun h => ⟨_, h, hU4.size⟩))
      refine ⟨keepsFrom_of _ hU6 (fun i hi => ?_), hkp, H12.out.1.trans hU6 (fun i hi e => ?_), H12.out.2.kp hkp, _, hC6⟩
      · rcases hi with rfl | hi
        · exact ⟨_, _, _, HC.out.blk⟩
        · exact own_cells HC.out.own i hi
      · rcases e with rfl | e
        · have := HBW.out
          have := k0
          omega
        · have := HC.out.hi i e
          omega
    case stop =>
      rintro D c2 pre W _ _ h _
      exact h.elim
    case done =>
      rintro D ys W hD hys ⟨h1, h2, v, h3⟩ hK
      have cB := h3.blk.cell 0
      gi_wp2
      refine ⟨by simp, .inl ⟨_, _, rfl, run_takeDeferred hK, ?_⟩⟩
      refine ⟨_, results_tmp2 rfl _ _ _, ?_⟩
      have kp : CK w2.heap.size W (W.putObj D (.deferred none)) := CK.putObj hK rfl hD _
      have h4 := h3.ck kp
      have hw : w.heap.size ≤ w2.heap.size := by have := k2.size; omega
      refine ⟨kp.keeps h1 hw, fun er h => (by rw [HBF.out] at h; cases h), fun t2 h => ⟨v, rfl, ?_, h4.hi⟩⟩
      rw [HBF.out] at h
      injection h with h
      subst h
      have hl : ys.length = vt.count := by
        have := congrArg List.length hys
        simpa [VT.count] using this
      have h5 := h4.own
      rw [show ys.map (·.1) = vt.items 1 from hys, hl] at h5
      rw [← e1, VT.count_erase, looksF_erase]
      exact h5
end Go.Proofs.YtinonjfnhedlpaaDoor
