/-
  WALKS: write.
-/
import Derived.Test.YtnlnbgjpbnjjfaaDoorCopyW
import Derived.Laws.Cover3
namespace Go.Proofs.YtnlnbgjpbnjjfaaDoor
open Go Go.RowKit Go.Sha Go.Aff

theorem splice_hcells (S T : Nat → Int) (nb : Int) (v : Value) : Go.Aff.splice (hcells S nb v) 0 (wl T) = hcells T nb v := by
  simp [Go.Aff.splice, hcells, wl]
theorem wl_length (S : Nat → Int) : (wl S).length = 8 := by simp [wl]
theorem bl_length (B : Nat → Int) : (bl B).length = 64 := by simp [bl]
theorem wl_one (S : Nat → Int) : ∀ v ∈ wl S, v.oneCell' = true := by intro v hv; obtain ⟨i, _, rfl⟩ := List.mem_map.1 hv; rfl
theorem blockAt_bytes {Y : List Int} (h : IsBytes Y) (m i : Nat) : 0 ≤ blockAt Y m i ∧ blockAt Y m i < 256 := by
  unfold blockAt
  rw [List.getD_eq_getElem?_getD]
  rcases hq : Y[64 * m + i]? with _ | x
  · simp
  · exact h x (List.mem_of_getElem? hq)
theorem info8 : (Tryd.prog.info? 96).map (·.size) = some 8 := by kernel_rfl
theorem info64 : (Tryd.prog.info? 84).map (·.size) = some 64 := by kernel_rfl

/-- The block that a slice's first 64 bytes are. -/
theorem lies_block {w : World} {X bs : List Int} {j m g o n : Nat} (hj : X.length + j = 64 * m) (hn : 64 ≤ n) (hb : n = bs.length - j)
    (hc : ∀ i, i < n → w.cell? ⟨g, o + i, none⟩ = (vb (bs.drop j))[i]?) : Lies w g o (bl (blockAt (X ++ bs) m)) := by
  intro i hi
  rw [bl_length] at hi
  rw [hc i (by omega)]
  have h1 : (bl (blockAt (X ++ bs) m))[i]? = some (.int .u8 (blockAt (X ++ bs) m i)) := by simp [bl, hi]
  rw [h1]
  have hlt : j + i < bs.length := by omega
  unfold vb blockAt
  rw [List.getElem?_map, List.getElem?_drop, List.getElem?_eq_getElem hlt, List.getD_eq_getElem?_getD, List.getElem?_append_right (by omega),
    show 64 * m + i - X.length = j + i by omega, List.getElem?_eq_getElem hlt]
  rfl

/-- The block that a hash's rest is, filled up. -/
theorem lies_full {w : World} {X bs : List Int} {r k g o : Nat} (hr : r = X.length % 64) (hrk : r + k = 64) (hk : k ≤ bs.length)
    (hc : ∀ i, i < r + k → w.cell? ⟨g, o + i, none⟩ = (vb (X.drop (64 * (X.length / 64))) ++ vb (bs.take k))[i]?) : Lies w g o (bl (blockAt (X ++ bs) (X.length / 64))) := by
  intro i hi
  rw [bl_length] at hi
  rw [hc i (by omega)]
  have h1 : (bl (blockAt (X ++ bs) (X.length / 64)))[i]? = some (.int .u8 (blockAt (X ++ bs) (X.length / 64) i)) := by simp [bl, hi]
  rw [h1]
  have hl : (X.drop (64 * (X.length / 64))).length = r := by rw [List.length_drop]; omega
  unfold vb blockAt
  rw [← List.map_append, List.getElem?_map, List.getD_eq_getElem?_getD]
  by_cases h : i < r
  · have hx : 64 * (X.length / 64) + i < X.length := by omega
    rw [List.getElem?_append_left (by omega), List.getElem?_drop, List.getElem?_append_left hx, List.getElem?_eq_getElem hx]
    rfl
  · have hx : i - r < bs.length := by omega
    rw [List.getElem?_append_right (by omega), hl, List.getElem?_take, if_pos (by omega), List.getElem?_append_right (by omega), show 64 * (X.length / 64) + i - X.length = i - r by omega, List.getElem?_eq_getElem hx]
    rfl

theorem stN_more (S : Nat → Int) (X bs : List Int) (k : Nat) (hk : 64 * k ≤ X.length) : stN S (X ++ bs) k = stN S X k :=
  stN_congr S _ _ _ (fun i hi => by rw [List.getElem?_append_left (by omega)])
theorem bytes_append {X Y : List Int} (hX : IsBytes X) (hY : IsBytes Y) : IsBytes (X ++ Y) := fun x hx => (List.mem_append.1 hx).elim (hX x) (hY x)
/-- Fewer bytes than make a block whole. -/
theorem hash_short {w : World} {p : Nat} {u : Value} {S : Nat → Int} {nb : Nat} {X bs : List Int} {r : Nat} (hr : r = X.length % 64) (hs : r + bs.length < 64) (hX : IsBytes X) (hbs : IsBytes bs)
    (hb : Blk w p 99 (hcells (stN S X (X.length / 64)) ((nb + X.length / 64 : Nat) : Int) u)) (ho : w.ownsRow 0 5 1 u (r + bs.length) (vb (X.drop (64 * (X.length / 64))) ++ vb bs)) : HashAt w p u S nb (X ++ bs) := by
  have e1 : (X ++ bs).length / 64 = X.length / 64 := by rw [List.length_append]; omega
  have e2 : (X ++ bs).length % 64 = r + bs.length := by rw [List.length_append]; omega
  refine ⟨?_, ?_, bytes_append hX hbs⟩
  · rw [e1, stN_more S X bs _ (by omega)]; exact hb
  · rw [e1, e2, List.drop_append_of_le_length (by omega)]
    unfold vb at ho ⊢
    rw [List.map_append]; exact ho

/-- What is left makes no block whole. -/
theorem hash_end {w : World} {p : Nat} {v : Value} {S : Nat → Int} {nb m j : Nat} {X bs : List Int} (hm : X.length + j = 64 * m) (hj : j ≤ bs.length) (hs : bs.length - j < 64) (hX : IsBytes X) (hbs : IsBytes bs)
    (hb : Blk w p 99 (hcells (stN S (X ++ bs) m) ((nb + m : Nat) : Int) v)) (ho : w.ownsRow 0 5 1 v (bs.length - j) (vb (bs.drop j))) : HashAt w p v S nb (X ++ bs) := by
  have e1 : (X ++ bs).length / 64 = m := by rw [List.length_append]; omega
  have e2 : (X ++ bs).length % 64 = bs.length - j := by rw [List.length_append]; omega
  refine ⟨?_, ?_, bytes_append hX hbs⟩
  · rw [e1]; exact hb
  · rw [e1, e2, List.drop_append, List.drop_eq_nil_of_le (by omega), List.nil_append, show 64 * m - X.length = j by omega]
    exact ho

def lenV : Value → Nat
  | .slice _ n _ => n
  | _ => 0

/-- While the whole blocks of what is written are taken: so much of it (j bytes) is done. -/
def Taking (p : Nat) (v : Value) (S : Nat → Int) (nb : Nat) (X bs : List Int) (w wr : World) (b : Value) (j : Nat) : Prop :=
  ∃ A c m u, b = .slice A (bs.length - j) c ∧ bs.length - j ≤ c ∧ j ≤ bs.length ∧ X.length + j = 64 * m ∧ Rd wr A (bs.length - j) (vb (bs.drop j)) ∧ Out (Foot p v) A (bs.length - j) ∧
    Blk wr p 99 (hcells (stN S (X ++ bs) m) ((nb + m : Nat) : Int) u) ∧ Keeps (Foot p v) w wr

set_option maxHeartbeats 4000000 in
set_option maxRecDepth 100000 in
theorem write_any (w : World) (hG : Glob w) (p : Nat) (v : Value) (S : Nat → Int) (nb : Nat) (X : List Int) (h : HashAt w p v S nb X) (hfoot : ∀ i, Foot p v i → 2 ≤ i)
    (A : Option Addr) (c : Nat) (bs : List Int) (hr : Rd w A bs.length (vb bs)) (ho : Out (Foot p v) A bs.length) (hbs : IsBytes bs) (hc : bs.length ≤ c) (hbig : 64 * nb + X.length + bs.length < 4611686018427387904) (hreach : bs.length ≤ 140737488351232) :
    Calls Tryd.prog 46 #[.pointer (some ⟨p, 0, none⟩), .slice A bs.length c] w fun e w' => e = .returned (.tuple #[]) ∧
      ∃ v', HashAt w' p v' S nb (X ++ bs) ∧ Keeps (Foot p v) w w' ∧ (∀ g, v'.ownBlock = some g → v.ownBlock = some g ∨ w.heap.size ≤ g) := by
  by_cases h0 : X.length % 64 = 0
  · have hv := h
    obtain ⟨hb, how, hx⟩ := h
    obtain ⟨A0, c0, rfl⟩ := own_shape how
    have c9 : w.cell? ⟨p, 9, none⟩ = some (.slice A0 0 c0) := by rw [hb.cell, h0]; rfl
    have T0 : Taking p (.slice A0 (X.length % 64) c0) S nb X bs w w (.slice A bs.length c) 0 := by
      refine ⟨A, c, X.length / 64, .slice A0 (X.length % 64) c0, by simp, by simpa using hc, by omega, by omega, by simpa using hr, by simpa using ho, ?_, Keeps.refl _ _⟩
      have e : stN S (X ++ bs) (X.length / 64) = stN S X (X.length / 64) := stN_congr S _ _ _ (fun i hi => by rw [List.getElem?_append_left (by omega)])
      rw [e]
      exact hb
    have HT0 := Lib.hid T0
    have HV := Lib.hid hv
    have HG := Lib.hid hG
    have HR := Lib.hid hr
    have HO := Lib.hid ho
    have HBS := Lib.hid hbs
    have HF := Lib.hid hfoot
    have HX := Lib.hid hx
    have H0 := Lib.hid h0
    clear hb how T0 hv hG hr ho hbs hfoot hx h0
    go_enter Tryd.func46, Tryd.ntmps46
    go_wp2
    go_loopw [1] (fun b wr => ∃ j, Taking p (.slice A0 (X.length % 64) c0) S nb X bs w wr b j) (fun b _ => lenV b)
    case atStart => exact ⟨0, HT0.out⟩
    case round =>
      clear HT0
      obtain ⟨j, A1, c1, m, u, rfl, hc1, hj, hm, hrd, hout, hblk, hkeep⟩ := hrel
      have HJ := Lib.hid hj
      have HM := Lib.hid hm
      have HO1 := Lib.hid hout
      have HK := Lib.hid hkeep
      have HR1 := Lib.hid hrd
      obtain ⟨n, hn⟩ : ∃ n, n = bs.length - j := ⟨_, rfl⟩
      obtain ⟨q, hq⟩ : ∃ q, q = nb + m := ⟨_, rfl⟩
      have hqb : q < 72057594037927936 := by omega
      have HN := Lib.hid hn
      have HQ := Lib.hid hq
      rw [← hq] at hblk
      rw [← hn] at hc1 ⊢
      have hn1 : n ≤ 140737488351232 := by omega
      by_cases h64 : 64 ≤ n
      · obtain ⟨g, o, rfl, hc⟩ := hrd.2 (by omega)
        rw [← hn] at hc
        have hl := lies_block (X := X) hm h64 hn hc
        have HL := Lib.hid hl
        have HB := Lib.hid hblk
        have hs : Lies wr p 0 (wl (stN S (X ++ bs) m)) := Lies.of_blk hblk (by simp [hcells, wl])
        have hro : ∀ k, Calls Tryd.prog 56 #[.agg (wl (stN S (X ++ bs) m)).toArray, .agg (bl (blockAt (X ++ bs) m)).toArray] (wr.drewN k) fun e w' => e = .returned (.agg (wl (stN S (X ++ bs) (m + 1))).toArray) ∧ Below wr.heap.size wr w' :=
          fun k => (round_any (stN S (X ++ bs) m) (blockAt (X ++ bs) m) (blockAt_bytes (bytes_append HX.out HBS.out) m) (wr.drewN k) (HG.out.keep hkeep HF.out).1 (by have := (HG.out.keep hkeep HF.out).lt; show 1 < wr.heap.size; omega)).mono fun e w' h => ⟨h.1, ⟨h.2.os, h.2.tape, h.2.output, h.2.size, h.2.block⟩⟩
        have HS := Lib.hid hs
        have HRO := Lib.hid hro
        have harr := fun wx => run_arrayAt (P := Tryd.prog) wx 84 5 64 (some ⟨g, o, none⟩) n c1 Tryd.underlying84 h64
        clear hs hro hl hblk hrd hout hkeep hm hj hn hc hq
        go_wp2
        refine wp_region_order [0] [1, 2, 3, 4, 5, 6, 7] 8 [9, 10, 11] (by kernel_rfl) (by kernel_rfl) (by intro _ _ d _ _ h; cases d <;> exact h) ?_
        simp only [pickOps, List.filterMap_cons, List.filterMap_nil, List.getElem?_cons_zero, List.getElem?_cons_succ]
        show wpQuiet _ _ _ _ [_] _
        repeat (go_big_quiet_step (fail))
        refine wpQuiet_nil ?_
        show wpQuiet _ _ _ _ [_, _, _, _, _, _, _] _
        repeat (go_big_quiet_step (fail))
        refine wpQuiet_load_lies rfl 96 _ rfl 0 (wl (stN S (X ++ bs) m)) _ rfl HS.out Tryd.underlying96 rfl info8 ?_
        simp only [Act.put, List.setIfInBounds_toArray, List.set_cons_succ, List.set_cons_zero]
        repeat (go_big_quiet_step (fail))
        refine wpQuiet_load_lies rfl 84 _ rfl o (bl (blockAt (X ++ bs) m)) _ rfl HL.out Tryd.underlying84 rfl info64 ?_
        simp only [Act.put, List.setIfInBounds_toArray, List.set_cons_succ, List.set_cons_zero]
        refine wpQuiet_nil ?_
        rintro _ ⟨nq, rfl⟩
        show wpList _ _ _ [_, _, _, _] _ _
        go_wp2_with (first | (go_at_call 56; refine (HRO.out nq).mono ?_; rintro e w' ⟨rfl, hbw⟩) | ((with_reducible show wpList _ _ _ (⟨none, Op.store 96 _ _, _, _, _, _⟩ :: _) _ _); refine wpList_store_at rfl 96 _ _ rfl 0 (wl (stN S (X ++ bs) (m + 1))) rfl rfl (HB.out.below hbw HB.out.lt) (by simp [hcells, wl]) info8 (wl_one _) ?_; rw [splice_hcells]; have hb2 := (HB.out.below hbw HB.out.lt).setRow (hcells (stN S (X ++ bs) (m + 1)) (q : Int) u); have hk2 : Keeps (Foot p (.slice A0 (X.length % 64) c0)) wr (w'.setRow p (hcells (stN S (X ++ bs) (m + 1)) (q : Int) u).toArray) := (Keeps.of_below hbw).setRow (.inl (.inl rfl)) _; generalize w'.setRow p _ = w2 at hb2 hk2 ⊢; have d8 : w2.cell? ⟨p, 8, none⟩ = some (.int .u64 (q : Int)) := (by rw [hb2.cell]; rfl); have e8 : w2.frozen? ⟨p, 8, none⟩ = false := hb2.frozen 8; have HB2 := Lib.hid hb2; have HK2 := Lib.hid hk2; clear hb2 hk2))
        go_roundw
        case rel =>
          have hn' := HN.out
          have hj' := HJ.out
          have hm' := HM.out
          have e : bs.length - (j + 64) = n - 64 := by omega
          have ev : vb (bs.drop (j + 64)) = (vb (bs.drop j)).drop 64 := by simp [vb, List.map_drop, List.drop_drop]
          have hr1 := HR1.out
          have ho1 := HO1.out
          rw [← hn'] at hr1 ho1
          have hk3 : Keeps (Foot p (.slice A0 (X.length % 64) c0)) wr (w2.setCell ⟨p, 8, none⟩ (.int .u64 ((q + 1 : Nat) : Int))) := HK2.out.setCell (.inl (.inl rfl)) _
          have hr2 := (hr1.cut h64 hc1).keep hk3 (ho1.cut h64 hc1)
          have ho2 := ho1.cut h64 hc1
          have eA : (if c1 = 64 then some (⟨g, o, none⟩ : Addr) else (some (⟨g, o, none⟩ : Addr)).map (·.add 64)) = if c1 = 64 then some ⟨g, o, none⟩ else some ⟨g, o + 64, none⟩ := by simp [add_at]
          rw [eA] at hr2 ho2
          refine ⟨j + 64, ?_⟩
          unfold Taking
          rw [e, ev]
          refine ⟨_, _, m + 1, u, rfl, by omega, by omega, by omega, hr2, ho2, ?_, HK.out.trans hk3 (fun i _ h => h)⟩
          have e2 : nb + (m + 1) = q + 1 := by have := HQ.out; omega
          rw [e2]
          exact HB2.out.set_ 8 _
        case measure => simp [lenV]; omega
      · have hcl : Calls Tryd.prog 44 #[.slice A1 n c1] wr fun e w' => ∃ A' c', e = .returned (.slice A' n c') ∧ w'.ownsRow 0 5 1 (.slice A' n c') n (vb (bs.drop j)) ∧ Keeps (fun _ => False) wr w' ∧ ∀ g, (Value.slice A' n c').ownBlock = some g → wr.heap.size ≤ g := by
          have hl : (bs.drop j).length = n := by rw [List.length_drop, hn]
          have := clone_any wr A1 c1 (bs.drop j) (by rw [hl, hn]; exact hrd) (by omega)
          rw [hl] at this
          refine this.mono fun e w' ⟨A', c', h1, h2, h3, h4⟩ => ?_
          rw [hl] at h1 h2 h4
          exact ⟨A', c', h1, h2, h3, h4⟩
        have HCL := Lib.hid hcl
        have HB := Lib.hid hblk
        clear hcl hblk hrd hout hkeep hm hj hn hq
        go_wp2_with (go_at_call 44; refine HCL.out.mono ?_; rintro e w' ⟨A', c', rfl, hown, hk, hnew⟩; have hb2 := hk.blk HB.out (fun h => h); have d9 : w'.cell? ⟨p, 9, none⟩ = some u := (by rw [hb2.cell]; rfl); have e9 : w'.frozen? ⟨p, 9, none⟩ = false := hb2.frozen 9; have HB2 := Lib.hid hb2; have HOW := Lib.hid hown; have HK2 := Lib.hid hk; have HNW := Lib.hid hnew; clear hb2 hown hk hnew)
        have hn' := HN.out
        have hq' := HQ.out
        have hk3 : Keeps (fun i => i = p) wr (w'.setCell ⟨p, 9, none⟩ (.slice A' n c')) := Keeps.setCell (F := fun i => i = p) (HK2.out.mono (fun _ _ h => h.elim)) (.inl rfl) _
        go_end0
        refine ⟨rfl, .slice A' n c', ?_, ?_, ?_⟩
        · refine hash_end HM.out HJ.out (by omega) HX.out HBS.out ?_ ?_
          · rw [← hq']; exact HB2.out.set_ 9 _
          · rw [← hn']
            refine Keeps.own (Keeps.setCell (F := fun i => i = p) (Keeps.refl _ _) (.inl rfl) _) HOW.out (fun g he e => ?_)
            have h1 := HNW.out g he
            have h2 := HB.out.lt
            omega
        · exact HK.out.trans hk3 (fun i _ h => .inl h)
        · intro g he
          exact .inr (Nat.le_trans HK.out.size (HNW.out g he))
  · have hv := h
    obtain ⟨hb, how, hx⟩ := h
    obtain ⟨A0, c0, rfl⟩ := own_shape how
    obtain ⟨r, hrr⟩ : ∃ r, r = X.length % 64 := ⟨_, rfl⟩
    rw [← hrr] at hb how hv h0 ho hfoot ⊢
    have hr64 : r < 64 := by omega
    have hr0 : 0 < r := by omega
    have c9 : w.cell? ⟨p, 9, none⟩ = some (.slice A0 r c0) := by rw [hb.cell]; rfl
    have f9 : w.frozen? ⟨p, 9, none⟩ = false := hb.frozen 9
    have HV := Lib.hid hv
    have HB := Lib.hid hb
    have HOW := Lib.hid how
    have HG := Lib.hid hG
    have HR := Lib.hid hr
    have HO := Lib.hid ho
    have HBS := Lib.hid hbs
    have HF := Lib.hid hfoot
    have HX := Lib.hid hx
    have HRR := Lib.hid hrr
    have hgb : ∀ k w', (w.drewN k).grownBy w' (Value.slice A0 r c0).ownBlock → Blk w' p 99 (hcells (stN S X (X.length / 64)) ((nb + X.length / 64 : Nat) : Int) (.slice A0 r c0)) :=
      fun k w' hg => hb.of_block (hg.block p hb.lt (fun e => HV.out.apart e.symm))
    have HGB := Lib.hid hgb
    clear hb hv hG hr ho hbs hfoot hx h0 hrr how hgb
    by_cases hsm : bs.length < 64 - r
    · go_enter Tryd.func46, Tryd.ntmps46
      go_wp2
      refine wp_region_order [0] [1, 2, 3, 4, 5, 6, 7] 8 [9, 10, 11] (by kernel_rfl) (by kernel_rfl) (by intro _ _ d _ _ h; cases d <;> exact h) ?_
      simp only [pickOps, List.filterMap_cons, List.filterMap_nil, List.getElem?_cons_zero, List.getElem?_cons_succ]
      show wpQuiet _ _ _ _ [_] _
      repeat (go_big_quiet_step (fail))
      refine wpQuiet_nil ?_
      show wpQuiet _ _ _ _ [_, _, _, _, _, _, _] _
      repeat (go_big_quiet_step (fail))
      refine wpQuiet_nil ?_
      rintro _ ⟨nq, rfl⟩
      show wpList _ _ _ [_, _, _, _] _ _
      go_wp2_with (at_builtin; refine wpList_append_rd _ rfl (.tmp 24) (.tmp 27) 22 rfl 5 (.int .u8 0) 1 Tryd.underlying22 info5 rfl _ r _ rfl HOW.out A bs.length c (vb bs) rfl HR.out (vb_one bs) (by unfold maxLen; omega) (by omega) ?_; intro A' c' w' hown hg hnb; have d9 : w'.cell? ⟨p, 9, none⟩ = some (.slice A0 r c0) := (by rw [(HGB.out nq w' hg).cell]; rfl); have e9 : w'.frozen? ⟨p, 9, none⟩ = false := (HGB.out nq w' hg).frozen 9)
      all_goals
        refine bodyPost_ret (results_none rfl _ _ _) rfl ⟨rfl, .slice A' (r + bs.length) c', ?_, ?_, ?_⟩
        · refine hash_short HRR.out (by omega) HX.out HBS.out ?_ ?_
          · exact (HGB.out nq w' hg).set_ 9 _
          · exact Keeps.own (Keeps.setCell (F := fun i => i = p) (Keeps.refl _ _) (.inl rfl) _) hown (fun g he e => by
            rcases hnb with h | h
            · exact HV.out.apart (h.symm.trans (he.trans (by rw [e])))
            · have h1 := h.symm.trans he
              have h2 := HV.out.1.lt
              injection h1 with h1
              rw [← h1] at e
              exact absurd h2 (by rw [← e]; exact Nat.lt_irrefl _))
        · refine ((((Keeps.refl (Foot p (.slice A0 r c0)) w).drewN nq).grown hg (fun g he => .inl (.inr he))).setCell (.inl (.inl rfl)) _)
        · intro g he
          rcases hnb with hnb | hnb
          · exact .inl (hnb.symm.trans he)
          · exact .inr (by rw [hnb] at he; injection he with he; rw [← he]; exact Nat.le_refl _)
    · obtain ⟨k, hk⟩ : ∃ k, k = 64 - r := ⟨_, rfl⟩
      have hks : 64 - r = k := hk.symm
      have hkb : k ≤ bs.length := by omega
      have hrk : r + k = 64 := by omega
      have hdec : (((r : Int) + k < 64)) = False := eq_false (by omega)
      have HKK := Lib.hid hk
      have HRK := Lib.hid hrk
      clear hk hrk
      have hrt : Rd w A k (vb (bs.take k)) := by
        have := HR.out.take (k := k) (by omega)
        have e : vb (bs.take k) = (vb bs).take k := by simp [vb, List.map_take]
        rw [e]; exact this
      have HRT := Lib.hid hrt
      have hrd0 : Rd w (if c = k then A else A.map (·.add k)) (bs.length - k) (vb (bs.drop k)) := by
        have := HR.out.cut (k := k) hkb hc
        have e : vb (bs.drop k) = (vb bs).drop k := by simp [vb, List.map_drop]
        rw [e]; exact this
      have HRD := Lib.hid hrd0
      have HOT := Lib.hid (HO.out.cut hkb hc)
      clear hrt hrd0
      go_enter Tryd.func46, Tryd.ntmps46
      go_wp2
      refine wp_region_order [0] [1, 2, 3, 4, 5, 6, 7] 8 [9, 10, 11] (by kernel_rfl) (by kernel_rfl) (by intro _ _ d _ _ h; cases d <;> exact h) ?_
      simp only [pickOps, List.filterMap_cons, List.filterMap_nil, List.getElem?_cons_zero, List.getElem?_cons_succ]
      show wpQuiet _ _ _ _ [_] _
      repeat (go_big_quiet_step (fail))
      refine wpQuiet_nil ?_
      show wpQuiet _ _ _ _ [_, _, _, _, _, _, _] _
      repeat (go_big_quiet_step (fail))
      refine wpQuiet_nil ?_
      rintro _ ⟨nq, rfl⟩
      show wpList _ _ _ [_, _, _, _] _ _
      go_wp2_with (at_builtin; refine wpList_append_rd _ rfl (.tmp 24) (.tmp 27) 22 rfl 5 (.int .u8 0) 1 Tryd.underlying22 info5 rfl _ r _ rfl HOW.out A k c (vb (bs.take k)) rfl HRT.out (vb_one _) (by unfold maxLen; omega) (by omega) ?_; intro A' c' w' hown hg hnb; have d9 : w'.cell? ⟨p, 9, none⟩ = some (.slice A0 r c0) := (by rw [(HGB.out nq w' hg).cell]; rfl); have e9 : w'.frozen? ⟨p, 9, none⟩ = false := (HGB.out nq w' hg).frozen 9)
      all_goals
        have hk1 : Keeps (Foot p (.slice A0 r c0)) w (w'.setCell ⟨p, 9, none⟩ (.slice A' (r + k) c')) := (((Keeps.refl (Foot p (.slice A0 r c0)) w).drewN nq).grown hg (fun g he => .inl (.inr he))).setCell (.inl (.inl rfl)) _
        have hb1 : Blk (w'.setCell ⟨p, 9, none⟩ (.slice A' (r + k) c')) p 99 (hcells (stN S (X ++ bs) (X.length / 64)) ((nb + X.length / 64 : Nat) : Int) (.slice A' (r + k) c')) := by
          rw [stN_more S X bs _ (by omega)]; exact (HGB.out nq w' hg).set_ 9 _
        obtain ⟨ga, oa, rfl, hca⟩ := (Rd.of_own hown).2 (by have := HRK.out; omega)
        have hga : ga ≠ p := by
          intro e
          subst e
          rcases hnb with h | h
          · exact HV.out.apart h.symm
          · have h1 : some ga = some w.heap.size := h
            injection h1 with h1
            exact absurd HV.out.1.lt (by rw [← h1]; exact Nat.lt_irrefl _)
        have hl1 : Lies (w'.setCell ⟨p, 9, none⟩ (.slice (some ⟨ga, oa, none⟩) (r + k) c')) ga oa (bl (blockAt (X ++ bs) (X.length / 64))) :=
          lies_full HRR.out HRK.out hkb (fun i hi => by rw [← hca i hi]; exact World.cell?_setCell_far _ _ _ _ (fun e => hga e.symm))
        generalize w'.setCell ⟨p, 9, none⟩ (.slice (some ⟨ga, oa, none⟩) (r + k) c') = w1 at hk1 hb1 hl1 ⊢
        obtain ⟨m0, hm0⟩ : ∃ m0, m0 = X.length / 64 := ⟨_, rfl⟩
        obtain ⟨q0, hq0⟩ : ∃ q0, q0 = nb + X.length / 64 := ⟨_, rfl⟩
        have hq0b : q0 < 72057594037927936 := by omega
        rw [← hq0, ← hm0] at hb1
        rw [← hm0] at hl1
        have x9 : w1.cell? ⟨p, 9, none⟩ = some (.slice (some ⟨ga, oa, none⟩) (r + k) c') := by rw [hb1.cell]; rfl
        have hs1 : Lies w1 p 0 (wl (stN S (X ++ bs) m0)) := Lies.of_blk hb1 (by simp [hcells, wl])
        have hro : ∀ k, Calls Tryd.prog 56 #[.agg (wl (stN S (X ++ bs) m0)).toArray, .agg (bl (blockAt (X ++ bs) m0)).toArray] (w1.drewN k) fun e w' => e = .returned (.agg (wl (stN S (X ++ bs) (m0 + 1))).toArray) ∧ Below w1.heap.size w1 w' :=
          fun k => (round_any (stN S (X ++ bs) m0) (blockAt (X ++ bs) m0) (blockAt_bytes (bytes_append HX.out HBS.out) m0) (w1.drewN k) (HG.out.keep hk1 HF.out).1 (by have := (HG.out.keep hk1 HF.out).lt; show 1 < w1.heap.size; omega)).mono fun e w' h => ⟨h.1, ⟨h.2.os, h.2.tape, h.2.output, h.2.size, h.2.block⟩⟩
        have HS1 := Lib.hid hs1
        have HL1 := Lib.hid hl1
        have HRO := Lib.hid hro
        have HB1 := Lib.hid hb1
        have HK1 := Lib.hid hk1
        have HM0 := Lib.hid hm0
        have HQ0 := Lib.hid hq0
        have harr := fun wx => run_arrayAt (P := Tryd.prog) wx 84 5 64 (some ⟨ga, oa, none⟩) (r + k) c' Tryd.underlying84 (by have := HRK.out; omega)
        clear hs1 hl1 hro hb1 hk1 hm0 hq0 hown hg hnb hca
        refine wp_region_order [0] [1, 2, 3, 4, 5, 6, 7, 8, 9, 10] 11 [12, 13, 14] (by kernel_rfl) (by kernel_rfl) (by intro _ _ d _ _ h; cases d <;> exact h) ?_
        simp only [pickOps, List.filterMap_cons, List.filterMap_nil, List.getElem?_cons_zero, List.getElem?_cons_succ]
        show wpQuiet _ _ _ _ [_] _
        repeat (go_big_quiet_step (fail))
        refine wpQuiet_nil ?_
        show wpQuiet _ _ _ _ [_, _, _, _, _, _, _, _, _, _] _
        repeat (go_big_quiet_step (fail))
        refine wpQuiet_load_lies rfl 96 _ rfl 0 (wl (stN S (X ++ bs) m0)) _ rfl HS1.out Tryd.underlying96 rfl info8 ?_
        simp only [Act.put, List.setIfInBounds_toArray, List.set_cons_succ, List.set_cons_zero]
        repeat (go_big_quiet_step (fail))
        refine wpQuiet_load_lies rfl 84 _ rfl oa (bl (blockAt (X ++ bs) m0)) _ rfl HL1.out Tryd.underlying84 rfl info64 ?_
        simp only [Act.put, List.setIfInBounds_toArray, List.set_cons_succ, List.set_cons_zero]
        refine wpQuiet_nil ?_
        rintro _ ⟨nq2, rfl⟩
        show wpList _ _ _ [_, _, _, _] _ _
        go_wp2_with (first | (go_at_call 56; refine (HRO.out nq2).mono ?_; rintro e wz ⟨rfl, hbw⟩) | ((with_reducible show wpList _ _ _ (⟨none, Op.store 96 _ _, _, _, _, _⟩ :: _) _ _); refine wpList_store_at rfl 96 _ _ rfl 0 (wl (stN S (X ++ bs) (m0 + 1))) rfl rfl (HB1.out.below hbw HB1.out.lt) (by simp [hcells, wl]) info8 (wl_one _) ?_; rw [splice_hcells]; have hb2 := (HB1.out.below hbw HB1.out.lt).setRow (hcells (stN S (X ++ bs) (m0 + 1)) (q0 : Int) (.slice (some ⟨ga, oa, none⟩) (r + k) c')); have hk2 : Keeps (Foot p (.slice A0 r c0)) w1 (wz.setRow p (hcells (stN S (X ++ bs) (m0 + 1)) (q0 : Int) (.slice (some ⟨ga, oa, none⟩) (r + k) c')).toArray) := (Keeps.of_below hbw).setRow (.inl (.inl rfl)) _; generalize wz.setRow p _ = w2 at hb2 hk2 ⊢; have y8 : w2.cell? ⟨p, 8, none⟩ = some (.int .u64 (q0 : Int)) := (by rw [hb2.cell]; rfl); have z8 : w2.frozen? ⟨p, 8, none⟩ = false := hb2.frozen 8; have y9 : w2.cell? ⟨p, 9, none⟩ = some (.slice (some ⟨ga, oa, none⟩) (r + k) c') := (by rw [hb2.cell]; rfl); have z9 : w2.frozen? ⟨p, 9, none⟩ = false := hb2.frozen 9; have HB2 := Lib.hid hb2; have HK2 := Lib.hid hk2; clear hb2 hk2))
        clear x9 y8 z8 y9 z9 harr hdec hks
        go_loopw [1] (fun b wr => ∃ j, Taking p (.slice A0 r c0) S nb X bs w wr b j) (fun b _ => lenV b)
        case atStart =>
          have hk3 : Keeps (Foot p (.slice A0 r c0)) w ((w2.setCell ⟨p, 8, none⟩ (.int .u64 ((q0 : Int) + 1))).setCell ⟨p, 9, none⟩ (.slice none 0 0)) := ((HK1.out.trans HK2.out (fun _ _ h => h)).setCell (.inl (.inl rfl)) _).setCell (.inl (.inl rfl)) _
          have hrd := HRD.out
          have hot := HOT.out
          first
            | (have hck : c = k := by assumption
               rw [if_pos hck] at hrd hot)
            | (have hck : ¬ c = k := by assumption
               rw [if_neg hck] at hrd hot)
          refine ⟨k, _, _, m0 + 1, .slice none 0 0, rfl, by omega, hkb, ?_, hrd.keep hk3 hot, hot, ?_, hk3⟩
          · have h1 := HM0.out
            have h2 := HRR.out
            have h3 := HRK.out
            omega
          · have h1 := HM0.out
            have h2 := HQ0.out
            have e : nb + (m0 + 1) = q0 + 1 := by omega
            rw [e]
            exact (HB2.out.set_ 8 _).set_ 9 _
        case round =>
          clear HB1 HK1 HB2 HK2 HRO HS1 HL1 HRD HOT HRT HB HGB HOW
          obtain ⟨j, A1, c1, m, u, rfl, hc1, hj, hm, hrd, hout, hblk, hkeep⟩ := hrel
          have HJ := Lib.hid hj
          have HM := Lib.hid hm
          have HO1 := Lib.hid hout
          have HK := Lib.hid hkeep
          have HR1 := Lib.hid hrd
          obtain ⟨n, hn⟩ : ∃ n, n = bs.length - j := ⟨_, rfl⟩
          obtain ⟨q, hq⟩ : ∃ q, q = nb + m := ⟨_, rfl⟩
          have hqb : q < 72057594037927936 := by omega
          have HN := Lib.hid hn
          have HQ := Lib.hid hq
          rw [← hq] at hblk
          rw [← hn] at hc1 ⊢
          have hn1 : n ≤ 140737488351232 := by omega
          by_cases h64 : 64 ≤ n
          · obtain ⟨g, o, rfl, hc⟩ := hrd.2 (by omega)
            rw [← hn] at hc
            have hl := lies_block (X := X) hm h64 hn hc
            have HL := Lib.hid hl
            have HB := Lib.hid hblk
            have hs : Lies wr p 0 (wl (stN S (X ++ bs) m)) := Lies.of_blk hblk (by simp [hcells, wl])
            have hro : ∀ k, Calls Tryd.prog 56 #[.agg (wl (stN S (X ++ bs) m)).toArray, .agg (bl (blockAt (X ++ bs) m)).toArray] (wr.drewN k) fun e w' => e = .returned (.agg (wl (stN S (X ++ bs) (m + 1))).toArray) ∧ Below wr.heap.size wr w' :=
              fun k => (round_any (stN S (X ++ bs) m) (blockAt (X ++ bs) m) (blockAt_bytes (bytes_append HX.out HBS.out) m) (wr.drewN k) (HG.out.keep hkeep HF.out).1 (by have := (HG.out.keep hkeep HF.out).lt; show 1 < wr.heap.size; omega)).mono fun e w' h => ⟨h.1, ⟨h.2.os, h.2.tape, h.2.output, h.2.size, h.2.block⟩⟩
            have HS := Lib.hid hs
            have HRO := Lib.hid hro
            have harr := fun wx => run_arrayAt (P := Tryd.prog) wx 84 5 64 (some ⟨g, o, none⟩) n c1 Tryd.underlying84 h64
            clear hs hro hl hblk hrd hout hkeep hm hj hn hc hq
            go_wp2
            refine wp_region_order [0] [1, 2, 3, 4, 5, 6, 7] 8 [9, 10, 11] (by kernel_rfl) (by kernel_rfl) (by intro _ _ d _ _ h; cases d <;> exact h) ?_
            simp only [pickOps, List.filterMap_cons, List.filterMap_nil, List.getElem?_cons_zero, List.getElem?_cons_succ]
            show wpQuiet _ _ _ _ [_] _
            repeat (go_big_quiet_step (fail))
            refine wpQuiet_nil ?_
            show wpQuiet _ _ _ _ [_, _, _, _, _, _, _] _
            repeat (go_big_quiet_step (fail))
            refine wpQuiet_load_lies rfl 96 _ rfl 0 (wl (stN S (X ++ bs) m)) _ rfl HS.out Tryd.underlying96 rfl info8 ?_
            simp only [Act.put, List.setIfInBounds_toArray, List.set_cons_succ, List.set_cons_zero]
            repeat (go_big_quiet_step (fail))
            refine wpQuiet_load_lies rfl 84 _ rfl o (bl (blockAt (X ++ bs) m)) _ rfl HL.out Tryd.underlying84 rfl info64 ?_
            simp only [Act.put, List.setIfInBounds_toArray, List.set_cons_succ, List.set_cons_zero]
            refine wpQuiet_nil ?_
            rintro _ ⟨nq, rfl⟩
            show wpList _ _ _ [_, _, _, _] _ _
            go_wp2_with (first | (go_at_call 56; refine (HRO.out nq).mono ?_; rintro e w' ⟨rfl, hbw⟩) | ((with_reducible show wpList _ _ _ (⟨none, Op.store 96 _ _, _, _, _, _⟩ :: _) _ _); refine wpList_store_at rfl 96 _ _ rfl 0 (wl (stN S (X ++ bs) (m + 1))) rfl rfl (HB.out.below hbw HB.out.lt) (by simp [hcells, wl]) info8 (wl_one _) ?_; rw [splice_hcells]; have hb2 := (HB.out.below hbw HB.out.lt).setRow (hcells (stN S (X ++ bs) (m + 1)) (q : Int) u); have hk2 : Keeps (Foot p (.slice A0 r c0)) wr (w'.setRow p (hcells (stN S (X ++ bs) (m + 1)) (q : Int) u).toArray) := (Keeps.of_below hbw).setRow (.inl (.inl rfl)) _; generalize w'.setRow p _ = w2 at hb2 hk2 ⊢; have d8 : w2.cell? ⟨p, 8, none⟩ = some (.int .u64 (q : Int)) := (by rw [hb2.cell]; rfl); have e8 : w2.frozen? ⟨p, 8, none⟩ = false := hb2.frozen 8; have HB2 := Lib.hid hb2; have HK2 := Lib.hid hk2; clear hb2 hk2))
            go_roundw
            case rel =>
              have hn' := HN.out
              have hj' := HJ.out
              have hm' := HM.out
              have e : bs.length - (j + 64) = n - 64 := by omega
              have ev : vb (bs.drop (j + 64)) = (vb (bs.drop j)).drop 64 := by simp [vb, List.map_drop, List.drop_drop]
              have hr1 := HR1.out
              have ho1 := HO1.out
              rw [← hn'] at hr1 ho1
              have hk3 : Keeps (Foot p (.slice A0 r c0)) wr (w2.setCell ⟨p, 8, none⟩ (.int .u64 ((q + 1 : Nat) : Int))) := HK2.out.setCell (.inl (.inl rfl)) _
              have hr2 := (hr1.cut h64 hc1).keep hk3 (ho1.cut h64 hc1)
              have ho2 := ho1.cut h64 hc1
              have eA : (if c1 = 64 then some (⟨g, o, none⟩ : Addr) else (some (⟨g, o, none⟩ : Addr)).map (·.add 64)) = if c1 = 64 then some ⟨g, o, none⟩ else some ⟨g, o + 64, none⟩ := by simp [add_at]
              rw [eA] at hr2 ho2
              refine ⟨j + 64, ?_⟩
              unfold Taking
              rw [e, ev]
              refine ⟨_, _, m + 1, u, rfl, by omega, by omega, by omega, hr2, ho2, ?_, HK.out.trans hk3 (fun i _ h => h)⟩
              have e2 : nb + (m + 1) = q + 1 := by have := HQ.out; omega
              rw [e2]
              exact HB2.out.set_ 8 _
            case measure => simp [lenV]; omega
          · have hcl : Calls Tryd.prog 44 #[.slice A1 n c1] wr fun e w' => ∃ A' c', e = .returned (.slice A' n c') ∧ w'.ownsRow 0 5 1 (.slice A' n c') n (vb (bs.drop j)) ∧ Keeps (fun _ => False) wr w' ∧ ∀ g, (Value.slice A' n c').ownBlock = some g → wr.heap.size ≤ g := by
              have hl : (bs.drop j).length = n := by rw [List.length_drop, hn]
              have := clone_any wr A1 c1 (bs.drop j) (by rw [hl, hn]; exact hrd) (by omega)
              rw [hl] at this
              refine this.mono fun e w' ⟨A', c', h1, h2, h3, h4⟩ => ?_
              rw [hl] at h1 h2 h4
              exact ⟨A', c', h1, h2, h3, h4⟩
            have HCL := Lib.hid hcl
            have HB := Lib.hid hblk
            clear hcl hblk hrd hout hkeep hm hj hn hq
            go_wp2_with (go_at_call 44; refine HCL.out.mono ?_; rintro e w' ⟨A', c', rfl, hown, hk, hnew⟩; have hb2 := hk.blk HB.out (fun h => h); have d9 : w'.cell? ⟨p, 9, none⟩ = some u := (by rw [hb2.cell]; rfl); have e9 : w'.frozen? ⟨p, 9, none⟩ = false := hb2.frozen 9; have HB2 := Lib.hid hb2; have HOW := Lib.hid hown; have HK2 := Lib.hid hk; have HNW := Lib.hid hnew; clear hb2 hown hk hnew)
            have hn' := HN.out
            have hq' := HQ.out
            have hk3 : Keeps (fun i => i = p) wr (w'.setCell ⟨p, 9, none⟩ (.slice A' n c')) := Keeps.setCell (F := fun i => i = p) (HK2.out.mono (fun _ _ h => h.elim)) (.inl rfl) _
            go_end0
            refine ⟨rfl, .slice A' n c', ?_, ?_, ?_⟩
            · refine hash_end HM.out HJ.out (by omega) HX.out HBS.out ?_ ?_
              · rw [← hq']; exact HB2.out.set_ 9 _
              · rw [← hn']
                refine Keeps.own (Keeps.setCell (F := fun i => i = p) (Keeps.refl _ _) (.inl rfl) _) HOW.out (fun g he e => ?_)
                have h1 := HNW.out g he
                have h2 := HB.out.lt
                omega
            · exact HK.out.trans hk3 (fun i _ h => .inl h)
            · intro g he
              exact .inr (Nat.le_trans HK.out.size (HNW.out g he))
end Go.Proofs.YtnlnbgjpbnjjfaaDoor
