/-
  WALKS: the reference's Write.
-/
import Derived.Test.YtknecjjdegngfaaDoorRWriteP
import Derived.Deep.AppendLies
import Derived.Test.YtknecjjdegngfaaDoorQLast
set_option linter.unusedSimpArgs false
namespace Go.Proofs.YtknecjjdegngfaaDoor
open Go Go.RowKit Go.Sha Go.Aff

/-- What a hash of the reference is, as a value. -/
def rv (S : Nat → Int) (nb : Nat) (X : List Int) (v : Value) : Value := .agg (hcells (stN S X (X.length / 64)) ((nb + X.length / 64 : Nat) : Int) v).toArray
/-- While it is written: its first k bytes are. -/
def RWriting (w : World) (S : Nat → Int) (nb : Nat) (X bs : List Int) (k : Nat) (wr : World) : Prop :=
  ∃ v, RHashAt wr w.heap.size v S nb (X ++ bs.take k) ∧ (∀ g, v.ownBlock = some g → w.heap.size + 2 ≤ g) ∧ Blk wr (w.heap.size + 1) 117 (hcells (fun _ => 0) 0 (.slice none 0 0)) ∧ Keeps (fun _ => False) w wr

/-- Behind the append of one byte and the store of the rest. -/
structure RStep (w : World) (S : Nat → Int) (nb : Nat) (Y : List Int) (b : Int) (n2 g cap : Nat) (W : World) : Prop where
  len : n2 = Y.length % 64
  bytes : IsBytes Y
  blk : Blk W w.heap.size 117 ((hcells (stN S Y (Y.length / 64)) ((nb + Y.length / 64 : Nat) : Int) (.slice (some ⟨g, 0, none⟩) (n2 + 1) cap)))
  blk2 : Blk W (w.heap.size + 1) 117 (hcells (fun _ => 0) 0 (.slice none 0 0))
  own : W.ownsRow 0 5 1 (.slice (some ⟨g, 0, none⟩) (n2 + 1) cap) (n2 + 1) (vb (Y.drop (64 * (Y.length / 64))) ++ [.int .u8 b])
  low : w.heap.size + 2 ≤ g
  keep : Keeps (fun _ => False) w W

/-- While the block is filled; M: its own block. -/
structure RFill (w : World) (S : Nat → Int) (nb : Nat) (Y : List Int) (b : Int) (g cap M t : Nat) (W : World) : Prop where
  step : RStep w S nb Y b 63 g cap W
  fill : Blk W M 129 (vi .u8 (fillL ((List.range 64).map (blockAt (Y ++ [b]) (Y.length / 64))) t))
  far : w.heap.size + 1 < M ∧ g < M
theorem blk_len (f : Nat → Int) : ((List.range 64).map f).length = 64 := by simp
theorem RStep.fill {w : World} {S : Nat → Int} {nb : Nat} {Y : List Int} {b : Int} {g cap : Nat} {W : World} (h : RStep w S nb Y b 63 g cap W) (_hb : 0 ≤ b ∧ b < 256) :
    RFill w S nb Y b g cap W.heap.size 0 (W.alloc (.cells (List.replicate 64 (Value.int .u8 0)).toArray 129)) := by
  refine ⟨⟨h.len, h.bytes, h.blk.alloc _, h.blk2.alloc _, h.own.alloc _, h.low, h.keep.alloc _⟩, ?_, ?_, ?_⟩
  · rw [fillL_zero, blk_len, show vi .u8 (List.replicate 64 0) = List.replicate 64 (Value.int .u8 0) by simp [vi]]
    exact Blk.new _ _ _
  · exact h.blk2.lt
  · exact (h.own.lt g rfl).2
theorem RFill.src {w : World} {S : Nat → Int} {nb : Nat} {Y : List Int} {b : Int} {g cap M t : Nat} {W : World} (h : RFill w S nb Y b g cap M t W) (i : Nat) (hi : i < 64) : W.cell? ⟨g, i, none⟩ = some (.int .u8 (blockAt (Y ++ [b]) (Y.length / 64) i)) := by
  obtain ⟨g', o', e, hc⟩ := (Rd.of_own h.step.own).2 (by omega)
  injection e with e
  injection e with e1 e2
  subst e1 e2
  have := hc i (by omega)
  rw [Nat.zero_add, rblock_full h.step.len.symm] at this
  rw [this]
  simp [bl, hi]
theorem RFill.dst {w : World} {S : Nat → Int} {nb : Nat} {Y : List Int} {b : Int} {g cap M t : Nat} {W : World} (h : RFill w S nb Y b g cap M t W) (i : Nat) (hi : i < 64) : ∃ u, W.cell? ⟨M, i, none⟩ = some u := by
  rw [h.fill.cell]
  refine ⟨_, List.getElem?_eq_getElem ?_⟩
  rw [vi_length]
  by_cases ht : t ≤ 64
  · rw [fillL_length _ _ (by rw [blk_len]; exact ht), blk_len]; exact hi
  · simp [fillL]; omega
theorem RFill.next {w : World} {S : Nat → Int} {nb : Nat} {Y : List Int} {b : Int} {g cap M t : Nat} {W : World} (h : RFill w S nb Y b g cap M t W) (ht : t < 64) : RFill w S nb Y b g cap M (t + 1) (W.setCell ⟨M, t, none⟩ (.int .u8 (blockAt (Y ++ [b]) (Y.length / 64) t))) := by
  have hf := h.far
  refine ⟨⟨h.step.len, h.step.bytes, h.step.blk.far (by show w.heap.size ≠ M; omega) _, h.step.blk2.far (by show w.heap.size + 1 ≠ M; omega) _, ?_, h.step.low, h.step.keep.setCell (.inr (by show w.heap.size ≤ M; omega)) _⟩, ?_, hf⟩
  · exact Keeps.own ((Keeps.refl (fun i => i = M) W).setCell (.inl rfl) _) h.step.own (fun i hi e => by have e' : some g = some i := hi; injection e' with e'; omega)
  · have := h.fill.set_ t (.int .u8 (((List.range 64).map (blockAt (Y ++ [b]) (Y.length / 64))).getD t 0))
    rw [vi_set, fillL_set _ t (by rw [blk_len]; exact ht)] at this
    rw [show ((List.range 64).map (blockAt (Y ++ [b]) (Y.length / 64))).getD t 0 = blockAt (Y ++ [b]) (Y.length / 64) t by simp [ht]] at this
    exact this
theorem RFill.all {w : World} {S : Nat → Int} {nb : Nat} {Y : List Int} {b : Int} {g cap M : Nat} {W : World} (h : RFill w S nb Y b g cap M 64 W) : Blk W M 129 (bl (blockAt (Y ++ [b]) (Y.length / 64))) := by
  have e := fillL_all ((List.range 64).map (blockAt (Y ++ [b]) (Y.length / 64)))
  rw [blk_len] at e
  have := h.fill
  rw [e] at this
  have e2 : vi .u8 ((List.range 64).map (blockAt (Y ++ [b]) (Y.length / 64))) = bl (blockAt (Y ++ [b]) (Y.length / 64)) := by simp [vi, bl]
  rw [e2] at this
  exact this

set_option maxHeartbeats 4000000 in
set_option maxRecDepth 100000 in
theorem rwrite_any (w : World) (S : Nat → Int) (nb : Nat) (X : List Int) (A : Option Addr) (c : Nat) (hX : IsBytes X) (hA : Rd w A (X.length % 64) (vb (X.drop (64 * (X.length / 64)))))
    (B : Option Addr) (cb : Nat) (bs : List Int) (hr : Rd w B bs.length (vb bs)) (hbs : IsBytes bs) (hbig : 64 * nb + X.length + bs.length < 4611686018427387904) :
    Calls Tryd.prog 75 #[rv S nb X (.slice A (X.length % 64) c), .slice B bs.length cb] w fun e w' => ∃ v, e = .returned (rv S nb (X ++ bs) v) ∧ w'.ownsRow 0 5 1 v ((X ++ bs).length % 64) (vb ((X ++ bs).drop (64 * ((X ++ bs).length / 64)))) ∧ Keeps (fun _ => False) w w' ∧ ∀ g, v.ownBlock = some g → w.heap.size ≤ g := by
  obtain ⟨r, hrr⟩ : ∃ r, r = X.length % 64 := ⟨_, rfl⟩
  obtain ⟨q, hqq⟩ : ∃ q, q = nb + X.length / 64 := ⟨_, rfl⟩
  obtain ⟨T, hT⟩ : ∃ T, T = stN S X (X.length / 64) := ⟨_, rfl⟩
  unfold rv
  rw [← hrr, ← hqq, ← hT]
  have hCp := fun wx (h : Rd wx A r (vb (X.drop (64 * (X.length / 64))))) => rcopy_any wx T q A r c (X.drop (64 * (X.length / 64))) h (by omega)
  rw [← hrr] at hA
  have hb1 := (Blk.new w 117 (hcells T q (.slice A r c))).alloc (.cells (hcells (fun _ => 0) 0 (.slice none 0 0)).toArray 117)
  have hb2 := Blk.new (w.alloc (.cells (hcells T q (.slice A r c)).toArray 117)) 117 (hcells (fun _ => 0) 0 (.slice none 0 0))
  rw [World.size_alloc] at hb2
  have hA2 := (hA.alloc (.cells (hcells T q (.slice A r c)).toArray 117)).alloc (.cells (hcells (fun _ => 0) 0 (.slice none 0 0)).toArray 117)
  have HCp := Lib.hid hCp
  have HB1 := Lib.hid hb1
  have HB2 := Lib.hid hb2
  have HA2 := Lib.hid hA2
  have HR := Lib.hid hr
  have HBS := Lib.hid hbs
  have HX := Lib.hid hX
  have hbl : bs.length < 4611686018427387904 := by omega
  have HBIG := Lib.hid hbig
  obtain ⟨cs, hcs⟩ : ∃ cs, cs = (hcells T q (.slice A r c)).toArray := ⟨_, rfl⟩
  rw [← hcs] at HB1 HB2 HA2 HCp ⊢
  have HCS := Lib.hid hcs
  have HT := Lib.hid hT
  have HQQ := Lib.hid hqq
  have HRR := Lib.hid hrr
  clear hCp hb1 hb2 hA2 hr hbs hX hA hbig hcs hT hqq hrr
  go_enter Tryd.func75, Tryd.ntmps75
  go_wp2_with (first
    | ((with_reducible show wpList _ _ _ (⟨some _, Op.load 117 _, _, _, _, _⟩ :: _) _ _); refine wpList_load_whole rfl 117 _ rfl _ rfl HB1.out Tryd.underlying117 rfl (by rw [hcells_length]; kernel_rfl) ?_; rw [← HCS.out])
    | (go_at_call 89; refine (HCp.out _ HA2.out).mono ?_; rintro e w1 ⟨A1, c1, rfl, ho1, hk1, hg1⟩; have HO1 := Lib.hid ho1; have HK1 := Lib.hid hk1; have HG1 := Lib.hid hg1; clear ho1 hk1 hg1)
    | ((with_reducible show wpList _ _ _ (⟨none, Op.store 117 _ _, _, _, _, _⟩ :: _) _ _); refine wpList_store_whole rfl 117 _ _ rfl (hcells T q (.slice A1 r c1)) rfl rfl (HK1.out.blk HB1.out (fun h => h)) (by rw [hcells_length, hcells_length]) (by rw [hcells_length]; kernel_rfl) (hcells_one T q _ _ _) ?_))
  have R0 : RWriting w S nb X bs 0 (w1.setRow w.heap.size (hcells T q (.slice A1 r c1)).toArray) := by
    have hg : ∀ g, (Value.slice A1 r c1).ownBlock = some g → w.heap.size + 2 ≤ g := fun g hg => by have := HG1.out g hg; simpa using this
    refine ⟨.slice A1 r c1, ⟨?_, ?_, ?_⟩, hg, ?_, ?_⟩
    · rw [List.take_zero, List.append_nil, ← HT.out, ← HQQ.out]; exact (HK1.out.blk HB1.out (fun h => h)).setRow _
    · rw [List.take_zero, List.append_nil, ← HRR.out]
      exact Keeps.own (Keeps.setRow (F := fun i => i = w.heap.size) (Keeps.refl _ _) (.inl rfl) _) HO1.out (fun g h e => by have := hg g h; omega)
    · rw [List.take_zero, List.append_nil]; exact HX.out
    · exact (HK1.out.blk HB2.out (fun h => h)).setRow_far (by omega) _
    · exact (((((Keeps.refl _ w).alloc _).alloc _).trans HK1.out (fun _ _ h => h))).setRow (.inr (Nat.le_refl _)) _
  have HR0 := Lib.hid R0
  clear R0 HCp HB1 HB2 HA2 HO1 HK1 HG1 HCS HT HQQ HRR
  go_loopw [5] (fun i wr => ∃ k : Nat, k ≤ bs.length ∧ i = .int .i64 k ∧ RWriting w S nb X bs k wr) (fun i _ => bs.length - (intOf i).toNat)
  case atStart => exact ⟨0, by omega, rfl, HR0.out⟩
  case round =>
    clear HR0
    obtain ⟨k, hk, rfl, hrel⟩ := hrel
    have HW := Lib.hid hrel
    clear hrel
    by_cases hlt : k < bs.length
    · have hb : ∃ b, bs[k]? = some b := ⟨_, List.getElem?_eq_getElem hlt⟩
      obtain ⟨b, hb⟩ := hb
      have hbr : 0 ≤ b ∧ b < 256 := HBS.out b (List.mem_of_getElem? hb)
      obtain ⟨gB, oB, rfl, hcB⟩ := HR.out.2 (by omega)
      have hgB : gB < w.heap.size := by
        have h0 := hcB 0 (by omega)
        obtain ⟨u, hu⟩ : ∃ u, (vb bs)[0]? = some u := ⟨_, List.getElem?_eq_getElem (by simp [vb]; omega)⟩
        rw [hu] at h0
        exact World.block_lt_of_cell? w _ h0
      obtain ⟨v, ⟨hbk, ho, hx⟩, hg2, hb2, hkp⟩ := HW.out
      obtain ⟨A2, c2, rfl⟩ := own_shape ho
      have hnext : X ++ bs.take (k + 1) = (X ++ bs.take k) ++ [b] := by rw [List.take_add_one, hb]; simp
      have HYL : Hid (64 * nb + (X ++ bs.take k).length + 1 < 4611686018427387904) := Lib.hid (by have := HBIG.out; simp; omega)
      obtain ⟨Y, hY⟩ : ∃ Y, Y = X ++ bs.take k := ⟨_, rfl⟩
      rw [← hY] at hbk ho hx hnext HYL hg2
      have HNEXT := Lib.hid hnext
      clear hY hnext
      obtain ⟨n2, hn2⟩ : ∃ n2, n2 = Y.length % 64 := ⟨_, rfl⟩
      have hn64 : n2 < 64 := by omega
      rw [← hn2] at hbk ho hg2
      have hc8 : (vb bs)[k]? = some (.int .u8 b) := by simp [vb, hb]
      have HC9 : Hid (∀ W, Keeps (fun i => (Value.slice A2 n2 c2).ownBlock = some i) wr W → W.cell? ⟨w.heap.size, 9, none⟩ = some (.slice A2 n2 c2)) := Lib.hid fun W hk => by rw [(hk.blk hbk (fun h => by have := hg2 _ h; omega)).cell]; rfl
      have HCB : Hid (∀ W, Keeps (fun i => (Value.slice A2 n2 c2).ownBlock = some i) wr W → W.cell? ⟨gB, oB + k, none⟩ = some (.int .u8 b)) := Lib.hid fun W hk => by
        rw [hk.cell (p := ⟨gB, oB + k, none⟩) (Nat.lt_of_lt_of_le hgB hkp.size) (fun h => by have := hg2 _ h; simp at this; omega), hkp.cell (p := ⟨gB, oB + k, none⟩) hgB (fun h => h), hcB k hlt, hc8]
      have HOA : Hid ((wr.alloc (.cells #[.int .u8 b] 5)).drew.ownsRow 0 5 1 (.slice A2 n2 c2) n2 (vb (Y.drop (64 * (Y.length / 64))))) := Lib.hid (ho.alloc _)
      have HNB : Hid (∀ j u, [Value.int .u8 b][j]? = some u → (wr.alloc (.cells #[.int .u8 b] 5)).drew.cell? ((⟨wr.heap.size, 0, none⟩ : Addr).add j) = some u) := Lib.hid fun j u hu => World.news_of_block (w := wr.alloc (.cells #[.int .u8 b] 5)) (heap_alloc_new wr _) j u hu
      have hwr : w.heap.size < wr.heap.size := hbk.lt
      have HD : Hid (∀ (g cap : Nat) (w' : World), w'.ownsRow 0 5 1 (.slice (some ⟨g, 0, none⟩) (n2 + 1) cap) (n2 + 1) (vb (Y.drop (64 * (Y.length / 64))) ++ [.int .u8 b]) → (wr.alloc (.cells #[.int .u8 b] 5)).drew.grownBy w' (Value.slice A2 n2 c2).ownBlock → ((Value.slice A2 n2 c2).ownBlock = some g ∨ g = (wr.alloc (.cells #[.int .u8 b] 5)).drew.heap.size) →
          w'.cell? ⟨w.heap.size, 9, none⟩ = some (.slice A2 n2 c2) ∧ w'.frozen? ⟨w.heap.size, 9, none⟩ = false ∧ Hid (RStep w S nb Y b n2 g cap (w'.setCell ⟨w.heap.size, 9, none⟩ (.slice (some ⟨g, 0, none⟩) (n2 + 1) cap)))) := Lib.hid fun g cap w' hown hg hnb => by
        have hbk' : Blk (wr.alloc (.cells #[.int .u8 b] 5)).drew w.heap.size 117 _ := (hbk.alloc _).drew
        have hb2' : Blk (wr.alloc (.cells #[.int .u8 b] 5)).drew (w.heap.size + 1) 117 _ := (hb2.alloc _).drew
        have hkg := Keeps.of_grown hg
        have hne : ∀ i, (Value.slice A2 n2 c2).ownBlock = some i → w.heap.size + 2 ≤ i := hg2
        have h1 := hkg.blk hbk' (fun e => by have := hne _ e; omega)
        have h2 := hkg.blk hb2' (fun e => by have := hne _ e; omega)
        have hgg : w.heap.size + 2 ≤ g := by
          rcases hnb with h | h
          · exact hne _ h
          · have e : (wr.alloc (.cells #[.int .u8 b] 5)).drew.heap.size = wr.heap.size + 1 := by simp [World.drew]
            have := hb2.lt
            omega
        refine ⟨by rw [h1.cell]; rfl, h1.frozen 9, Lib.hid ⟨hn2, hx, h1.set_ 9 _, h2.far (by show w.heap.size + 1 ≠ w.heap.size; omega) _, ?_, hgg, ?_⟩⟩
        · exact Keeps.own ((Keeps.refl (fun i => i = w.heap.size) w').setCell (.inl rfl) _) hown (fun i hi e => by have e' : some g = some i := hi; injection e' with e'; omega)
        · exact (((hkp.alloc _).drew).grown hg (fun i hi => .inr (by have := hne _ hi; omega))).setCell (.inr (Nat.le_refl _)) _
      have HN2 := Lib.hid hn2
      have HBR := Lib.hid hbr
      clear hcB hbk ho hx hg2 hb2 hkp hc8 hb hn2 hbr
      go_wp2
      -- REGION 5
      refine wp_region_last (S := Keeps (fun i => (Value.slice A2 n2 c2).ownBlock = some i) wr) 9 (by kernel_rfl) ((Keeps.refl _ _).drew) (fun hHeld => ?_)
      refine wpAnyZ_take (i := 0) (oi := ⟨some 16, _, _, _, _, _⟩) (v := ?_) rfl (by kernel_rfl) (by kernel_rfl) (by kernel_rfl) (by kernel_rfl) (fun _ _ _ h => h) (Or.inl ⟨by rfl, ?_⟩) hHeld ?_
      rotate_left
      · intro w' hSw
        go_simp
        first | done | rfl
      try simp only [Act.put, List.setIfInBounds_toArray, List.set_cons_zero, List.set_cons_succ]
      refine wpAnyZ_take (i := 1) (oi := ⟨some 17, _, _, _, _, _⟩) (v := ?_) rfl (by kernel_rfl) (by kernel_rfl) (by kernel_rfl) (by kernel_rfl) (fun _ _ _ h => h) (Or.inl ⟨by rfl, ?_⟩) hHeld ?_
      rotate_left
      · intro w' hSw
        have c9 := HC9.out _ hSw
        go_simp
        first | done | rfl
      try simp only [Act.put, List.setIfInBounds_toArray, List.set_cons_zero, List.set_cons_succ]
      refine wpAnyZ_take (i := 2) (oi := ⟨some 18, _, _, _, _, _⟩) (v := ?_) rfl (by kernel_rfl) (by kernel_rfl) (by kernel_rfl) (by kernel_rfl) (fun _ _ _ h => h) (Or.inl ⟨by rfl, ?_⟩) hHeld ?_
      rotate_left
      · intro w' hSw
        go_simp
        first | done | rfl
      try simp only [Act.put, List.setIfInBounds_toArray, List.set_cons_zero, List.set_cons_succ]
      refine wpAnyZ_take (i := 3) (oi := ⟨some 19, _, _, _, _, _⟩) (v := ?_) rfl (by kernel_rfl) (by kernel_rfl) (by kernel_rfl) (by kernel_rfl) (fun _ _ _ h => h) (Or.inl ⟨by rfl, ?_⟩) hHeld ?_
      rotate_left
      · intro w' hSw
        go_simp
        first | done | rfl
      try simp only [Act.put, List.setIfInBounds_toArray, List.set_cons_zero, List.set_cons_succ]
      refine wpAnyZ_take (i := 4) (oi := ⟨some 20, _, _, _, _, _⟩) (v := ?_) rfl (by kernel_rfl) (by kernel_rfl) (by kernel_rfl) (by kernel_rfl) (fun _ _ _ h => h) (Or.inl ⟨by rfl, ?_⟩) hHeld ?_
      rotate_left
      · intro w' hSw
        go_simp
        first | done | rfl
      try simp only [Act.put, List.setIfInBounds_toArray, List.set_cons_zero, List.set_cons_succ]
      refine wpAnyZ_take (i := 5) (oi := ⟨some 21, _, _, _, _, _⟩) (v := ?_) rfl (by kernel_rfl) (by kernel_rfl) (by kernel_rfl) (by kernel_rfl) (fun _ _ _ h => h) (Or.inl ⟨by rfl, ?_⟩) hHeld ?_
      rotate_left
      · intro w' hSw
        have cb := HCB.out _ hSw
        go_simp
        first | done | rfl
      try simp only [Act.put, List.setIfInBounds_toArray, List.set_cons_zero, List.set_cons_succ]
      refine wpAnyZ_step (i := 6) (o := ⟨some 22, _, _, _, _, _⟩) (by kernel_rfl) rfl (fun K hK => ?_)
      go_simp
      refine hK.out _ _ (hHeld.alloc _) (fun hHeld => ?_)
      clear hK K
      try simp only [Act.put, List.setIfInBounds_toArray, List.set_cons_zero, List.set_cons_succ]
      refine wpAnyZ_step (i := 7) (o := ⟨some 23, _, _, _, _, _⟩) (by kernel_rfl) rfl (fun K hK => ?_)
      refine step_append_lies _ rfl (.tmp 17) (.tmp 22) 22 rfl 0 5 _ _ 1 1 Tryd.underlying22 rfl rfl rfl rfl rfl (by decide) _ n2 _ rfl HOA.out ⟨wr.heap.size, 0, none⟩ 1 1 [.int .u8 b] rfl rfl HNB.out (vb_one [b]) (by decide) (by unfold maxLen; omega) (by omega) (Nat.zero_le _) _ rfl ?_
      intro g cap w' hown hg hnb hglt
      obtain ⟨d9, e9, HS⟩ := HD.out g cap w' hown hg hnb
      have hHeld := hHeld.grown hg (fun i hi => .inl hi)
      clear hown hg hnb
      refine hK.out _ _ hHeld (fun hHeld => ?_)
      clear hK K
      try simp only [Act.put, List.setIfInBounds_toArray, List.set_cons_zero, List.set_cons_succ]
      refine wpAnyZ_take (i := 8) (oi := ⟨some 24, _, _, _, _, _⟩) (v := ?_) rfl (by kernel_rfl) (by kernel_rfl) (by kernel_rfl) (by kernel_rfl) (fun _ _ _ h => h) (Or.inl ⟨by rfl, ?_⟩) hHeld ?_
      rotate_left
      · intro w' hSw
        go_simp
        first | done | rfl
      try simp only [Act.put, List.setIfInBounds_toArray, List.set_cons_zero, List.set_cons_succ]
      refine wpAnyZ_last (o := ⟨none, _, _, _, _, _⟩) (by kernel_rfl) (by kernel_rfl) rfl (fun K hK => ?_)
      go_simp
      refine hK.out _ _ ?_
      clear hK K
      try simp only [Act.put, List.setIfInBounds_toArray, List.set_cons_zero, List.set_cons_succ]
      -- BEHIND REGION 5
      clear d9 e9
      generalize (w'.setCell ⟨w.heap.size, 9, none⟩ (.slice (some ⟨g, 0, none⟩) (n2 + 1) cap)) = W1 at HS ⊢
      have x9 : W1.cell? ⟨w.heap.size, 9, none⟩ = some (.slice (some ⟨g, 0, none⟩) (n2 + 1) cap) := by rw [HS.out.blk.cell]; rfl
      by_cases h63 : n2 = 63
      · subst h63
        have hR0 : Hid (RFill w S nb Y b g cap W1.heap.size 0 (W1.alloc (.cells (List.replicate 64 (Value.int .u8 0)).toArray 129))) := Lib.hid (HS.out.fill HBR.out)
        go_wp2
        clear x9
        go_loopw [7] (fun i wx => ∃ t : Nat, t ≤ 64 ∧ i = .int .i64 t ∧ RFill w S nb Y b g cap W1.heap.size t wx) (fun i _ => 64 - (intOf i).toNat)
        case atStart => exact ⟨0, by omega, rfl, hR0.out⟩
        case round =>
          clear hR0
          obtain ⟨t, ht, rfl, hr⟩ := hrel
          have HRF := Lib.hid hr
          clear hr
          by_cases ht64 : t < 64
          · have y9 : wr.cell? ⟨w.heap.size, 9, none⟩ = some (.slice (some ⟨g, 0, none⟩) (63 + 1) cap) := by rw [HRF.out.step.blk.cell]; rfl
            have yt := HRF.out.src t ht64
            obtain ⟨old, yo⟩ := HRF.out.dst t ht64
            have yf := HRF.out.fill.frozen t
            obtain ⟨x, hx⟩ : ∃ x, x = blockAt (Y ++ [b]) (Y.length / 64) t := ⟨_, rfl⟩
            rw [← hx] at yt
            have HX1 := Lib.hid hx
            clear hx
            go_wp2
            go_roundw
            case rel => exact ⟨t + 1, by omega, by go_num, by rw [HX1.out]; exact HRF.out.next ht64⟩
            case measure => simp [intOf]; omega
          · obtain rfl : t = 64 := by omega
            have hs : Lies wr w.heap.size 0 (wl (stN S Y (Y.length / 64))) := Lies.of_blk HRF.out.step.blk (by simp [hcells, wl])
            have hbb := HRF.out.all
            obtain ⟨B, hB⟩ : ∃ B, B = blockAt (Y ++ [b]) (Y.length / 64) := ⟨_, rfl⟩
            obtain ⟨st, hst⟩ : ∃ st, st = stN S Y (Y.length / 64) := ⟨_, rfl⟩
            obtain ⟨q2, hq2⟩ : ∃ q2, q2 = nb + Y.length / 64 := ⟨_, rfl⟩
            have hq2b : q2 < 72057594037927936 := by have := HYL.out; omega
            have hblk := HRF.out.step.blk
            have hro := refRound_any (stN S Y (Y.length / 64)) (blockAt (Y ++ [b]) (Y.length / 64)) (blockAt_bytes (bytes_append HRF.out.step.bytes (fun z hz => by rw [List.mem_singleton.1 hz]; exact HBR.out)) _) wr
            rw [← hB, ← hst] at hro
            rw [← hB] at hbb
            rw [← hst] at hs
            rw [← hst, ← hq2] at hblk
            have HS1 := Lib.hid hs
            have HBB := Lib.hid hbb
            have HRO := Lib.hid hro
            have HBK := Lib.hid hblk
            have HB := Lib.hid hB
            have HST := Lib.hid hst
            have HQ2 := Lib.hid hq2
            clear hs hbb hro hblk hB hst hq2
            go_wp2_with (first
              | ((with_reducible show wpList _ _ _ (⟨some _, Op.load 114 _, _, _, _, _⟩ :: _) _ _); refine wpList_load_lies rfl 114 _ rfl 0 (wl st) _ rfl HS1.out Tryd.underlying114 rfl info8 ?_)
              | ((with_reducible show wpList _ _ _ (⟨some _, Op.load 129 _, _, _, _, _⟩ :: _) _ _); refine wpList_load_whole rfl 129 _ rfl _ rfl HBB.out Tryd.underlying129 rfl (by rw [bl_length]; exact info64) ?_)
              | (go_at_call 90; refine HRO.out.mono ?_; rintro e wz ⟨rfl, hkz⟩)
              | ((with_reducible show wpList _ _ _ (⟨none, Op.store 114 _ _, _, _, _, _⟩ :: _) _ _); refine wpList_store_at rfl 114 _ _ rfl 0 (wl (round st B)) rfl rfl (hkz.blk HBK.out (fun h => h)) (by simp [hcells, wl]) info8 (wl_one _) ?_; rw [splice_hcells]; have hb2 := (hkz.blk HBK.out (fun h => h)).setRow (hcells (round st B) (q2 : Int) (.slice (some ⟨g, 0, none⟩) (63 + 1) cap)); have hk2 : Keeps (fun i => i = w.heap.size) wr (wz.setRow w.heap.size (hcells (round st B) (q2 : Int) (.slice (some ⟨g, 0, none⟩) (63 + 1) cap)).toArray) := Keeps.setRow (F := fun i => i = w.heap.size) (hkz.mono (fun _ _ h => h.elim)) (.inl rfl) _; generalize wz.setRow w.heap.size _ = w2 at hb2 hk2 ⊢; have d8 : w2.cell? ⟨w.heap.size, 8, none⟩ = some (.int .u64 (q2 : Int)) := (by rw [hb2.cell]; rfl); have e8 : w2.frozen? ⟨w.heap.size, 8, none⟩ = false := hb2.frozen 8; have d9 : w2.cell? ⟨w.heap.size, 9, none⟩ = some (.slice (some ⟨g, 0, none⟩) (63 + 1) cap) := (by rw [hb2.cell]; rfl); have e9 : w2.frozen? ⟨w.heap.size, 9, none⟩ = false := hb2.frozen 9; have HB2 := Lib.hid hb2; have HK2 := Lib.hid hk2; clear hb2 hk2))
            go_roundw
            case rel =>
              have hstp := HRF.out.step
              have hb3 := (HB2.out.set_ 8 (.int .u64 ((q2 + 1 : Nat) : Int))).set_ 9 (.slice none 0 0)
              have hk3 : Keeps (fun i => i = w.heap.size) wr ((w2.setCell ⟨w.heap.size, 8, none⟩ (.int .u64 ((q2 + 1 : Nat) : Int))).setCell ⟨w.heap.size, 9, none⟩ (.slice none 0 0)) := Keeps.setCell (F := fun i => i = w.heap.size) (Keeps.setCell (F := fun i => i = w.heap.size) HK2.out (.inl rfl) _) (.inl rfl) _
              refine ⟨k + 1, by omega, by go_num, .slice none 0 0, ?_, (fun g h => by cases h), hk3.blk hstp.blk2 (fun h => by omega), hstp.keep.trans (hk3.mono (G := fun i => w.heap.size ≤ i) (fun _ _ h => h ▸ Nat.le_refl _)) (fun i hi h => by omega)⟩
              rw [HNEXT.out]
              refine rhash_full (HN2.out.symm) hstp.bytes HBR.out ?_
              rw [← HST.out, ← HB.out, ← HQ2.out]
              exact hb3
            case measure => simp [intOf]; omega
      · have h64' : n2 + 1 < 64 := by omega
        have h64 : ((n2 : Int) + 1 == 64) = false := by simp; omega
        go_wp2
        go_roundw
        case rel =>
          have hstp := HS.out
          refine ⟨k + 1, by omega, by go_num, .slice (some ⟨g, 0, none⟩) (n2 + 1) cap, ?_, fun i h => ?_, hstp.blk2, hstp.keep⟩
          · rw [HNEXT.out]
            exact rhash_short HN2.out h64' hstp.bytes HBR.out hstp.blk hstp.own
          · have e : some g = some i := h
            injection e with e
            have := hstp.low
            omega
        case measure => simp [intOf]; omega
    · obtain rfl : k = bs.length := by omega
      obtain ⟨v, ⟨hb, ho, hx⟩, hg, hb2, hkp⟩ := HW.out
      rw [List.take_length] at hb ho
      obtain ⟨A2, c2, rfl⟩ := own_shape ho
      generalize hnn : (X ++ bs).length % 64 = n2 at *
      have HB := Lib.hid hb
      have HO := Lib.hid ho
      have HB2 := Lib.hid hb2
      have HG := Lib.hid hg
      have HKP := Lib.hid hkp
      obtain ⟨T', hT'⟩ : ∃ T', T' = stN S (X ++ bs) ((X ++ bs).length / 64) := ⟨_, rfl⟩
      obtain ⟨q', hq'⟩ : ∃ q', q' = nb + (X ++ bs).length / 64 := ⟨_, rfl⟩
      rw [← hT', ← hq'] at HB
      have HT' := Lib.hid hT'
      have HQ' := Lib.hid hq'
      have HNN := Lib.hid hnn
      clear hb ho hx hg hb2 hkp HW hT' hq' hnn
      go_wp2_with (first
        | ((with_reducible show wpList _ _ _ (⟨some _, Op.load 117 _, _, _, _, _⟩ :: _) _ _); refine wpList_load_whole rfl 117 _ rfl _ rfl HB.out Tryd.underlying117 rfl (by rw [hcells_length]; kernel_rfl) ?_)
        | ((with_reducible show wpList _ _ _ (⟨none, Op.store 117 _ _, _, _, _, _⟩ :: _) _ _); refine wpList_store_whole rfl 117 _ _ rfl (hcells T' q' (.slice A2 n2 c2)) rfl rfl HB2.out (by rw [hcells_length, hcells_length]) (by rw [hcells_length]; kernel_rfl) (hcells_one T' q' _ _ _) ?_))
      refine bodyPost_ret (results_blk rfl _ _ rfl (HB2.out.setRow (hcells T' q' (.slice A2 n2 c2))) Tryd.underlying117 rfl (by rw [hcells_length]; kernel_rfl)) rfl ⟨.slice A2 n2 c2, by rw [HT'.out, HQ'.out], ?_, ?_, ?_⟩
      · rw [HNN.out]
        exact Keeps.own (Keeps.setRow (F := fun i => i = w.heap.size + 1) (Keeps.refl _ _) (.inl rfl) _) HO.out (fun g h e => by have := HG.out g h; omega)
      · exact HKP.out.setRow (.inr (by omega)) _
      · exact fun g h => by have := HG.out g h; omega
end Go.Proofs.YtknecjjdegngfaaDoor
