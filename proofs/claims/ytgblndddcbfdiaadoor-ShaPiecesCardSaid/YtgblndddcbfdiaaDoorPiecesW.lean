/-
  WALKS: the statement ShaPieces.
-/
import Derived.Test.YtgblndddcbfdiaaDoorOwnW
import Derived.Test.YtgblndddcbfdiaaDoorOpen
import Derived.Test.YtgblndddcbfdiaaDoorCutL
import Derived.Test.YtgblndddcbfdiaaDoorShaRoundW
set_option linter.unusedSimpArgs false
namespace Go.Proofs.YtgblndddcbfdiaaDoor
open Go Go.RowKit Go.Sha Go.Aff

/-- While the pieces are written: m bytes are. -/
def PiecesRel (w2 : World) (bs : List Int) (n nc : Nat) (h a i : Value) (wr : World) : Prop :=
  ∃ (k m p : Nat) (v : Value), k ≤ nc ∧ i = .int .i64 k ∧ a = .int .i64 m ∧ m ≤ n ∧ h = .pointer (some ⟨p, 0, none⟩) ∧ Own w2 wr p v first 0 (bs.take m)

theorem int_cell {w : World} {A : Option Addr} {n : Nat} {zs : List Int} (hr : Rd w A n (vi .i64 zs)) (k : Nat) (hk : k < n) : ∃ g o z, A = some ⟨g, o, none⟩ ∧ zs[k]? = some z ∧ w.cell? ⟨g, o + k, none⟩ = some (.int .i64 z) := by
  obtain ⟨g, o, e, hc⟩ := hr.2 (by omega)
  have hl : zs.length = n := by have := hr.1; simpa [vi] using this
  refine ⟨g, o, zs[k], e, by simp [hl, hk], ?_⟩
  rw [hc k hk]
  simp [vi, hl, hk]

theorem clip (z : Int) (n m : Nat) (h : m ≤ n) : ∃ q : Nat, (if (n : Int) - m < if z < 0 then 0 else z then (n : Int) - m else if z < 0 then 0 else z) = (q : Int) ∧ m + q ≤ n := by
  refine ⟨(if (n : Int) - m < if z < 0 then 0 else z then (n : Int) - m else if z < 0 then 0 else z).toNat, ?_, ?_⟩ <;> split <;> split <;> omega

/-- The bytes of "more", written into a copy. -/
theorem more_any (w : World) (hG : Glob w) (w5 : World) (q : Nat) (u : Value) (X : List Int) (h : Own w w5 q u first 0 X) (hX : X.length < 1152921504606846976) :
    Calls Tryd.prog 22 #[.pointer (some ⟨q, 0, none⟩), .slice (some ⟨w5.heap.size + 1, 0, none⟩) 1 1] ((w5.alloc (.cells #[.int .u8 109, .int .u8 111, .int .u8 114, .int .u8 101] 5 (4, 5))).alloc (.cells #[.slice (some ⟨w5.heap.size, 0, none⟩) 4 4] 26)) fun e w' => e = .returned .nilIface ∧ Keeps (Foot q u) w5 w' := by
  have hb : Rd (w5.alloc (.cells #[.int .u8 109, .int .u8 111, .int .u8 114, .int .u8 101] 5 (4, 5))) (some ⟨w5.heap.size, 0, none⟩) 4 (vb [109, 111, 114, 101]) := by
    have h1 := heap_alloc_new w5 (.cells #[.int .u8 109, .int .u8 111, .int .u8 114, .int .u8 101] 5 (4, 5))
    refine ⟨rfl, fun _ => ⟨_, 0, rfl, fun j _ => ?_⟩⟩
    rw [Nat.zero_add, cell_of_row _ _ j _ _ _ h1]
    simp [vb]
  have h1 := h.keep ((Keeps.refl (fun _ => False) w5).alloc (.cells #[.int .u8 109, .int .u8 111, .int .u8 114, .int .u8 101] 5 (4, 5)))
  have ho : Out (Foot q u) (some ⟨w5.heap.size, 0, none⟩) 4 := by
    intro _ ad e hf
    injection e with e
    subst e
    exact Nat.lt_irrefl _ (h.1.lt _ hf)
  have := own_write1 w hG _ q u first 0 X h1 (some ⟨w5.heap.size, 0, none⟩) 4 4 [109, 111, 114, 101] rfl hb ho (by intro x hx; simp at hx; omega) (by omega) (by omega) (by omega)
  rw [World.size_alloc] at this
  exact this.mono fun e w' ⟨he, v', _, hk, _⟩ => ⟨he, ((Keeps.refl _ w5).alloc _).trans hk (fun _ _ h => h)⟩
theorem more_keep {w w4 w5 w6 : World} {p q : Nat} {v u : Value} {X : List Int} (h : Own w w4 p v first 0 X) (hk : Keeps (fun _ => False) w4 w5) (hf : ∀ i, Foot q u i → w4.heap.size ≤ i) (hk6 : Keeps (Foot q u) w5 w6) : Own w w6 p v first 0 X := by
  have h5 := h.keep hk
  refine ⟨h5.1.keep hk6 (fun i hi hq => ?_), h5.2.1.trans hk6 (fun i hi hq => ?_), h5.2.2⟩
  · have := h.1.lt i hi
    have := hf i hq
    omega
  · have := hf i hq
    have := h.2.1.size
    omega

set_option maxHeartbeats 4000000 in
set_option maxRecDepth 100000 in
theorem pieces_any (w : World) (hG : Glob w) (Ab Ac As : Option Addr) (n cb nc cc ns cs : Nat) (bs cuts asks : List Int) (hn : bs.length = n) (hr : Rd w Ab n (vb bs)) (hb : IsBytes bs) (hc : n ≤ cb) (hm : n ≤ 140737488351232)
    (hrc : Rd w Ac nc (vi .i64 cuts)) (hmc : nc ≤ 140737488351232) (hwc : ∀ z ∈ cuts, (Lit.int .i64 z).wf = true) (hrs : Rd w As ns (vi .i64 asks)) (_hms : ns ≤ 140737488351232) :
    Calls Tryd.prog 6 #[.slice Ab n cb, .slice Ac nc cc, .slice As ns cs] w fun e w' => e = .returned (.bool true) ∧ Keeps (fun _ => False) w w' := by
  have hsum := sums_one w hG Ab n cb bs hn hr hb hc hm
  obtain ⟨D, hD⟩ : ∃ D, D = vb (sumF first 0 bs) := ⟨_, rfl⟩
  have hDl : D.length = 32 := by rw [hD]; simp [vb, sumF_length]
  have hD1 : ∀ u ∈ D, u.oneCell' = true := by rw [hD]; exact vb_one _
  have hDi : (Tryd.prog.info? 23).map (·.size) = some D.length := by rw [hDl]; kernel_rfl
  have HD := Lib.hid hD
  rw [← hD] at hsum
  have HDL := Lib.hid hDl
  have HD1 := Lib.hid hD1
  have HDI := Lib.hid hDi
  have HSUM := Lib.hid hsum
  have HG := Lib.hid hG
  have HN := Lib.hid hn
  have HR := Lib.hid hr
  have HB := Lib.hid hb
  have HRC := Lib.hid hrc
  have HRS := Lib.hid hrs
  have HWC := Lib.hid hwc
  clear hsum hD hDl hD1 hDi hG hn hr hb hrc hrs hwc
  go_enter Tryd.func6, Tryd.ntmps6
  go_wp2_with (first
    | (go_at_call 20; refine HSUM.out.mono ?_; rintro e w1 ⟨rfl, hk1⟩; have HK1 := Lib.hid hk1; clear hk1)
    | ((with_reducible show wpList _ _ _ (⟨none, Op.store 23 _ _, _, _, _, _⟩ :: _) _ _); refine wpList_store_whole rfl 23 _ _ rfl D rfl rfl (Blk.new w1 23 (List.replicate 32 (Value.int .u8 0))) (by rw [HDL.out]; simp) HDI.out HD1.out ?_)
    | (go_at_call 21; refine (new_any _ (HG.out.keep ((HK1.out.alloc _).setRow (.inr HK1.out.size) _) (fun _ h => h.elim))).mono ?_; rintro e w3 ⟨rfl, rfl⟩))
  obtain ⟨w2, hw2⟩ : ∃ w2, w2 = ((w1.alloc (.cells (List.replicate 32 (Value.int .u8 0)).toArray 23)).setRow w1.heap.size D.toArray) := ⟨_, rfl⟩
  have hk2 : Keeps (fun _ => False) w w2 := by rw [hw2]; exact (HK1.out.alloc _).setRow (.inr HK1.out.size) _
  have hbd : Blk w2 w1.heap.size 23 D := by rw [hw2]; exact (Blk.new w1 _ _).setRow D
  have R0 : Hid (PiecesRel w2 bs n nc (.pointer (some ⟨w1.heap.size + 1, 0, none⟩)) (.int .i64 0) (.int .i64 0) (((w1.alloc (.cells (List.replicate 32 (Value.int .u8 0)).toArray 23)).setRow w1.heap.size D.toArray).alloc (.cells (hcells first 0 (.slice none 0 0)).toArray 88))) := by
    have ho := own_new w2
    have hsz2 : w2.heap.size = w1.heap.size + 1 := by rw [hw2]; simp
    rw [hsz2] at ho
    rw [← hw2]
    exact ⟨0, 0, _, _, by omega, rfl, rfl, by omega, rfl, by simpa using ho⟩
  have hG2 := HG.out.keep hk2 (fun _ h => h.elim)
  have HK2 := Lib.hid hk2
  have HBD := Lib.hid hbd
  have HG2 := Lib.hid hG2
  clear hk2 hbd hG2 HK1 HSUM HG hw2
  go_loopw [8, 9, 21] (fun h a i wr => PiecesRel w2 bs n nc h a i wr) (fun _ _ i _ => nc - (intOf i).toNat)
  case atStart => exact R0.out
  case round =>
    clear R0
    obtain ⟨k, m, p, v, hk, rfl, rfl, hmn, rfl, ho⟩ := hrel
    have hkw : Keeps (fun _ => False) w wr := HK2.out.trans ho.2.1 (fun _ _ h => h)
    have HO := Lib.hid ho
    have HKW := Lib.hid hkw
    clear ho hkw
    by_cases hlt : k < nc
    · obtain ⟨gc, oc, z, hA, hz, hcell⟩ := int_cell (HRC.out.keep HKW.out (no_out _ _)) k hlt
      subst hA
      have hzb := bounds_i64 (HWC.out z (List.mem_of_getElem? hz))
      clear hz
      obtain ⟨q, hq, hmq⟩ := clip z n m hmn
      have hcut := cut_lh (P := Tryd.prog) Tryd.underlying26 (by kernel_rfl) Ab n cb m (m + q) m (m + q) rfl (by omega) (by omega) (by omega)
      rw [show m + q - m = q by omega] at hcut
      have hrd : Rd w (cutA Ab cb m) q (vb ((bs.drop m).take q)) := by
        have := HR.out.cutLH (l := m) (k := m + q) (c := cb) (by omega) (by omega) hc
        rw [show m + q - m = q by omega] at this
        simpa [vb, List.map_drop, List.map_take] using this
      have hln : ((bs.drop m).take q).length = q := by rw [List.length_take, List.length_drop, HN.out]; omega
      have hby : IsBytes ((bs.drop m).take q) := fun x hx => HB.out x (List.mem_of_mem_drop (List.mem_of_mem_take hx))
      have hlt2 : (bs.take m).length = m := by rw [List.length_take, HN.out]; omega
      have hw := own_write1 w2 HG2.out wr p v first 0 (bs.take m) HO.out (cutA Ab cb m) q (cb - m) _ hln (hrd.keep HKW.out (no_out _ _)) (HO.out.out (hrd.keep HK2.out (no_out _ _))) hby (by omega) (by omega) (by rw [hlt2]; omega)
      rw [← List.take_add] at hw
      have HW := Lib.hid hw
      obtain ⟨A1, hA1⟩ : ∃ A1, A1 = cutA Ab cb m := ⟨_, rfl⟩
      rw [← hA1] at HW
      rw [← hA1] at hcut
      clear hrd hln hby hlt2 hw hA1
      by_cases hs : k < ns
      · obtain ⟨gs, os, z2, hA2, hz2, hcell2⟩ := int_cell (HRS.out.keep HKW.out (no_out _ _)) k hs
        subst hA2
        have hcs : ∀ w4, Keeps (fun _ => False) w2 w4 → w4.cell? ⟨gs, os + k, none⟩ = some (.int .i64 z2) := fun w4 hk4 => by
          obtain ⟨g', o', z', e', hz', hc'⟩ := int_cell (HRS.out.keep (HK2.out.trans hk4 (fun _ _ h => h)) (no_out _ _)) k hs
          injection e' with e'
          injection e' with e1 e2
          subst e1 e2
          rw [hc', Option.some.inj (hz'.symm.trans hz2)]
        have HCS := Lib.hid hcs
        clear hcs hcell2 hz2
        go_upto_region 14 with (go_at_call 22; refine HW.out.mono ?_; rintro e w4 ⟨rfl, v4, ho4, hk4, hf4⟩; have HO4 := Lib.hid ho4; clear ho4 hk4 hf4; have hc4 := HCS.out w4 HO4.out.2.1)
        clear hc4 hcut
        have HG4 := Lib.hid (HG2.out.keep HO4.out.2.1 (fun _ h => h.elim))
        by_cases h1 : z2 = 1
        · subst h1
          go_wp2_with (go_at_call 23; refine (sum_any _ HG4.out p v4 first 0 _ HO4.out.1 (by rw [List.length_take]; omega)).mono ?_; rintro e w5 ⟨rfl, hk5⟩)
          go_roundw
          case rel => exact ⟨k + 1, m + q, _, _, by omega, by go_num, by go_num, by omega, rfl, HO4.out.keep hk5⟩
          case measure => simp [intOf]; omega
        by_cases h2 : z2 = 2
        · subst h2
          go_wp2_with (go_at_call 24; refine (mid_any _ p v4 first 0 _ HO4.out.1).mono ?_; rintro e w5 ⟨A5, c5, rfl, hown5, hk5, hnew5⟩; clear hown5 hnew5)
          go_roundw
          case rel => exact ⟨k + 1, m + q, _, _, by omega, by go_num, by go_num, by omega, rfl, HO4.out.keep hk5⟩
          case measure => simp [intOf]; omega
        by_cases h3 : z2 = 3
        · subst h3
          go_wp2_with (go_at_call 25; refine (copy_any _ p v4 first 0 _ HO4.out.1).mono ?_; intro e w5 hc5; obtain ⟨q5, u5, rfl, ho5, _, _⟩ := Own.copied HO4.out.2.1 hc5; clear hc5)
          go_roundw
          case rel => exact ⟨k + 1, m + q, _, _, by omega, by go_num, by go_num, by omega, rfl, ho5⟩
          case measure => simp [intOf]; omega
        by_cases h4 : z2 = 4
        · subst h4
          have kc := fun (w : World) (C : Array Value) (n c : Nat) => Lib.run_convert_bytes_const (P := Tryd.prog) w 26 5 C n c Tryd.underlying26 Tryd.underlying5
          go_wp2_with (first
            | (go_at_call 25; refine (copy_any _ p v4 first 0 _ HO4.out.1).mono ?_; intro e w5 hc5; obtain ⟨q5, u5, rfl, ho5, hk5, hf5⟩ := Own.copied HO4.out.2.1 hc5; have HO5 := Lib.hid ho5; have HK5 := Lib.hid hk5; have HF5 := Lib.hid hf5; clear hc5 ho5 hk5 hf5)
            | (go_at_call 22; refine (more_any w2 HG2.out w5 q5 u5 _ HO5.out (by rw [List.length_take]; omega)).mono ?_; rintro e w6 ⟨rfl, hk6⟩))
          go_roundw
          case rel => exact ⟨k + 1, m + q, _, _, by omega, by go_num, by go_num, by omega, rfl, more_keep HO4.out HK5.out HF5.out hk6⟩
          case measure => simp [intOf]; omega
        have n1 : (z2 == 1) = false := by simpa using h1
        have n2 : (z2 == 2) = false := by simpa using h2
        have n3 : (z2 == 3) = false := by simpa using h3
        have n4 : (z2 == 4) = false := by simpa using h4
        go_wp2
        go_roundw
        case rel => exact ⟨k + 1, m + q, _, _, by omega, by go_num, by go_num, by omega, rfl, HO4.out⟩
        case measure => simp [intOf]; omega
      · go_wp2_with (go_at_call 22; refine HW.out.mono ?_; rintro e w4 ⟨rfl, v4, ho4, hk4, hf4⟩; have HO4 := Lib.hid ho4; clear ho4 hk4 hf4)
        go_roundw
        case rel => exact ⟨k + 1, m + q, _, _, by omega, by go_num, by go_num, by omega, rfl, HO4.out⟩
        case measure => simp [intOf]; omega
    · obtain rfl : k = nc := by omega
      have hcut := cut_l (P := Tryd.prog) Tryd.underlying26 (by kernel_rfl) Ab n cb m m rfl (by omega)
      have hrd : Rd w (cutA Ab cb m) (n - m) (vb (bs.drop m)) := by
        have := HR.out.cutA (l := m) (c := cb) (by omega) hc
        simpa [vb, List.map_drop] using this
      have hln : (bs.drop m).length = n - m := by rw [List.length_drop, HN.out]
      have hby : IsBytes (bs.drop m) := fun x hx => HB.out x (List.mem_of_mem_drop hx)
      have hlt2 : (bs.take m).length = m := by rw [List.length_take, HN.out]; omega
      have hp2 := parts_two (Foot p v) wr.drew 26 (cutA Ab cb m) none (n - m) (cb - m) 0 0 (bs.drop m) [] (fun i hi => HO.out.1.lt i hi) hln (hrd.keep HKW.out.drew (no_out _ _)) (HO.out.out (hrd.keep HK2.out (no_out _ _))) hby (by omega) (by omega) rfl ⟨rfl, fun h => absurd h (by omega)⟩ (fun h => absurd h (by omega)) (by intro x hx; cases hx) (by omega) (by omega)
      have hw5 := own_write w2 HG2.out wr p v first 0 (bs.take m) HO.out _ ((Keeps.refl (fun _ => False) wr).drew.alloc (.cells #[.slice (cutA Ab cb m) (n - m) (cb - m), .slice none 0 0] 26)) _ 2 2 [bs.drop m, []] rfl hp2 (by omega) (by have := HN.out; simp; omega)
      have HW5 : Hid (Calls Tryd.prog 22 #[.pointer (some ⟨p, 0, none⟩), .slice (some ⟨wr.heap.size, 0, none⟩) 2 2] (wr.drew.alloc (.cells #[.slice (cutA Ab cb m) (n - m) (cb - m), .slice none 0 0] 26)) fun e w' => e = .returned .nilIface ∧ ∃ v', Own w2 w' p v' first 0 bs ∧ Keeps (Foot p v) (wr.drew.alloc (.cells #[.slice (cutA Ab cb m) (n - m) (cb - m), .slice none 0 0] 26)) w') := by
        refine hw5.mono fun e w' ⟨he, v', a, b, _⟩ => ⟨he, v', ?_, b⟩
        have e2 : bs.take m ++ [bs.drop m, []].flatten = bs := by simp
        rwa [e2] at a
      have HSU : Hid (∀ w5 v5, Own w2 w5 p v5 first 0 bs → Calls Tryd.prog 23 #[.pointer (some ⟨p, 0, none⟩)] w5 fun e w' => e = .returned (.agg D.toArray) ∧ Keeps (fun _ => False) w5 w') := by
        intro w5 v5 h5
        rw [HD.out]
        exact sum_any w5 (HG2.out.keep h5.2.1 (fun _ h => h.elim)) p v5 first 0 bs h5.1 (by rw [HN.out]; omega)
      have HLN : Hid (∀ w5 v5, Own w2 w5 p v5 first 0 bs → Calls Tryd.prog 26 #[.pointer (some ⟨p, 0, none⟩)] w5 fun e w' => e = .returned (.int .u64 (n : Int)) ∧ ∃ k, w' = w5.drewN k) := by
        intro w5 v5 h5
        have := len_at w5 p v5 first 0 bs h5.1 (by rw [HN.out]; omega)
        rw [HN.out, Nat.mul_zero, Nat.zero_add] at this
        exact this
      have HRG : Hid (∀ W, Keeps (Foot p v) wr W → W.rangeAt w1.heap.size 0 D) := by
        intro W hk
        have hb1 := HO.out.2.1.blk HBD.out (fun h => h)
        have hlt1 := HBD.out.lt
        exact range_blk (hk.blk hb1 (fun hf => by have := HO.out.2.2 _ hf; omega))
      have heq : ∀ W, (binOp .eql 23 (.agg D.toArray) (.agg D.toArray)).run Tryd.prog W = .ok (.bool true) W := by
        intro W
        rw [HD.out, digest_eql W _ _ (sumF_length _ _ _) (sumF_length _ _ _)]
        simp
      have hwn : IntKind.u64.wrap (n : Int) = (n : Int) := by rw [IntKind.wrap_u64]; omega
      have U23 := Tryd.underlying23
      obtain ⟨A1, hA1⟩ : ∃ A1, A1 = cutA Ab cb m := ⟨_, rfl⟩
      rw [← hA1] at HW5 hcut
      clear hrd hln hby hlt2 hp2 hw5 hA1
      go_wp2
      refine wp_region_held_drew (S := Keeps (Foot p v) wr) (by kernel_rfl) (Keeps.refl _ _).drew (fun hHeld => ?_)
      refine wpAnyH_take (i := 0) (oi := ⟨some 78, _, _, _, _, _⟩) (v := ?_) rfl (by kernel_rfl) (by kernel_rfl) (by kernel_rfl) (fun _ _ _ h => h) (Or.inl ⟨by rfl, ?_⟩) hHeld ?_
      rotate_left
      · intro w' hSw
        go_simp
        first | done | rfl
      try simp only [Act.put, List.setIfInBounds_toArray]
      refine wpAnyH_take (i := 1) (oi := ⟨some 79, _, _, _, _, _⟩) (v := ?_) rfl (by kernel_rfl) (by kernel_rfl) (by kernel_rfl) (fun _ _ _ h => h) (Or.inl ⟨by rfl, ?_⟩) hHeld ?_
      rotate_left
      · intro w' hSw
        go_simp
        first | done | rfl
      try simp only [Act.put, List.setIfInBounds_toArray]
      refine wpAnyH_take (i := 2) (oi := ⟨some 80, _, _, _, _, _⟩) (v := ?_) rfl (by kernel_rfl) (by kernel_rfl) (by kernel_rfl) (fun _ _ _ h => h) (Or.inl ⟨by rfl, ?_⟩) hHeld ?_
      rotate_left
      · intro w' hSw
        go_simp
        first | done | rfl
      try simp only [Act.put, List.setIfInBounds_toArray]
      refine wpAnyH_take (i := 3) (oi := ⟨some 81, _, _, _, _, _⟩) (v := ?_) rfl (by kernel_rfl) (by kernel_rfl) (by kernel_rfl) (fun _ _ _ h => h) (Or.inl ⟨by rfl, ?_⟩) hHeld ?_
      rotate_left
      · intro w' hSw
        go_simp
        first | done | rfl
      try simp only [Act.put, List.setIfInBounds_toArray]
      refine wpAnyH_ready (rs := [4]) (by kernel_rfl) (by simp) ?_
      refine AllReadyH.cons (o := ⟨some 82, _, _, _, _, _⟩) rfl (fun K hK => ?_) AllReadyH.nil
      go_simp
      refine hK.out _ _ (hHeld.alloc _) (fun hHeld => ?_)
      clear hK K
      try simp only [Act.put, List.setIfInBounds_toArray]
      refine wpAnyH_ready (rs := [5]) (by kernel_rfl) (by simp) ?_
      refine AllReadyH.cons (o := ⟨some 83, _, _, _, _, _⟩) rfl (fun K hK => ?_) AllReadyH.nil
      go_simp
      refine HW5.out.mono ?_
      rintro e w5 ⟨rfl, v5, ho5, hk5⟩
      have HO5 := Lib.hid ho5
      have hq5 := hHeld.trans hk5 (fun _ _ h => h)
      clear ho5 hk5
      show K _ w5
      refine hK.out _ _ hq5 (fun hHeld => ?_)
      clear hK K
      try simp only [Act.put, List.setIfInBounds_toArray]
      refine wpAnyH_take (i := 6) (oi := ⟨some 84, _, _, _, _, _⟩) (v := ?_) rfl (by kernel_rfl) (by kernel_rfl) (by kernel_rfl) (fun _ _ _ h => h) (Or.inl ⟨by rfl, ?_⟩) hHeld ?_
      rotate_left
      · intro w' hSw
        go_simp
        first | done | rfl
      try simp only [Act.put, List.setIfInBounds_toArray]
      refine wpAnyH_take (i := 7) (oi := ⟨some 85, _, _, _, _, _⟩) (v := ?_) rfl (by kernel_rfl) (by kernel_rfl) (by kernel_rfl) (fun _ _ _ h => h) (Or.inl ⟨by rfl, ?_⟩) hHeld ?_
      rotate_left
      · intro w' hSw
        go_simp
        first | done | rfl
      try simp only [Act.put, List.setIfInBounds_toArray]
      refine wpAnyH_take (i := 8) (oi := ⟨some 86, _, _, _, _, _⟩) (v := ?_) rfl (by kernel_rfl) (by kernel_rfl) (by kernel_rfl) (fun _ _ _ h => h) (Or.inl ⟨by rfl, ?_⟩) hHeld ?_
      rotate_left
      · intro w' hSw
        go_simp
        first | done | rfl
      try simp only [Act.put, List.setIfInBounds_toArray]
      refine wpAnyH_take (i := 10) (oi := ⟨some 88, _, _, _, _, _⟩) (v := _) rfl (by kernel_rfl) (by kernel_rfl) (by kernel_rfl) (fun _ _ _ h => h) (yieldsIf_load_mid (by rfl) _ _ rfl _ _ rfl D _ (fun w' h => HRG.out w' h) U23 rfl HDI.out) hHeld ?_
      try simp only [Act.put, List.setIfInBounds_toArray]
      refine wpAnyH_ready (rs := [9]) (by kernel_rfl) (by simp) ?_
      refine AllReadyH.cons (o := ⟨some 87, _, _, _, _, _⟩) rfl (fun K hK => ?_) AllReadyH.nil
      go_simp
      refine (HSU.out w5 v5 HO5.out).mono ?_
      rintro e w9 ⟨rfl, hk9⟩
      have HO9 := Lib.hid (HO5.out.keep hk9)
      have hq9 := hHeld.trans hk9 (fun _ _ h => h.elim)
      clear hk9
      show K _ w9
      refine hK.out _ _ hq9 (fun hHeld => ?_)
      clear hK K
      try simp only [Act.put, List.setIfInBounds_toArray]
      refine wpAnyH_take (i := 11) (oi := ⟨some 89, _, _, _, _, _⟩) (v := ?_) rfl (by kernel_rfl) (by kernel_rfl) (by kernel_rfl) (fun _ _ _ h => h) (Or.inl ⟨by rfl, ?_⟩) hHeld ?_
      rotate_left
      · intro w' hSw
        go_simp
        first | done | rfl
      try simp only [Act.put, List.setIfInBounds_toArray]
      refine wpAnyH_take (i := 12) (oi := ⟨some 90, _, _, _, _, _⟩) (v := ?_) rfl (by kernel_rfl) (by kernel_rfl) (by kernel_rfl) (fun _ _ _ h => h) (Or.inl ⟨by rfl, ?_⟩) hHeld ?_
      rotate_left
      · intro w' hSw
        go_simp
        first | done | rfl
      try simp only [Act.put, List.setIfInBounds_toArray]
      refine wpAnyH_take (i := 13) (oi := ⟨some 91, _, _, _, _, _⟩) (v := ?_) rfl (by kernel_rfl) (by kernel_rfl) (by kernel_rfl) (fun _ _ _ h => h) (Or.inl ⟨by rfl, ?_⟩) hHeld ?_
      rotate_left
      · intro w' hSw
        go_simp
        first | done | rfl
      try simp only [Act.put, List.setIfInBounds_toArray]
      refine wpAnyH_take (i := 14) (oi := ⟨some 92, _, _, _, _, _⟩) (v := ?_) rfl (by kernel_rfl) (by kernel_rfl) (by kernel_rfl) (fun _ _ _ h => h) (Or.inl ⟨by rfl, ?_⟩) hHeld ?_
      rotate_left
      · intro w' hSw
        go_simp
        first | done | rfl
      try simp only [Act.put, List.setIfInBounds_toArray]
      refine wpAnyH_take (i := 16) (oi := ⟨some 94, _, _, _, _, _⟩) (v := ?_) rfl (by kernel_rfl) (by kernel_rfl) (by kernel_rfl) (fun _ _ _ h => h) (Or.inl ⟨by rfl, ?_⟩) hHeld ?_
      rotate_left
      · intro w' hSw
        go_simp
        first | done | rfl
      try simp only [Act.put, List.setIfInBounds_toArray]
      refine wpAnyH_take (i := 17) (oi := ⟨some 95, _, _, _, _, _⟩) (v := ?_) rfl (by kernel_rfl) (by kernel_rfl) (by kernel_rfl) (fun _ _ _ h => h) (Or.inl ⟨by rfl, ?_⟩) hHeld ?_
      rotate_left
      · intro w' hSw
        go_simp
        first | done | rfl
      try simp only [Act.put, List.setIfInBounds_toArray]
      refine wpAnyH_take (i := 18) (oi := ⟨some 96, _, _, _, _, _⟩) (v := ?_) rfl (by kernel_rfl) (by kernel_rfl) (by kernel_rfl) (fun _ _ _ h => h) (Or.inl ⟨by rfl, ?_⟩) hHeld ?_
      rotate_left
      · intro w' hSw
        go_simp
        first | done | rfl
      try simp only [Act.put, List.setIfInBounds_toArray]
      refine wpAnyH_ready (rs := [15]) (by kernel_rfl) (by simp) ?_
      refine AllReadyH.cons (o := ⟨some 93, _, _, _, _, _⟩) rfl (fun K hK => ?_) AllReadyH.nil
      go_simp
      refine (HLN.out w9 v5 HO9.out).mono ?_
      rintro e wl ⟨rfl, kl, rfl⟩
      have HOl := Lib.hid (HO9.out.keep ((Keeps.refl (fun _ => False) w9).drewN kl))
      show K _ (w9.drewN kl)
      refine hK.out _ _ (hHeld.drewN kl) (fun hHeld => ?_)
      clear hK K
      try simp only [Act.put, List.setIfInBounds_toArray]
      refine wpAnyH_take (i := 19) (oi := ⟨some 97, _, _, _, _, _⟩) (v := ?_) rfl (by kernel_rfl) (by kernel_rfl) (by kernel_rfl) (fun _ _ _ h => h) (Or.inl ⟨by rfl, ?_⟩) hHeld ?_
      rotate_left
      · intro w' hSw
        go_simp
        first | done | rfl
      try simp only [Act.put, List.setIfInBounds_toArray]
      refine wpAnyH_take (i := 20) (oi := ⟨some 98, _, _, _, _, _⟩) (v := ?_) rfl (by kernel_rfl) (by kernel_rfl) (by kernel_rfl) (fun _ _ _ h => h) (Or.inl ⟨by rfl, ?_⟩) hHeld ?_
      rotate_left
      · intro w' hSw
        go_simp
        first | done | rfl
      try simp only [Act.put, List.setIfInBounds_toArray]
      refine wpAnyH_take (i := 21) (oi := ⟨some 99, _, _, _, _, _⟩) (v := ?_) rfl (by kernel_rfl) (by kernel_rfl) (by kernel_rfl) (fun _ _ _ h => h) (Or.inl ⟨by rfl, ?_⟩) hHeld ?_
      rotate_left
      · intro w' hSw
        go_simp
        first | done | rfl
      try simp only [Act.put, List.setIfInBounds_toArray]
      refine wpAnyH_take (i := 22) (oi := ⟨some 100, _, _, _, _, _⟩) (v := ?_) rfl (by kernel_rfl) (by kernel_rfl) (by kernel_rfl) (fun _ _ _ h => h) (Or.inl ⟨by rfl, ?_⟩) hHeld ?_
      rotate_left
      · intro w' hSw
        go_simp
        first | done | rfl
      try simp only [Act.put, List.setIfInBounds_toArray]
      refine wpAnyH_take (i := 24) (oi := ⟨some 102, _, _, _, _, _⟩) (v := _) rfl (by kernel_rfl) (by kernel_rfl) (by kernel_rfl) (fun _ _ _ h => h) (yieldsIf_load_mid (by rfl) _ _ rfl _ _ rfl D _ (fun w' h => HRG.out w' h) U23 rfl HDI.out) hHeld ?_
      try simp only [Act.put, List.setIfInBounds_toArray]
      refine wpAnyH_ready (rs := [23]) (by kernel_rfl) (by simp) ?_
      refine AllReadyH.cons (o := ⟨some 101, _, _, _, _, _⟩) rfl (fun K hK => ?_) AllReadyH.nil
      go_simp
      refine (HSU.out _ v5 HOl.out).mono ?_
      rintro e w23 ⟨rfl, hk23⟩
      have HO23 := Lib.hid (HOl.out.keep hk23)
      have hq23 := hHeld.trans hk23 (fun _ _ h => h.elim)
      clear hk23
      show K _ w23
      refine hK.out _ _ hq23 (fun hHeld => ?_)
      clear hK K
      try simp only [Act.put, List.setIfInBounds_toArray]
      refine wpAnyH_take (i := 25) (oi := ⟨some 103, _, _, _, _, _⟩) (v := ?_) rfl (by kernel_rfl) (by kernel_rfl) (by kernel_rfl) (fun _ _ _ h => h) (Or.inl ⟨by rfl, ?_⟩) hHeld ?_
      rotate_left
      · intro w' hSw
        go_simp
        first | done | rfl
      try simp only [Act.put, List.setIfInBounds_toArray]
      refine wpAnyH_take (i := 26) (oi := ⟨some 104, _, _, _, _, _⟩) (v := ?_) rfl (by kernel_rfl) (by kernel_rfl) (by kernel_rfl) (fun _ _ _ h => h) (Or.inl ⟨by rfl, ?_⟩) hHeld ?_
      rotate_left
      · intro w' hSw
        go_simp
        first | done | rfl
      try simp only [Act.put, List.setIfInBounds_toArray]
      refine wpAnyH_take (i := 27) (oi := ⟨some 105, _, _, _, _, _⟩) (v := ?_) rfl (by kernel_rfl) (by kernel_rfl) (by kernel_rfl) (fun _ _ _ h => h) (Or.inl ⟨by rfl, ?_⟩) hHeld ?_
      rotate_left
      · intro w' hSw
        go_simp
        first | done | rfl
      try simp only [Act.put, List.setIfInBounds_toArray]
      refine wpAnyH_ready (rs := [28]) (by kernel_rfl) (by simp) ?_
      refine AllReadyH.cons (o := ⟨some 106, _, _, _, _, _⟩) rfl (fun K hK => ?_) AllReadyH.nil
      go_simp
      refine (works_any _ (HG2.out.keep HO23.out.2.1 (fun _ h => h.elim))).mono ?_
      rintro e w28 ⟨rfl, hk28⟩
      have HO28 := Lib.hid (HO23.out.keep hk28)
      have hq28 := hHeld.trans hk28 (fun _ _ h => h.elim)
      clear hk28
      show K _ w28
      refine hK.out _ _ hq28 (fun hHeld => ?_)
      clear hK K
      try simp only [Act.put, List.setIfInBounds_toArray]
      refine wpAnyH_take (i := 29) (oi := ⟨some 107, _, _, _, _, _⟩) (v := ?_) rfl (by kernel_rfl) (by kernel_rfl) (by kernel_rfl) (fun _ _ _ h => h) (Or.inl ⟨by rfl, ?_⟩) hHeld ?_
      rotate_left
      · intro w' hSw
        go_simp
        first | done | rfl
      try simp only [Act.put, List.setIfInBounds_toArray]
      refine wpAnyH_take (i := 30) (oi := ⟨some 6, _, _, _, _, _⟩) (v := ?_) rfl (by kernel_rfl) (by kernel_rfl) (by kernel_rfl) (fun _ _ _ h => h) (Or.inl ⟨by rfl, ?_⟩) hHeld ?_
      rotate_left
      · intro w' hSw
        go_simp
        first | done | rfl
      try simp only [Act.put, List.setIfInBounds_toArray]
      refine wpAnyH_done (by kernel_rfl) ?_ _
      have HKF : Hid (Keeps (fun _ => False) w w28) := HK2.out.trans HO28.out.2.1 (fun _ _ h => h)
      go_wp2
      go_ret
      exact ⟨rfl, HKF.out⟩
end Go.Proofs.YtgblndddcbfdiaaDoor
