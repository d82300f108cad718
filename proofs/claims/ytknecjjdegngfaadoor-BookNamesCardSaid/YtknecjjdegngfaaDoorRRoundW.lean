/-
  WALKS: the reference's Round.
-/
import Derived.Test.YtknecjjdegngfaaDoorRef3W
import Derived.Test.YtknecjjdegngfaaDoorRRoundP
namespace Go.Proofs.YtknecjjdegngfaaDoor
open Go Go.RowKit Go.Sha Go.Aff

theorem r_any (x n : Int) (h0 : 0 ≤ n) (h1 : n ≤ 32) (w : World) :
    Calls Tryd.prog 97 #[.int .u32 x, .int .i64 n] w fun e w' => e = .returned (.int .u32 (tu x n)) ∧ ∃ k, w' = w.drewN k := by
  go_enter Tryd.func97, Tryd.ntmps97
  go_wp2
  go_quiet (fail)
  go_wp2
  go_ret
  exact ⟨rfl, _, rfl⟩

/-- The memory of the call while W is made; N, A: its first blocks. -/
structure RRel (S B : Nat → Int) (N A : Nat) (W : Nat → Int) (w wr : World) : Prop where
  wrow : wr.rowIs (A + 1) 144 64 (fun j => .int .u32 (W j))
  krow : wr.rowIs A 144 64 (fun j => .int .u32 (K.getD j 0))
  srow : wr.rowIs N 114 8 (fun j => .int .u32 (S j))
  brow : wr.rowIs (N + 1) 129 64 (fun j => .int .u8 (B j))
  zrow : Blk wr (N + 1 + 1) 114 (List.replicate 8 (Value.int .u32 0))
  keep : Keeps (fun _ => False) w wr
  low : w.heap.size ≤ N
  apart : N + 1 + 1 < A
theorem RRel.congr {S B : Nat → Int} {N A : Nat} {W W' : Nat → Int} {w wr : World} (h : RRel S B N A W w wr) (e : ∀ j, W j = W' j) : RRel S B N A W' w wr := by
  have : W = W' := funext e
  exact this ▸ h
theorem RRel.set {S B : Nat → Int} {N A : Nat} {W : Nat → Int} {w wr : World} (h : RRel S B N A W w wr) (t : Nat) (x : Int) :
    RRel S B N A (fun j => if j = t then x else W j) w (wr.setCell ⟨A + 1, t, none⟩ (.int .u32 x)) := by
  have hl := h.low
  have ha := h.apart
  refine ⟨(h.wrow.set t _).congr ?_, h.krow.setOther (by show A ≠ A + 1; omega) _, h.srow.setOther (by show N ≠ A + 1; omega) _, h.brow.setOther (by show N + 1 ≠ A + 1; omega) _, h.zrow.far (by show N + 1 + 1 ≠ A + 1; omega) _, h.keep.setCell (.inr (by show w.heap.size ≤ A + 1; omega)) _, hl, ha⟩
  intro i _
  show _ = Value.int .u32 (if i = t then x else W i)
  split <;> rfl
theorem RRel.drewN {S B : Nat → Int} {N A : Nat} {W : Nat → Int} {w wr : World} (h : RRel S B N A W w wr) (k : Nat) : RRel S B N A W w (wr.drewN k) :=
  ⟨h.wrow, h.krow, h.srow, h.brow, h.zrow.drewN k, h.keep.drewN k, h.low, h.apart⟩

/-- While the eight numbers turn. -/
def TurnRel (S B : Nat → Int) (w : World) (A : Nat) (a b c d e f g h i : Value) (wx : World) : Prop :=
  ∃ (t : Nat) (xa xb xc xd xe xf xg xh : Int), t ≤ 64 ∧ i = .int .i64 t ∧ a = .int .u32 xa ∧ b = .int .u32 xb ∧ c = .int .u32 xc ∧ d = .int .u32 xd ∧ e = .int .u32 xe ∧ f = .int .u32 xf ∧ g = .int .u32 xg ∧ h = .int .u32 xh ∧ csL (wsv B 64) S t = [xa, xb, xc, xd, xe, xf, xg, xh] ∧ RRel S B w.heap.size A (wsv B 64) w wx

set_option maxHeartbeats 4000000 in
set_option maxRecDepth 100000 in
theorem refRound_any (S B : Nat → Int) (hB : ∀ i, 0 ≤ B i ∧ B i < 256) (w : World) :
    Calls Tryd.prog 90 #[.agg (wl S).toArray, .agg (bl B).toArray] w fun e w' => e = .returned (.agg (wl (round S B)).toArray) ∧ Keeps (fun _ => False) w w' := by
  obtain ⟨sl, hsl⟩ : ∃ sl, sl = wl S := ⟨_, rfl⟩
  obtain ⟨bb, hbb⟩ : ∃ bb, bb = bl B := ⟨_, rfl⟩
  obtain ⟨KL, hKL⟩ : ∃ KL, KL = vi .u32 K := ⟨_, rfl⟩
  have hcs := fun wx => constants_any wx
  have hk64 : KL.length = 64 := by rw [hKL]; rfl
  have hone : ∀ u ∈ KL, u.oneCell' = true := by rw [hKL]; exact vi_one _ _
  have hR : ∀ w1, Keeps (fun _ => False) (((w.alloc (.cells sl.toArray 114)).alloc (.cells bb.toArray 129)).alloc (.cells (List.replicate 8 (Value.int .u32 0)).toArray 114)) w1 →
      RRel S B w.heap.size w1.heap.size (wsv B 0) w (((w1.alloc (.cells (List.replicate 64 (Value.int .u32 0)).toArray 144)).setRow w1.heap.size KL.toArray).alloc (.cells (List.replicate 64 (Value.int .u32 0)).toArray 144)) := by
    intro w1 hk
    subst hsl hbb hKL
    have n1 := ((Blk.new w 114 (wl S)).alloc (.cells (bl B).toArray 129)).alloc (.cells (List.replicate 8 (Value.int .u32 0)).toArray 114)
    have n2 := (Blk.new (w.alloc (.cells (wl S).toArray 114)) 129 (bl B)).alloc (.cells (List.replicate 8 (Value.int .u32 0)).toArray 114)
    have n3 := Blk.new ((w.alloc (.cells (wl S).toArray 114)).alloc (.cells (bl B).toArray 129)) 114 (List.replicate 8 (Value.int .u32 0))
    simp only [World.size_alloc] at n2 n3
    have m1 := hk.blk n1 (fun h => h)
    have m2 := hk.blk n2 (fun h => h)
    have m3 := hk.blk n3 (fun h => h)
    have l3 := m3.lt
    have k1 := ((Blk.new w1 144 (List.replicate 64 (Value.int .u32 0))).setRow (vi .u32 K)).alloc (.cells (List.replicate 64 (Value.int .u32 0)).toArray 144)
    have k2 := Blk.new ((w1.alloc (.cells (List.replicate 64 (Value.int .u32 0)).toArray 144)).setRow w1.heap.size (vi .u32 K).toArray) 144 (List.replicate 64 (Value.int .u32 0))
    have hs : ((w1.alloc (.cells (List.replicate 64 (Value.int .u32 0)).toArray 144)).setRow w1.heap.size (vi .u32 K).toArray).heap.size = w1.heap.size + 1 := by simp
    rw [hs] at k2
    have z64 : List.replicate 64 (Value.int .u32 0) = (List.range 64).map fun j => Value.int .u32 (wsv B 0 j) := by simp [wsv_zero, List.range_succ]
    have e64 : vi .u32 K = (List.range 64).map fun j => Value.int .u32 (K.getD j 0) := by rfl
    refine ⟨?_, ?_, row_of_blk (((m1.alloc _).setRow_far (by omega) _).alloc _), row_of_blk (((m2.alloc _).setRow_far (by omega) _).alloc _), ((m3.alloc _).setRow_far (by omega) _).alloc _, ?_, Nat.le_refl _, l3⟩
    · exact row_of_blk (z64 ▸ k2)
    · exact row_of_blk (e64 ▸ k1)
    · exact (((((((Keeps.refl (fun _ => False) w).alloc _).alloc _).alloc _).trans hk (fun _ _ h => h)).alloc _).setRow (.inr (by omega)) _).alloc _
  rw [← hsl, ← hbb]
  simp only [← hKL] at hcs
  have HR := Lib.hid hR
  have HCS := Lib.hid hcs
  have HB := Lib.hid hB
  have HK := Lib.hid hk64
  have HO := Lib.hid hone
  clear hsl hbb hKL hR hcs hB hk64 hone
  go_enter Tryd.func90, Tryd.ntmps90
  go_wp2_with (first
    | (go_at_call 96; refine (HCS.out _).mono ?_; rintro e w1 ⟨rfl, hk1⟩; have HK1 := Lib.hid hk1; clear hk1)
    | ((with_reducible show wpList _ _ _ (⟨none, Op.store 144 _ _, _, _, _, _⟩ :: _) _ _); refine wpList_store_whole rfl 144 _ _ rfl KL rfl rfl (Blk.new w1 144 (List.replicate 64 (Value.int .u32 0))) (by rw [HK.out]; simp) (by rw [HK.out]; kernel_rfl) HO.out ?_))
  have R0 := HR.out w1 HK1.out
  have HR0 := Lib.hid R0
  clear R0
  obtain ⟨A, hA⟩ : ∃ A, A = w1.heap.size := ⟨_, rfl⟩
  rw [← hA] at HR0 ⊢
  clear hA HCS HK HO HR
  go_loopw [7, 8, 9] (fun i _ _ wr => ∃ t : Nat, t ≤ 64 ∧ i = .int .i64 t ∧ RRel S B w.heap.size A (wsv B t) w wr) (fun i _ _ _ => 64 - (intOf i).toNat)
  case atStart => exact ⟨0, by omega, rfl, HR0.out⟩
  case round =>
    clear HR0
    obtain ⟨t, ht, rfl, hr⟩ := hrel
    by_cases hlt : t < 64
    · by_cases h16 : t < 16
      · have c0 := hr.brow.cell (i := 4 * t) (by omega)
        have c1 := hr.brow.cell (i := 4 * t + 1) (by omega)
        have c2 := hr.brow.cell (i := 4 * t + 2) (by omega)
        have c3 := hr.brow.cell (i := 4 * t + 3) (by omega)
        have c5 := hr.wrow.cell (i := t) (by omega)
        have f5 := hr.wrow.frozen t
        have b0 := HB.out (4 * t)
        have b1 := HB.out (4 * t + 1)
        have b2 := HB.out (4 * t + 2)
        have b3 := HB.out (4 * t + 3)
        have hz4 := hz_four B HB.out t
        have hw4 := word_four (B (4 * t)) (B (4 * t + 1)) (B (4 * t + 2)) (B (4 * t + 3)) b0 b1 b2 b3
        rw [← hz4] at hw4
        have HZ4 := Lib.hid hw4
        have HREL := Lib.hid hr
        clear hz4 hw4 hr
        generalize B (4 * t) = q0 at *
        generalize B (4 * t + 1) = q1 at *
        generalize B (4 * t + 2) = q2 at *
        generalize B (4 * t + 3) = q3 at *
        obtain ⟨b0l, b0h⟩ := b0
        obtain ⟨b1l, b1h⟩ := b1
        obtain ⟨b2l, b2h⟩ := b2
        obtain ⟨b3l, b3h⟩ := b3
        go_wp2
        refine wp_region_quiet_tail 31 (by kernel_rfl) (by kernel_rfl) ?_
        simp only [List.take_succ_cons, List.take_zero, List.drop_succ_cons, List.drop_zero]
        repeat (go_big_quiet_step (fail))
        refine wpQuiet_nil ?_
        rintro _ ⟨nq, rfl⟩
        go_wp2
        go_roundw
        case rel =>
          refine ⟨t + 1, by omega, by go_num, ((HREL.out.drewN nq).set t _).congr fun j => ?_⟩
          rw [wsv_succ_lt B t j h16]
          unfold wk
          by_cases hj : j = t
          · simp only [hj, if_true]
            exact HZ4.out
          · simp only [hj, if_false]
        case measure => simp [intOf]; omega
      · have c1 := hr.wrow.cell (i := t - 15) (by omega)
        have c2 := hr.wrow.cell (i := t - 2) (by omega)
        have c3 := hr.wrow.cell (i := t - 16) (by omega)
        have c4 := hr.wrow.cell (i := t - 7) (by omega)
        have c5 := hr.wrow.cell (i := t) (by omega)
        have f5 := hr.wrow.frozen t
        have i1 : ((t : Int) - 15).toNat = t - 15 := by omega
        have i2 : ((t : Int) - 2).toNat = t - 2 := by omega
        have i3 : ((t : Int) - 16).toNat = t - 16 := by omega
        have i4 : ((t : Int) - 7).toNat = t - 7 := by omega
        have HREL := Lib.hid hr
        clear hr
        obtain ⟨x15, h15⟩ : ∃ x, x = wsv B t (t - 15) := ⟨_, rfl⟩
        obtain ⟨x2, h2⟩ : ∃ x, x = wsv B t (t - 2) := ⟨_, rfl⟩
        obtain ⟨x16, hx16⟩ : ∃ x, x = wsv B t (t - 16) := ⟨_, rfl⟩
        obtain ⟨x7, h7⟩ : ∃ x, x = wsv B t (t - 7) := ⟨_, rfl⟩
        rw [← h15] at c1
        rw [← h2] at c2
        rw [← hx16] at c3
        rw [← h7] at c4
        have H15 := Lib.hid h15
        have H2 := Lib.hid h2
        have H16 := Lib.hid hx16
        have H7 := Lib.hid h7
        clear h15 h2 hx16 h7
        go_wp2
        go_quiet (fail)
        go_wp2_with fail
        have hr1 := HREL.out.drewN nq
        clear HREL c1 c2 c3 c4 c5 f5
        generalize wr.drewN nq = wx at hr1 ⊢
        have c3 := hr1.wrow.cell (i := t - 16) (by omega)
        have c4 := hr1.wrow.cell (i := t - 7) (by omega)
        have c5 := hr1.wrow.cell (i := t) (by omega)
        have f5 := hr1.wrow.frozen t
        rw [← H16.out] at c3
        rw [← H7.out] at c4
        have HREL := Lib.hid hr1
        clear hr1
        refine wp_region_quiet_tail 29 (by kernel_rfl) (by kernel_rfl) ?_
        simp only [List.take_succ_cons, List.take_zero, List.drop_succ_cons, List.drop_zero]
        repeat (go_big_quiet_step ((go_at_call 97; refine quiet_more (r_any _ _ (by omega) (by omega) _))))
        refine wpQuiet_nil ?_
        rintro _ ⟨nq2, rfl⟩
        go_wp2
        go_roundw
        case rel =>
          refine ⟨t + 1, by omega, by go_num, ((HREL.out.drewN nq2).set t _).congr fun j => ?_⟩
          rw [wsv_succ_ge B t j (by omega)]
          by_cases hj : j = t
          · simp only [hj, if_true]
            unfold nextW
            rw [← H15.out, ← H2.out, ← H16.out, ← H7.out]
            omega
          · simp only [hj, if_false]
        case measure => simp [intOf]; omega
    · obtain rfl : t = 64 := by omega
      have c0 := hr.srow.cell (i := 0) (by omega)
      have c1 := hr.srow.cell (i := 1) (by omega)
      have c2 := hr.srow.cell (i := 2) (by omega)
      have c3 := hr.srow.cell (i := 3) (by omega)
      have c4 := hr.srow.cell (i := 4) (by omega)
      have c5 := hr.srow.cell (i := 5) (by omega)
      have c6 := hr.srow.cell (i := 6) (by omega)
      have c7 := hr.srow.cell (i := 7) (by omega)
      have HREL := Lib.hid hr
      clear hr
      go_wp2
      go_quiet (fail)
      go_wp2
      clear c0 c1 c2 c3 c4 c5 c6 c7
      go_loopw [10, 11, 12, 13, 14, 15, 16, 17, 18, 19, 20] (fun a b c d e f g h i _ _ wx => TurnRel S B w A a b c d e f g h i wx) (fun _ _ _ _ _ _ _ _ i _ _ _ => 64 - (intOf i).toNat)
      case atStart => unfold TurnRel; exact ⟨0, _, _, _, _, _, _, _, _, by omega, rfl, rfl, rfl, rfl, rfl, rfl, rfl, rfl, rfl, rfl, HREL.out.drewN nq⟩
      case round =>
        clear HREL
        unfold TurnRel at hrel
        obtain ⟨t, xa, xb, xc, xd, xe, xf, xg, xh, ht, rfl, rfl, rfl, rfl, rfl, rfl, rfl, rfl, rfl, hl, hr⟩ := hrel
        by_cases hlt : t < 64
        · have hs : csL (wsv B 64) S (t + 1) = stL (csL (wsv B 64) S t) (K.getD t 0) (wsv B 64 t) := rfl
          rw [hl] at hs
          have gw := hr.wrow.cell (i := t) hlt
          have gk := hr.krow.cell (i := t) hlt
          have HREL := Lib.hid hr
          obtain ⟨kt, hkt⟩ : ∃ kt, kt = K.getD t 0 := ⟨_, rfl⟩
          obtain ⟨wt, hwt⟩ : ∃ wt, wt = wsv B 64 t := ⟨_, rfl⟩
          rw [← hkt] at gk hs
          rw [← hwt] at gw hs
          have HS := Lib.hid hs
          clear hs hl hr hkt hwt
          go_wp2
          go_quiet ((go_at_call 97; refine quiet_more (r_any _ _ (by omega) (by omega) _)))
          clear gw gk
          go_wp2_with (go_at_call 97; refine (r_any _ _ (by omega) (by omega) _).mono ?_; rintro e w' ⟨rfl, k, rfl⟩)
          refine ⟨⟨_, _, _, _, _, _, _, _, _, ?_, rfl, rfl, rfl, rfl, rfl, rfl, rfl, rfl, rfl⟩, by simp [intOf]; omega⟩
          unfold TurnRel
          refine ⟨t + 1, _, _, _, _, _, _, _, _, by omega, by go_num, rfl, rfl, rfl, rfl, rfl, rfl, rfl, rfl, ?_, HREL.out.drewN _⟩
          rw [HS.out]
          have ea : (tOne xe xf xg xh kt wt + tTwo xa xb xc) % 4294967296 = (xh + bits BinOp.xor IntKind.u32 (bits BinOp.xor IntKind.u32 (tu xe 6) (tu xe 11)) (tu xe 25) + bits BinOp.xor IntKind.u32 (bits BinOp.and IntKind.u32 xe xf) (bits BinOp.and IntKind.u32 (bits BinOp.xor IntKind.u32 IntKind.u32.max xe) xg) + kt + wt + (bits BinOp.xor IntKind.u32 (bits BinOp.xor IntKind.u32 (tu xa 2) (tu xa 13)) (tu xa 22) + bits BinOp.xor IntKind.u32 (bits BinOp.xor IntKind.u32 (bits BinOp.and IntKind.u32 xa xb) (bits BinOp.and IntKind.u32 xa xc)) (bits BinOp.and IntKind.u32 xb xc))) % 4294967296 := by
            unfold tOne tTwo
            omega
          have ee : (xd + tOne xe xf xg xh kt wt) % 4294967296 = (xd + (xh + bits BinOp.xor IntKind.u32 (bits BinOp.xor IntKind.u32 (tu xe 6) (tu xe 11)) (tu xe 25) + bits BinOp.xor IntKind.u32 (bits BinOp.and IntKind.u32 xe xf) (bits BinOp.and IntKind.u32 (bits BinOp.xor IntKind.u32 IntKind.u32.max xe) xg) + kt + wt)) % 4294967296 := by
            unfold tOne
            omega
          rw [← ea, ← ee]
          rfl
        · obtain rfl : t = 64 := by omega
          have c0 := hr.srow.cell (i := 0) (by omega)
          have c1 := hr.srow.cell (i := 1) (by omega)
          have c2 := hr.srow.cell (i := 2) (by omega)
          have c3 := hr.srow.cell (i := 3) (by omega)
          have c4 := hr.srow.cell (i := 4) (by omega)
          have c5 := hr.srow.cell (i := 5) (by omega)
          have c6 := hr.srow.cell (i := 6) (by omega)
          have c7 := hr.srow.cell (i := 7) (by omega)
          have hz := hr.zrow
          have HREL := Lib.hid hr
          have HZ := Lib.hid hz
          have e8 : wl (round S B) = [.int .u32 ((S 0 + xa) % 4294967296), .int .u32 ((S 1 + xb) % 4294967296), .int .u32 ((S 2 + xc) % 4294967296), .int .u32 ((S 3 + xd) % 4294967296), .int .u32 ((S 4 + xe) % 4294967296), .int .u32 ((S 5 + xf) % 4294967296), .int .u32 ((S 6 + xg) % 4294967296), .int .u32 ((S 7 + xh) % 4294967296)] := by
            unfold wl round
            rw [hl]
            simp [List.range_succ, Int.add_comm]
          have H8 := Lib.hid e8
          clear hl hr hz e8
          go_wp2_with ((with_reducible show wpList _ _ _ (⟨none, Op.store 114 _ _, _, _, _, _⟩ :: _) _ _); refine wpList_store_whole rfl 114 _ _ rfl [_, _, _, _, _, _, _, _] rfl rfl HZ.out (by simp) ?hi (by simp [Value.oneCell']) ?_)
          case hi => kernel_rfl
          refine bodyPost_ret (results_blk rfl _ _ rfl (HZ.out.setRow [_, _, _, _, _, _, _, _]) Tryd.underlying114 rfl (by kernel_rfl)) rfl ⟨by rw [H8.out], ?_⟩
          exact HREL.out.keep.setRow (.inr (by have := HREL.out.low; omega)) _
end Go.Proofs.YtknecjjdegngfaaDoor
