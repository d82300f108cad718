/-
  WALKS: turned, Round.
-/
import Derived.Test.YtnlnbgjpbnjjfaaDoorProg
import Derived.Test.YtnlnbgjpbnjjfaaDoorQTail
import Derived.Test.YtnlnbgjpbnjjfaaDoorQRow
import Derived.Test.YtnlnbgjpbnjjfaaDoorSha
import Derived.WalkSpells
import Derived.WalkLawsBesides
import Derived.Lib.Hide
import Derived.Handy
import Derived.Deep.CutBlock
namespace Go.Proofs.YtnlnbgjpbnjjfaaDoor
open Go Go.RowKit Go.Sha Go.Aff

theorem quiet_more {P : Program} {f : FuncId} {args : Array Value} {w : World} {n : Nat} {v : Value}
    (h : Calls P f args (w.drewN n) fun e w' => e = .returned v ∧ ∃ m, w' = (w.drewN n).drewN m) :
    Calls P f args (w.drewN n) fun e w'' => e = .returned v ∧ ∃ m, w'' = w.drewN m :=
  h.mono fun _ _ ⟨he, m, hm⟩ => ⟨he, n + m, by rw [hm, World.drewN_drewN]⟩

theorem turned_any (x n : Int) (h0 : 0 ≤ n) (h1 : n ≤ 32) (w : World) :
    Calls Tryd.prog 63 #[.int .u32 x, .int .i64 n] w fun e w' => e = .returned (.int .u32 (tu x n)) ∧ ∃ k, w' = w.drewN k := by
  go_enter Tryd.func63, Tryd.ntmps63
  go_wp2
  go_quiet (fail)
  go_wp2
  go_ret
  exact ⟨rfl, _, rfl⟩

namespace RoundW
/-- The memory of the call while W is made. -/
def Rel (S B : Nat → Int) (N : Nat) (W : Nat → Int) (w wr : World) : Prop :=
  wr.rowIs (N + 1 + 1 + 1) 108 64 (fun j => .int .u32 (W j)) ∧ wr.rowIs N 96 8 (fun j => .int .u32 (S j)) ∧ wr.rowIs (N + 1) 84 64 (fun j => .int .u8 (B j)) ∧
  wr.rowIs (N + 1 + 1) 96 8 (fun _ => .int .u32 0) ∧ wr.heap.size = N + 4 ∧ Below N w wr
theorem Rel.congr {S B : Nat → Int} {N : Nat} {W W' : Nat → Int} {w wr : World} (h : Rel S B N W w wr) (e : ∀ j, W j = W' j) : Rel S B N W' w wr := by
  have : W = W' := funext e
  exact this ▸ h
theorem Rel.set {S B : Nat → Int} {N : Nat} {W : Nat → Int} {w wr : World} (h : Rel S B N W w wr) (t : Nat) (x : Int) :
    Rel S B N (fun j => if j = t then x else W j) w (wr.setCell ⟨N + 1 + 1 + 1, t, none⟩ (.int .u32 x)) := by
  obtain ⟨h1, h2, h3, h4, h5, h6⟩ := h
  refine ⟨(h1.set t _).congr ?_, h2.setOther (by show N ≠ N + 1 + 1 + 1; omega) _, h3.setOther (by show N + 1 ≠ N + 1 + 1 + 1; omega) _, h4.setOther (by show N + 1 + 1 ≠ N + 1 + 1 + 1; omega) _, by simpa using h5, h6.setCell (by show N ≤ N + 1 + 1 + 1; omega) _⟩
  intro i _
  dsimp only
  split <;> rfl
theorem Rel.drew {S B : Nat → Int} {N : Nat} {W : Nat → Int} {w wr : World} (h : Rel S B N W w wr) : Rel S B N W w wr.drew := by
  obtain ⟨h1, h2, h3, h4, h5, h6⟩ := h
  exact ⟨h1, h2, h3, h4, h5, h6.drew⟩
theorem Rel.drewN {S B : Nat → Int} {N : Nat} {W : Nat → Int} {w wr : World} (h : Rel S B N W w wr) (k : Nat) : Rel S B N W w (wr.drewN k) := by
  obtain ⟨h1, h2, h3, h4, h5, h6⟩ := h
  exact ⟨h1, h2, h3, h4, h5, Below.drewN h6 k⟩
/-- .. while the eight numbers turn; M: their block. -/
def Rel2 (S W : Nat → Int) (N M : Nat) (l : List Value) (w wx : World) : Prop :=
  wx.rowIs (N + 1 + 1 + 1) 108 64 (fun j => .int .u32 (W j)) ∧ wx.rowIs N 96 8 (fun j => .int .u32 (S j)) ∧ wx.rowIs (N + 1 + 1) 96 8 (fun _ => .int .u32 0) ∧
  Blk wx M 96 l ∧ wx.heap.size = M + 1 ∧ N + 3 < M ∧ Below N w wx
theorem Rel.next {S B : Nat → Int} {N : Nat} {W : Nat → Int} {w wr : World} (h : Rel S B N W w wr) (l : List Value) : Rel2 S W N wr.heap.size l w (wr.alloc (.cells l.toArray 96)) := by
  obtain ⟨h1, h2, h3, h4, h5, h6⟩ := h
  exact ⟨h1.alloc _, h2.alloc _, h4.alloc _, Blk.new _ _ _, by simp, by omega, h6.alloc (by omega) _⟩
theorem Rel2.drewN {S W : Nat → Int} {N M : Nat} {l : List Value} {w wx : World} (h : Rel2 S W N M l w wx) (k : Nat) : Rel2 S W N M l w (wx.drewN k) := by
  obtain ⟨h1, h2, h3, h4, h5, h6, h7⟩ := h
  exact ⟨h1, h2, h3, h4, h5, h6, Below.drewN h7 k⟩
theorem Rel2.setRow {S W : Nat → Int} {N M : Nat} {l : List Value} {w wx : World} (h : Rel2 S W N M l w wx) (vs : List Value) : Rel2 S W N M vs w (wx.setRow M vs.toArray) := by
  obtain ⟨h1, h2, h3, h4, h5, h6, h7⟩ := h
  exact ⟨rowIs_setRow_far h1 (by omega) _, rowIs_setRow_far h2 (by omega) _, rowIs_setRow_far h3 (by omega) _, h4.setRow _, by simpa using h5, h6, Below.setRow h7 (by omega) _⟩
theorem Rel2.set {S W : Nat → Int} {N M : Nat} {l : List Value} {w wx : World} (h : Rel2 S W N M l w wx) (i : Nat) (v : Value) : Rel2 S W N M (l.set i v) w (wx.setCell ⟨M, i, none⟩ v) := by
  obtain ⟨h1, h2, h3, h4, h5, h6, h7⟩ := h
  exact ⟨h1.setOther (by show N + 1 + 1 + 1 ≠ M; omega) _, h2.setOther (by show N ≠ M; omega) _, h3.setOther (by show N + 1 + 1 ≠ M; omega) _, h4.set_ _ _, by simpa using h5, h6, h7.setCell (by show N ≤ M; omega) _⟩
/-- the sums, the first i of them made -/
def sums (l : List Int) (S : Nat → Int) (i : Nat) : List Value := (List.range 8).map fun j => Value.int .u32 (if j < i then (l.getD j 0 + S j) % 4294967296 else l.getD j 0)
theorem sums_set (l : List Int) (S : Nat → Int) (i : Nat) : (sums l S i).set i (.int .u32 ((l.getD i 0 + S i) % 4294967296)) = sums l S (i + 1) := by
  apply List.ext_getElem?
  intro j
  simp only [sums, List.getElem?_set, List.length_map, List.length_range, List.getElem?_map]
  by_cases hj : j < 8
  · by_cases h : i = j
    · subst h; simp [hj]
    · simp only [h, if_false]
      have : (j < i + 1) = (j < i) := by apply propext; omega
      simp [hj, this]
  · by_cases h : i = j
    · subst h; simp [hj]
    · simp [hj, h]
theorem sums_zero (a b c d e f g h : Int) (S : Nat → Int) : sums [a, b, c, d, e, f, g, h] S 0 = [.int .u32 a, .int .u32 b, .int .u32 c, .int .u32 d, .int .u32 e, .int .u32 f, .int .u32 g, .int .u32 h] := by
  simp [sums, List.range_succ]
end RoundW
open RoundW

set_option maxHeartbeats 4000000 in
set_option maxRecDepth 100000 in
theorem round_any (S B : Nat → Int) (hB : ∀ i, 0 ≤ B i ∧ B i < 256) (w : World) (hK : ∀ t, t < 64 → w.cell? ⟨1, t, none⟩ = some (.int .u32 (K.getD t 0))) (hK0 : 1 < w.heap.size) :
    Calls Tryd.prog 56 #[.agg (wl S).toArray, .agg (bl B).toArray] w fun e w' => e = .returned (.agg (wl (round S B)).toArray) ∧ Below w.heap.size w w' := by
  have hr0 : Rel S B w.heap.size (wsv B 0) w ((((w.alloc (.cells (wl S).toArray 96)).alloc (.cells (bl B).toArray 84)).alloc (.cells (List.replicate 8 (Value.int .u32 0)).toArray 96)).alloc (.cells (List.replicate 64 (Value.int .u32 0)).toArray 108)) := by
    have z8 : List.replicate 8 (Value.int .u32 0) = (List.range 8).map fun _ => Value.int .u32 0 := by simp [List.range_succ]
    have z64 : List.replicate 64 (Value.int .u32 0) = (List.range 64).map fun j => Value.int .u32 (wsv B 0 j) := by simp [wsv_zero, List.range_succ]
    rw [z8, z64]
    have n1 := row_of_blk (n := 8) (f := fun i => Value.int .u32 (S i)) (Blk.new w 96 (wl S))
    have n2 := row_of_blk (n := 64) (f := fun i => Value.int .u8 (B i)) (Blk.new (w.alloc (.cells (wl S).toArray 96)) 84 (bl B))
    have n3 := row_of_blk (n := 8) (f := fun _ => Value.int .u32 0) (Blk.new ((w.alloc (.cells (wl S).toArray 96)).alloc (.cells (bl B).toArray 84)) 96 _)
    have n4 := row_of_blk (n := 64) (f := fun j => Value.int .u32 (wsv B 0 j)) (Blk.new (((w.alloc (.cells (wl S).toArray 96)).alloc (.cells (bl B).toArray 84)).alloc (.cells ((List.range 8).map fun _ => Value.int .u32 0).toArray 96)) 108 _)
    simp only [World.size_alloc] at n2 n3 n4
    exact ⟨n4, ((n1.alloc _).alloc _).alloc _, (n2.alloc _).alloc _, n3.alloc _, by simp, ((((Below.refl _ _).alloc (Nat.le_refl _) _).alloc (by simp) _).alloc (by simp; omega) _).alloc (by simp; omega) _⟩
  obtain ⟨sa, has⟩ : ∃ sa, sa = (wl S).toArray := ⟨_, rfl⟩
  obtain ⟨ab, hab⟩ : ∃ ab, ab = (bl B).toArray := ⟨_, rfl⟩
  rw [← has, ← hab] at hr0 ⊢
  clear has hab
  have Hr0 := Lib.hid hr0
  have HK := Lib.hid hK
  have HB := Lib.hid hB
  clear hr0 hK hB
  go_enter Tryd.func56, Tryd.ntmps56
  go_wp2
  go_loopw [6, 7, 8, 9, 21] (fun _ _ _ _ i wr => ∃ t : Nat, t ≤ 64 ∧ i = .int .i64 t ∧ Rel S B w.heap.size (wsv B t) w wr)
    (fun _ _ _ _ i _ => 64 - (intOf i).toNat)
  case atStart => exact ⟨0, by omega, rfl, Hr0.out⟩
  case round =>
    clear Hr0
    obtain ⟨t, ht, rfl, hr⟩ := hrel
    by_cases hlt : t < 64
    · by_cases h16 : t < 16
      · go_wp2
        go_loopw [7, 26] (fun _ i ws => ∃ k : Nat, k ≤ 4 ∧ i = .int .i64 k ∧ Rel S B w.heap.size (wk B t k) w ws) (fun _ i _ => 4 - (intOf i).toNat)
        case atStart => exact ⟨0, by omega, rfl, hr.congr fun j => (wk_zero B t j).symm⟩
        case round =>
          obtain ⟨k, hk, rfl, hr'⟩ := hrel
          by_cases hlk : k < 4
          · have c1 : wr.cell? ⟨w.heap.size + 1 + 1 + 1, t, none⟩ = some (.int .u32 (wk B t k t)) := hr'.1.cell (by omega)
            have c2 : wr.cell? ⟨w.heap.size + 1, 4 * t + k, none⟩ = some (.int .u8 (B (4 * t + k))) := hr'.2.2.1.cell (by omega)
            have f1 : wr.frozen? ⟨w.heap.size + 1 + 1 + 1, t, none⟩ = false := hr'.1.frozen _
            have b1 : 0 ≤ B (4 * t + k) := (HB.out _).1
            have b2 : B (4 * t + k) < 256 := (HB.out _).2
            go_wp2
            go_region
            go_wp2
            go_roundw
            case rel =>
              refine ⟨k + 1, by omega, by go_num, ((hr'.set t _).congr fun j => ?_).drew⟩
              unfold wk
              by_cases hj : j = t
              · simp [hj, hz]
              · simp [hj]
            case measure => simp [intOf]; omega
          · obtain rfl : k = 4 := by omega
            go_wp2
            go_roundw
            case rel => exact ⟨t + 1, by omega, by go_num, hr'.congr fun j => (wsv_succ_lt B t j h16).symm⟩
            case measure => simp [intOf]; omega
      · have hg := fun j (_ : j < 64) => hr.1.cell (i := j) (by omega)
        have c1 := hg (t - 15) (by omega)
        have c2 := hg (t - 2) (by omega)
        have c3 := hg (t - 16) (by omega)
        have c4 := hg (t - 7) (by omega)
        have c5 := hg t (by omega)
        have f1 := hr.1.frozen t
        clear hg
        have i1 : ((t : Int) - 15).toNat = t - 15 := by omega
        have i2 : ((t : Int) - 2).toNat = t - 2 := by omega
        have i3 : ((t : Int) - 16).toNat = t - 16 := by omega
        have i4 : ((t : Int) - 7).toNat = t - 7 := by omega
        go_wp2
        go_quiet (fail)
        go_wp2
        go_region
        go_wp2
        have R1 := (hr.drewN (nq + 1)).set t ((wsv B t (t - 16) + wsv B t (t - 7)) % 4294967296)
        generalize (wr.drewN (nq + 1)).setCell ⟨w.heap.size + 1 + 1 + 1, t, none⟩ (.int .u32 ((wsv B t (t - 16) + wsv B t (t - 7)) % 4294967296)) = wx at R1 ⊢
        have HW := R1.1.cell (i := t) (by omega)
        have FW := R1.1.frozen t
        simp only [if_true] at HW
        refine wp_region_quiet_tail 13 (by kernel_rfl) (by kernel_rfl) ?_
        simp only [List.take_succ_cons, List.take_zero, List.drop_succ_cons, List.drop_zero]
        repeat (go_big_quiet_step ((go_at_call 63; refine quiet_more (turned_any _ _ (by omega) (by omega) _))))
        refine wpQuiet_nil ?_
        rintro _ ⟨nq2, rfl⟩
        go_wp2
        have R2 := (R1.drewN nq2).set t ((wsv B t (t - 16) + wsv B t (t - 7) + bits BinOp.xor IntKind.u32 (bits BinOp.xor IntKind.u32 (tu (wsv B t (t - 15)) 7) (tu (wsv B t (t - 15)) 18)) (wsv B t (t - 15) / 8)) % 4294967296)
        generalize (wx.drewN nq2).setCell ⟨w.heap.size + 1 + 1 + 1, t, none⟩ _ = wy at R2 ⊢
        have HW2 := R2.1.cell (i := t) (by omega)
        have FW2 := R2.1.frozen t
        simp only [if_true] at HW2
        clear HW FW R1
        refine wp_region_quiet_tail 13 (by kernel_rfl) (by kernel_rfl) ?_
        simp only [List.take_succ_cons, List.take_zero, List.drop_succ_cons, List.drop_zero]
        repeat (go_big_quiet_step ((go_at_call 63; refine quiet_more (turned_any _ _ (by omega) (by omega) _))))
        refine wpQuiet_nil ?_
        rintro _ ⟨nq3, rfl⟩
        go_wp2
        go_roundw
        case rel =>
          refine ⟨t + 1, by omega, by go_num, ((R2.drewN nq3).set t _).congr fun j => ?_⟩
          rw [wsv_succ_ge B t j (by omega)]
          by_cases hj : j = t
          · simp [hj, nextW]
          · simp [hj]
        case measure => simp [intOf]; omega
    · obtain rfl : t = 64 := by omega
      have gk := blk_of_row hr.2.1
      go_wp2_with ((with_reducible show wpList _ _ _ (⟨some _, Op.load 96 _, _, _, _, _⟩ :: _) _ _); refine wpList_load_whole rfl 96 _ rfl _ rfl gk Tryd.underlying96 rfl (by kernel_rfl) ?_)
      have R0 := hr.next [Value.int .u32 (S 0), Value.int .u32 (S 1), Value.int .u32 (S 2), Value.int .u32 (S 3), Value.int .u32 (S 4), Value.int .u32 (S 5), Value.int .u32 (S 6), Value.int .u32 (S 7)]
      generalize wr.alloc _ = wa at R0 ⊢
      have HN : w.heap.size + 3 < wr.heap.size := R0.2.2.2.2.2.1
      generalize wr.heap.size = M at *
      clear gk hr
      go_loopw [11, 12, 13, 14, 15, 16, 17, 18, 19, 91] (fun _ _ _ _ _ _ _ _ _ i wx => ∃ t : Nat, t ≤ 64 ∧ i = .int .i64 t ∧ Rel2 S (wsv B 64) w.heap.size M ((csL (wsv B 64) S t).map (Value.int .u32)) w wx) (fun _ _ _ _ _ _ _ _ _ i _ => 64 - (intOf i).toNat)
      case atStart => exact ⟨0, by omega, rfl, R0⟩
      case round =>
        clear R0
        obtain ⟨t, ht, rfl, hr⟩ := hrel
        by_cases hlt : t < 64
        · have hrr := hr
          obtain ⟨h1, h2, h3, h4, h5, h6, h7⟩ := hr
          have hbw := h7
          obtain ⟨s0, s1, s2, s3, s4, s5, s6, s7, hl⟩ := csL_eight (wsv B 64) S t
          have hs : csL (wsv B 64) S (t + 1) = stL (csL (wsv B 64) S t) (K.getD t 0) (wsv B 64 t) := rfl
          rw [hl] at h4 hs hrr
          have g0 := h4.cell 0
          have g1 := h4.cell 1
          have g2 := h4.cell 2
          have g3 := h4.cell 3
          have g4 := h4.cell 4
          have g5 := h4.cell 5
          have g6 := h4.cell 6
          have g7 := h4.cell 7
          simp only [List.map_cons, List.map_nil, List.getElem?_cons_zero, List.getElem?_cons_succ] at g0 g1 g2 g3 g4 g5 g6 g7
          have gw := h1.cell (i := t) (by omega)
          have gk : wr.cell? ⟨1, t, none⟩ = some (.int .u32 (K.getD t 0)) := (hbw.cell (by show 1 < w.heap.size; omega)).trans (HK.out t hlt)
          have Hs := Lib.hid hs
          have Hrr := Lib.hid hrr
          have H4 := Lib.hid h4
          clear hl hs hrr h1 h2 h3 h4 h5 h7 hbw
          generalize K.getD t 0 = kt at *
          generalize wsv B 64 t = wt at *
          go_wp2
          go_quiet (fail)
          go_wp2
          go_quiet (fail)
          go_wp2_with fail
          generalize (s7 + kt + wt) % 4294967296 = o1
          refine (turned_any _ _ (by omega) (by omega) _).mono ?_; rintro e w' ⟨rfl, k, rfl⟩
          have E1 := Lib.hid (rfl : tu s4 6 = tu s4 6)
          go_wp2_with fail
          refine (turned_any _ _ (by omega) (by omega) _).mono ?_; rintro e w' ⟨rfl, k2, rfl⟩
          go_wp2_with fail
          refine (turned_any _ _ (by omega) (by omega) _).mono ?_; rintro e w' ⟨rfl, k3, rfl⟩
          go_wp2_with fail
          refine (turned_any _ _ (by omega) (by omega) _).mono ?_; rintro e w' ⟨rfl, k4, rfl⟩
          go_wp2_with fail
          refine (turned_any _ _ (by omega) (by omega) _).mono ?_; rintro e w' ⟨rfl, k5, rfl⟩
          go_wp2_with fail
          refine (turned_any _ _ (by omega) (by omega) _).mono ?_; rintro e w' ⟨rfl, k6, rfl⟩
          clear g0 g1 g2 g4 g5 g6 g7 gw gk
          go_wp2_with ((with_reducible show wpList _ _ _ (⟨none, Op.store 96 _ _, _, _, _, _⟩ :: _) _ _); refine wpList_store_whole rfl 96 _ _ rfl [_, _, _, _, _, _, _, _] rfl rfl (H4.out.drewN _) (by simp) ?hi (by simp [Value.oneCell']) ?_)
          case hi => kernel_rfl
          go_roundw
          case rel =>
            refine ⟨t + 1, by omega, by go_num, ?_⟩
            rw [Hs.out]
            exact (Hrr.out.drewN _).setRow ((stL [s0, s1, s2, s3, s4, s5, s6, s7] kt wt).map (Value.int .u32))
          case measure => simp [intOf]; omega
        · obtain rfl : t = 64 := by omega
          obtain ⟨s0, s1, s2, s3, s4, s5, s6, s7, hl⟩ := csL_eight (wsv B 64) S 64
          have hr3 : Rel2 S (wsv B 64) w.heap.size M (sums (csL (wsv B 64) S 64) S 0) w wr := by
            rw [hl, sums_zero]
            rw [hl] at hr
            exact hr
          clear hr hl
          go_wp2
          go_loopw [20, 172] (fun _ i wx => ∃ t : Nat, t ≤ 8 ∧ i = .int .i64 t ∧ Rel2 S (wsv B 64) w.heap.size M (sums (csL (wsv B 64) S 64) S t) w wx) (fun _ i _ => 8 - (intOf i).toNat)
          case atStart => exact ⟨0, by omega, rfl, hr3⟩
          case round =>
            clear hr3
            obtain ⟨t, ht, rfl, hr⟩ := hrel
            by_cases hlt : t < 8
            · have g1 : wr.cell? ⟨M, t, none⟩ = some (.int .u32 ((csL (wsv B 64) S 64).getD t 0)) := by
                rw [hr.2.2.2.1.cell t]; simp [sums, hlt]
              have f1 := hr.2.2.2.1.frozen t
              have g2 := hr.2.1.cell (i := t) hlt
              generalize hq : (csL (wsv B 64) S 64).getD t 0 = q at g1
              have Hq := Lib.hid hq
              clear hq
              go_wp2
              go_region
              go_wp2
              go_roundw
              case rel =>
                refine ⟨t + 1, by omega, by go_num, ?_⟩
                rw [← sums_set, Hq.out]
                exact (hr.set t _).drewN 1
              case measure => simp [intOf]; omega
            · obtain rfl : t = 8 := by omega
              have hs8 : sums (csL (wsv B 64) S 64) S 8 = wl (round S B) := by
                unfold sums wl round
                refine List.map_congr_left fun i hi => ?_
                rw [if_pos (List.mem_range.1 hi)]
              rw [hs8] at hr
              obtain ⟨out, hout⟩ : ∃ out, out = wl (round S B) := ⟨_, rfl⟩
              rw [← hout] at hr
              have hlen : out.length = 8 := by rw [hout]; simp [wl]
              have hone : ∀ v ∈ out, v.oneCell' = true := by rw [hout]; intro v hv; obtain ⟨i, _, rfl⟩ := List.mem_map.1 hv; rfl
              have hout' : out = [out.getD 0 undef, out.getD 1 undef, out.getD 2 undef, out.getD 3 undef, out.getD 4 undef, out.getD 5 undef, out.getD 6 undef, out.getD 7 undef] := by
                match out, hlen with | [_, _, _, _, _, _, _, _], _ => rfl
              have hi8 : (Tryd.prog.info? 96).map (·.size) = some out.length := by rw [hlen]; kernel_rfl
              have gz := blk_of_row hr.2.2.1
              have H1 := Lib.hid hlen
              have H0 := Lib.hid hout
              have H2 := Lib.hid hone
              have H3 := Lib.hid hi8
              clear hs8 hout hlen hone hout' hi8
              go_wp2_with (first | ((with_reducible show wpList _ _ _ (⟨some _, Op.load 96 _, _, _, _, _⟩ :: _) _ _); refine wpList_load_whole rfl 96 _ rfl _ rfl hr.2.2.2.1 Tryd.underlying96 rfl H3.out ?_) | ((with_reducible show wpList _ _ _ (⟨none, Op.store 96 _ _, _, _, _, _⟩ :: _) _ _); refine wpList_store_whole rfl 96 _ _ rfl out rfl rfl gz (by rw [H1.out]; simp) H3.out H2.out ?_))
              refine bodyPost_ret (results_blk rfl _ _ rfl (gz.setRow _) Tryd.underlying96 rfl H3.out) rfl ⟨by rw [H0.out], ?_⟩
              exact Below.setRow hr.2.2.2.2.2.2 (by omega) _
end Go.Proofs.YtnlnbgjpbnjjfaaDoor
