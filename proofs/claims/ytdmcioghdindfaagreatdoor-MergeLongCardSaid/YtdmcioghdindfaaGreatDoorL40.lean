/- Texts. -/
import Derived.Test.YtdmcioghdindfaaGreatDoorL39
import Derived.ChangeSame
import Derived.Carry
import Derived.ReadAgain
import Derived.OpenShut
import Derived.ChangeSlices
import Derived.WideShapes
import Derived.SizedLaws
import Derived.Deep.Matrix
import Derived.Test.YtdmcioghdindfaaGreatDoorCards
import Derived.Test.YtdmcioghdindfaaGreatDoorTie
import Derived.ProofKit
import Derived.Deep.DeepHandedRow
import Derived.LaidLaws
import Derived.LaidHandle
import Derived.Stop.Joined
import Derived.Shelf.Vars
set_option linter.unusedSimpArgs false
set_option maxRecDepth 100000
set_option maxHeartbeats 4000000
namespace Go.Proofs.YtdmcioghdindfaaGreatDoor
open Go Go.RowKit Go.Aff Go.Json
attribute [local go_sem] Oper.semAt_some
theorem nulls_made (w : World) (key : ByteArray) (n : Nat) (z : Int) (hz : z = n) (hr : rightS key = true) (hk : key.size ≤ 100) (hn : n ≤ 60000) :
  Calls Tryz.prog 46 #[.string key, .int .i64 z] w fun e w' => ∃ A m c, e = .returned (.slice A m c) ∧ Hid (MadeOne w' A m c (objN key n) ∧ Keeps (fun _ => False) w w') := by
 subst hz
 refine (nulls_any w key n (by omega)).mono ?_
 rintro e w' ⟨A, c, bk, rfl, hS, hw⟩
 exact ⟨A, n + 2, c, rfl, H_ ⟨made_good hS (nulls_modest key n hk (by omega)) (buildF_nulls key n hr hk (by omega)), hw⟩⟩
theorem empty_made (w : World) (b : Nat) (hbw : b = w.heap.size) : MadeOne (w.alloc (.cells #[.int .i64 6, .bool false, .int .u64 0, .string { data := #[] }, .int .i64 0, .slice none 0 0] 53)) (some ⟨b, 0, none⟩) 1 1 objE := by
 subst hbw
 show MadeOne (w.alloc (.cells (stepV (step0 6) none 0).toArray 53)) (some ⟨w.heap.size, 0, none⟩) 1 1 objE
 have hb := Blk.new w 53 (stepV (step0 6) none 0)
 have hS : StepsIn (w.alloc (.cells (stepV (step0 6) none 0).toArray 53)) (some ⟨w.heap.size, 0, none⟩) 1 [stepV (step0 6) none 0] [step0 6] := ⟨RdS.blk (by simpa using hb) (by simp [stepV]), rfl, rfl, fun i s hs => by
  match i, hs with
  | 0, hs =>
   injection hs with hs
   subst hs
   exact ⟨none, 0, rfl, Rd.nil _ _, Nat.le_refl _⟩
  | i + 1, hs => cases hs⟩
 refine made_good hS ⟨by decide, fun s hs => ?_, fun s hs => ?_⟩ buildF_empty
 ·rw [List.mem_singleton.1 hs]; decide
 rw [List.mem_singleton.1 hs]; decide
structure LongSt (w W : World) (qa qb qe : Nat) (va vb ve : Value) (m n : Nat) : Prop where
 keep : Keeps (fun _ => False) w W
 ta : TreeAt (fun _ => True) W qa va (objN keyA m)
 tb : TreeAt (fun _ => True) W qb vb (objN keyB n)
 te : TreeAt (fun _ => True) W qe ve objE
theorem LongSt.stay {w W W' : World} {qa qb qe : Nat} {va vb ve : Value} {m n : Nat} (h : LongSt w W qa qb qe va vb ve m n) (k : Keeps (fun _ => False) W W') : LongSt w W' qa qb qe va vb ve m n :=
 ⟨h.keep.trans k fun _ _ h => h, h.ta.stay k, h.tb.stay k, h.te.stay k⟩
theorem mk_over {w W : World} {qa qb qe : Nat} {va vb ve : Value} {m n : Nat} (h : LongSt w W qa qb qe va vb ve m n) (hm : m ≤ 60000) (hn : n ≤ 60000) : Over3 W qe qe qa qb ve ve va vb objE objE (objN keyA m) (objN keyB n) objE (objN keyA m) (objAB m n) :=
 ⟨h.te, h.te, h.ta, h.tb, ⟨objE_ok, objE_ok, objN_ok right_a _, objN_ok right_b _, objE_ok, objN_ok right_a _⟩, ⟨objE_within, objE_within, objN_within (by decide) (by omega), objN_within (by decide) (by omega), objE_within, objN_within (by decide) (by omega)⟩, lay_empty.symm, (lay_first _ _).symm, (lay_both _ _).symm⟩
section
variable {w W : World} {qa qb qe : Nat} {va vb ve : Value} {m n : Nat}
theorem merge_fit (h : LongSt w W qa qb qe va vb ve m n) (hm : m ≤ 60000) (hn : n ≤ 60000) (hw : (objAB m n).within) : Calls Tryz.prog 18 #[.pointer (some ⟨qa, 0, none⟩), .pointer (some ⟨qb, 0, none⟩)] W fun e w' => ∃ q, e = .returned (.tuple #[.pointer (some ⟨q, 0, none⟩), .nilIface]) ∧ Hid ((∃ v, TreeAt (fun _ => True) w' q v (objAB m n)) ∧ Keeps (fun _ => False) W w') := by
 refine (merge_law h.ta h.tb (objN_ok right_a _) (objN_ok right_b _) (objN_within (by decide) (by omega)) (objN_within (by decide) (by omega)) _ (lay_both m n).symm).mono ?_
 rintro e w' ⟨p, x, rfl, ⟨q, v, rfl, rfl, ht, _⟩ | ⟨_, _, hn⟩, hk⟩
 ·exact ⟨q, rfl, H_ ⟨⟨v, ht⟩, hk⟩⟩
 exact absurd hw hn
theorem merge_not (h : LongSt w W qa qb qe va vb ve m n) (hm : m ≤ 60000) (hn : n ≤ 60000) (hw : ¬ (objAB m n).within) : Calls Tryz.prog 18 #[.pointer (some ⟨qa, 0, none⟩), .pointer (some ⟨qb, 0, none⟩)] W fun e w' => e = .returned (.tuple #[.pointer none, errE 3]) ∧ Hid (Keeps (fun _ => False) W w') := by
 refine (merge_law h.ta h.tb (objN_ok right_a _) (objN_ok right_b _) (objN_within (by decide) (by omega)) (objN_within (by decide) (by omega)) _ (lay_both m n).symm).mono ?_
 rintro e w' ⟨p, x, rfl, ⟨q, v, _, _, _, hn⟩ | ⟨rfl, rfl, _⟩, hk⟩
 ·exact absurd hn hw
 exact ⟨rfl, H_ hk⟩
theorem over_fit (h : LongSt w W qa qb qe va vb ve m n) (hm : m ≤ 60000) (hn : n ≤ 60000) (hw : (objAB m n).within) (A : Option Addr) (c : Nat) (hr : Rd W A 3 [.pointer (some ⟨qe, 0, none⟩), .pointer (some ⟨qa, 0, none⟩), .pointer (some ⟨qb, 0, none⟩)]) : Calls Tryz.prog 19 #[.pointer (some ⟨qe, 0, none⟩), .slice A 3 c] W fun e w' => ∃ q, e = .returned (.tuple #[.pointer (some ⟨q, 0, none⟩), .nilIface]) ∧ Hid ((∃ v, TreeAt (fun _ => True) w' q v (objAB m n)) ∧ Keeps (fun _ => False) W w') := by
 refine (over_three W _ _ _ _ _ _ _ _ _ _ _ _ _ _ _ (mk_over h hm hn) A c hr).mono ?_
 rintro e w' ⟨⟨q, rfl, ht, _⟩ | ⟨_, hn⟩, hk⟩
 ·exact ⟨q, rfl, H_ ⟨ht, hk⟩⟩
 exact absurd hw hn
theorem over_not (h : LongSt w W qa qb qe va vb ve m n) (hm : m ≤ 60000) (hn : n ≤ 60000) (hw : ¬ (objAB m n).within) (A : Option Addr) (c : Nat) (hr : Rd W A 3 [.pointer (some ⟨qe, 0, none⟩), .pointer (some ⟨qa, 0, none⟩), .pointer (some ⟨qb, 0, none⟩)]) : Calls Tryz.prog 19 #[.pointer (some ⟨qe, 0, none⟩), .slice A 3 c] W fun e w' => e = .returned (.tuple #[.pointer none, .iface 103 (.agg #[.int .i64 3, .int .i64 2])]) ∧ Hid (Keeps (fun _ => False) W w') := by
 refine (over_three W _ _ _ _ _ _ _ _ _ _ _ _ _ _ _ (mk_over h hm hn) A c hr).mono ?_
 rintro e w' ⟨⟨q, _, _, hn⟩ | ⟨rfl, _⟩, hk⟩
 ·exact absurd hn hw
 exact ⟨rfl, H_ hk⟩
theorem three_fit3 (h : LongSt w W qa qb qe va vb ve m n) (hx : MaxAt W) (hm : m ≤ 60000) (hn : n ≤ 60000) (hw : (objAB m n).within) : Calls Tryz.prog 9 #[.pointer (some ⟨qe, 0, none⟩), .pointer (some ⟨qa, 0, none⟩), .pointer (some ⟨qb, 0, none⟩)] W fun e w' => ∃ q A c, e = .returned (.tuple #[.pointer (some ⟨q, 0, none⟩), .slice A 0 c, .nilIface]) ∧ Hid ((∃ v, TreeAt (fun _ => True) w' q v (objAB m n)) ∧ Keeps (fun _ => False) W w') := by
 have h1 := three_tree W qe qa qb ve va vb objE (objN keyA m) (objN keyB n) h.te h.ta h.tb objE_ok (objN_ok right_a _) (objN_ok right_b _) objE_within (objN_within (by decide) (by omega)) (objN_within (by decide) (by omega)) hx (objAB m n) (by rw [three_ab])
 rw [three_ab] at h1
 refine h1.mono ?_
 rintro e w' ⟨⟨q, v, A, k, c, rfl, ht, _, _, hl⟩ | ⟨_, hn⟩, hk⟩
 ·obtain rfl : k = 0 := hl.symm
  exact ⟨q, A, c, rfl, H_ ⟨⟨v, ht.true⟩, hk⟩⟩
 exact absurd hw hn
theorem three_not3 (h : LongSt w W qa qb qe va vb ve m n) (hx : MaxAt W) (hm : m ≤ 60000) (hn : n ≤ 60000) (hw : ¬ (objAB m n).within) : Calls Tryz.prog 9 #[.pointer (some ⟨qe, 0, none⟩), .pointer (some ⟨qa, 0, none⟩), .pointer (some ⟨qb, 0, none⟩)] W fun e w' => e = .returned (.tuple #[.pointer none, .slice none 0 0, errE 3]) ∧ Hid (Keeps (fun _ => False) W w') := by
 have h1 := three_tree W qe qa qb ve va vb objE (objN keyA m) (objN keyB n) h.te h.ta h.tb objE_ok (objN_ok right_a _) (objN_ok right_b _) objE_within (objN_within (by decide) (by omega)) (objN_within (by decide) (by omega)) hx (objAB m n) (by rw [three_ab])
 rw [three_ab] at h1
 refine h1.mono ?_
 rintro e w' ⟨⟨q, v, A, k, c, _, _, hn, _, _⟩ | ⟨rfl, _⟩, hk⟩
 ·exact absurd hn hw
 exact ⟨rfl, H_ hk⟩
end
theorem asSpot (v : Value) (w : World) : (Instr.typeAssert (.iface 103 v) 35 103 true).run Tryz.prog w = .ok (.tuple #[v, .bool true]) w := by kernel_rfl
theorem long_any (w : World) (n : Nat) (z y3 y6 : Int) (hz : z = n) (h3 : IntKind.i64.wrap (z + 30000) = y3) (h6 : IntKind.i64.wrap (y3 + 3) = y6) (hy : y6 = n + 30003) (hn : n ≤ 60000) (hmax : MaxAt w) : Calls Tryz.prog 16 #[.int .i64 z] w fun e w' => e = .returned (.bool true) ∧ Keeps (fun _ => False) w w' := by
 obtain ⟨M, hM⟩ : ∃ M : Nat, M = 30000 := ⟨_, rfl⟩
 have HNA : Hid (∀ W, Calls Tryz.prog 46 #[.string { data := #[97] }, .int .i64 30000] W fun e w' => ∃ A m c, e = .returned (.slice A m c) ∧ Hid (MadeOne w' A m c (objN keyA M) ∧ Keeps (fun _ => False) W w')) := H_ fun W => nulls_made W keyA M 30000 (by omega) right_a (by decide) (by omega)
 have HNB : Hid (∀ W, Calls Tryz.prog 46 #[.string { data := #[98] }, .int .i64 z] W fun e w' => ∃ A m c, e = .returned (.slice A m c) ∧ Hid (MadeOne w' A m c (objN keyB n) ∧ Keeps (fun _ => False) W w')) := H_ fun W => nulls_made W keyB n _ hz right_b (by decide) hn
 have HME := H_ empty_made
 have HMX := H_ hmax
 have HN := H_ hn
 have HY := H_ hy
 have HM := H_ hM
 clear hmax hn hM hz hy
 have ta : True := trivial
 have tb : True := trivial
 have tc : True := trivial
 go_enter Tryz.func16, Tryz.ntmps16
 go_upto_region 4 with (first
  | (go_at_call 46; have _t := ta; clear ta; refine (HNA.out _).mono ?_; rintro e w1 ⟨A1, m1, c1, rfl, H1⟩)
  | (go_at_call 46; refine (HNB.out _).mono ?_; rintro e w3 ⟨A3, m3, c3, rfl, H3⟩)
  | (go_at_call 8; have _t := tb; clear tb; refine (H1.out.1 _ (Keeps.refl _ _)).mono ?_; rintro e w2 ⟨qa, va, u0, u1, u2, u3, A4, m4, c4, A5, m5, c5, rfl, H2⟩; have hz := Blk.new w2 31 [.int .i64 0, .bool false, .int .u64 0, .string .empty, .slice none 0 0, .slice none 0 0]; have f0 := hz.frozen 0; have f1 := hz.frozen 1; have f2 := hz.frozen 2; have f3 := hz.frozen 3; have f4 := hz.frozen 4; have f5 := hz.frozen 5; clear hz)
  | (go_at_call 8; have _t := tc; clear tc; refine (H3.out.1 _ (Keeps.refl _ _)).mono ?_; rintro e w4 ⟨qb, vb, v0, v1, v2, v3, A6, m6, c6, A7, m7, c7, rfl, H4⟩; have hz := Blk.new w4 31 [.int .i64 0, .bool false, .int .u64 0, .string .empty, .slice none 0 0, .slice none 0 0]; have g0 := hz.frozen 0; have g1 := hz.frozen 1; have g2 := hz.frozen 2; have g3 := hz.frozen 3; have g4 := hz.frozen 4; have g5 := hz.frozen 5; clear hz)
  | (go_at_call 8; refine (HME.out (w4.alloc (.cells #[.int .i64 v0, .bool v1, .int .u64 v2, .string v3, .slice A6 m6 c6, .slice A7 m7 c7] 31)) _ (by rw [World.size_alloc]) _ (Keeps.refl _ _)).mono ?_; rintro e w6 ⟨qe, ve, z0, z1, z2, z3, A8, m8, c8, A9, m9, c9, rfl, H6⟩; have hz := Blk.new w6 31 [.int .i64 0, .bool false, .int .u64 0, .string .empty, .slice none 0 0, .slice none 0 0]; have p0 := hz.frozen 0; have p1 := hz.frozen 1; have p2 := hz.frozen 2; have p3 := hz.frozen 3; have p4 := hz.frozen 4; have p5 := hz.frozen 5; clear hz)
  )
 have HST : Hid (LongSt w (w6.alloc (.cells #[.int .i64 z0, .bool z1, .int .u64 z2, .string z3, .slice A8 m8 c8, .slice A9 m9 c9] 31)) qa qb qe va vb ve M n) := H_ (by
  have k6 : Keeps (fun _ => False) w6 (w6.alloc (.cells #[.int .i64 z0, .bool z1, .int .u64 z2, .string z3, .slice A8 m8 c8, .slice A9 m9 c9] 31)) := (Keeps.refl _ w6).alloc _
  have k46 : Keeps (fun _ => False) w4 w6 := (((Keeps.refl _ w4).alloc _).alloc _).trans H6.out.2.2.2 fun _ _ h => h
  have k24 : Keeps (fun _ => False) w2 w4 := (((Keeps.refl _ w2).alloc _).trans H3.out.2 fun _ _ h => h).trans H4.out.2.2.2 fun _ _ h => h
  have k4c := k46.trans k6 fun _ _ h => h
  have k2c := k24.trans k4c fun _ _ h => h
  exact ⟨(H1.out.2.trans H2.out.2.2.2 fun _ _ h => h).trans k2c fun _ _ h => h, H2.out.1.stay k2c, H4.out.1.stay k4c, H6.out.1.stay k6⟩)
 refine gen_codeF (fun W => LongSt w W qa qb qe va vb ve M n) HST.out ?_
 intro w9 hst
 have HS := H_ hst
 clear hst HST H1 H2 H3 H4 H6 HNA HNB HME f0 f1 f2 f3 f4 f5 g0 g1 g2 g3 g4 g5 p0 p1 p2 p3 p4 p5
 have HMW : Hid (∀ W, Keeps (fun _ => False) w9 W → MaxAt W) := H_ fun W hW => HMX.out.stay ((HS.out.stay hW).keep)
 have HMM : Hid (M ≤ 60000) := H_ (by have := HM.out; omega)
 have td : True := trivial
 by_cases hf : M + n + 3 ≤ 65536
 ·have hw := (objAB_within (m := M) (n := n)).2 hf
  have hd0 : ¬ (65536 : Int) < y6 := by have := HM.out; have := HY.out; omega
  have hd : decide ((65536 : Int) < y6) = false := decide_eq_false hd0
  have HMF : Hid (∀ W, Keeps (fun _ => False) w9 W → Calls Tryz.prog 18 #[.pointer (some ⟨qa, 0, none⟩), .pointer (some ⟨qb, 0, none⟩)] W fun e w' => ∃ q, e = .returned (.tuple #[.pointer (some ⟨q, 0, none⟩), .nilIface]) ∧ Hid ((∃ v, TreeAt (fun _ => True) w' q v (objAB M n)) ∧ Keeps (fun _ => False) W w')) := H_ fun W hW => merge_fit (HS.out.stay hW) HMM.out HN.out hw
  have HOF : Hid (∀ W, Keeps (fun _ => False) w9 W → ∀ A c, Rd W A 3 [.pointer (some ⟨qe, 0, none⟩), .pointer (some ⟨qa, 0, none⟩), .pointer (some ⟨qb, 0, none⟩)] → Calls Tryz.prog 19 #[.pointer (some ⟨qe, 0, none⟩), .slice A 3 c] W fun e w' => ∃ q, e = .returned (.tuple #[.pointer (some ⟨q, 0, none⟩), .nilIface]) ∧ Hid ((∃ v, TreeAt (fun _ => True) w' q v (objAB M n)) ∧ Keeps (fun _ => False) W w')) := H_ fun W hW A c hr => over_fit (HS.out.stay hW) HMM.out HN.out hw A c hr
  have HTF : Hid (∀ W, Keeps (fun _ => False) w9 W → Calls Tryz.prog 9 #[.pointer (some ⟨qe, 0, none⟩), .pointer (some ⟨qa, 0, none⟩), .pointer (some ⟨qb, 0, none⟩)] W fun e w' => ∃ q A c, e = .returned (.tuple #[.pointer (some ⟨q, 0, none⟩), .slice A 0 c, .nilIface]) ∧ Hid ((∃ v, TreeAt (fun _ => True) w' q v (objAB M n)) ∧ Keeps (fun _ => False) W w')) := H_ fun W hW => three_fit3 (HS.out.stay hW) (HMW.out _ hW) HMM.out HN.out hw
  have HSL : Hid (Slim (objAB M n)) := H_ (slim_of _ (objAB_ok _ _) (by rw [objAB_nodes]; omega))
  clear hw hf
  go_upto_region 9 with (first
   | (go_at_call 18; refine (HMF.out _ (Keeps.refl _ _)).mono ?_; rintro e wa ⟨q1, rfl, Ha⟩)
   | (go_at_call 19; refine (HOF.out _ (Ha.out.2.alloc _) (some ⟨wa.heap.size, 0, none⟩) 3 (Rd.of_blk (Blk.new wa 26 [.pointer (some ⟨qe, 0, none⟩), .pointer (some ⟨qa, 0, none⟩), .pointer (some ⟨qb, 0, none⟩)]) rfl)).mono ?_; rintro e wb ⟨q2, rfl, Hb⟩; have Kb := H_ ((Ha.out.2.alloc _).trans Hb.out.2 fun _ _ h => h))
   | (go_at_call 9; refine (HTF.out _ Kb.out).mono ?_; rintro e wc ⟨q3, A3, c3, rfl, Hc⟩; have Kc := H_ (Kb.out.trans Hc.out.2 fun _ _ h => h)))
  obtain ⟨x1, t1⟩ := Ha.out.1
  obtain ⟨x2, t2⟩ := Hb.out.1
  obtain ⟨x3, t3⟩ := Hc.out.1
  have kac : Keeps (fun _ => False) wa wc := (((Keeps.refl _ wa).alloc _).trans Hb.out.2 fun _ _ h => h).trans Hc.out.2 fun _ _ h => h
  replace t1 := t1.stay kac
  replace t2 := t2.stay Hc.out.2
  obtain ⟨b2, hb2, hs2⟩ := tsame_any HSL.out t1 t2
  obtain rfl : b2 = true := hb2.2 rfl
  obtain ⟨b3, hb3, hs3⟩ := tsame_any HSL.out t1 t3
  obtain rfl : b3 = true := hb3.2 rfl
  have HS2 := H_ hs2
  have HS3 := H_ hs3
  obtain ⟨T, y, hv⟩ := t1.2.2.iface
  subst hv
  have HRT : Hid (∀ W, Keeps (fun _ => False) wc W → Calls Tryz.prog 38 #[.pointer (some ⟨q1, 0, none⟩)] W fun e w2 => e = .returned (.agg #[.iface T y]) ∧ Keeps (fun _ => False) W w2) := H_ fun W hW => root_any _ q1 T y (hW.blk t1.2.1 (fun h => h))
  have HLN : Hid (∀ W, Keeps (fun _ => False) wc W → Calls Tryz.prog 47 #[.agg #[.iface T y]] W fun e w2 => e = .returned (.int .i64 2) ∧ Keeps (fun _ => False) W w2) := H_ fun W hW => len_any t1.2.2 W hW
  have HK0 := H_ (Keeps.refl (fun _ => False) wc)
  clear t1 t2 t3 hb2 hb3 hs2 hs3 kac
  go_upto_region 12 with (fail)
  go_wp2_with (first
   | (go_at_call 15; have _t := td; clear td; refine (HS2.out _ HK0.out).mono ?_; rintro e wd ⟨rfl, hd1⟩; have Kd := H_ hd1; clear hd1)
   | (go_at_call 15; refine (HS3.out _ Kd.out).mono ?_; rintro e we ⟨rfl, he⟩; have Ke := H_ (Kd.out.trans he fun _ _ h => h); clear he)
   | (go_at_call 38; refine (HRT.out _ Ke.out).mono ?_; rintro e wf ⟨rfl, hf1⟩; have Kf := H_ (Ke.out.trans hf1 fun _ _ h => h); clear hf1)
   | (go_at_call 47; refine (HLN.out _ Kf.out).mono ?_; rintro e wg ⟨rfl, hg⟩; have Kg := H_ (Kf.out.trans hg fun _ _ h => h); clear hg))
  go_ret
  exact ⟨rfl, HS.out.keep.trans (Kc.out.trans Kg.out fun _ _ h => h) fun _ _ h => h⟩
 have hw : ¬ (objAB M n).within := fun h => hf (objAB_within.1 h)
 have hd0 : (65536 : Int) < y6 := by have := HM.out; have := HY.out; omega
 have hd : decide ((65536 : Int) < y6) = true := decide_eq_true hd0
 have HMF : Hid (∀ W, Keeps (fun _ => False) w9 W → Calls Tryz.prog 18 #[.pointer (some ⟨qa, 0, none⟩), .pointer (some ⟨qb, 0, none⟩)] W fun e w' => e = .returned (.tuple #[.pointer none, errE 3]) ∧ Hid (Keeps (fun _ => False) W w')) := H_ fun W hW => merge_not (HS.out.stay hW) HMM.out HN.out hw
 have HOF : Hid (∀ W, Keeps (fun _ => False) w9 W → ∀ A c, Rd W A 3 [.pointer (some ⟨qe, 0, none⟩), .pointer (some ⟨qa, 0, none⟩), .pointer (some ⟨qb, 0, none⟩)] → Calls Tryz.prog 19 #[.pointer (some ⟨qe, 0, none⟩), .slice A 3 c] W fun e w' => e = .returned (.tuple #[.pointer none, .iface 103 (.agg #[.int .i64 3, .int .i64 2])]) ∧ Hid (Keeps (fun _ => False) W w')) := H_ fun W hW A c hr => over_not (HS.out.stay hW) HMM.out HN.out hw A c hr
 have HTF : Hid (∀ W, Keeps (fun _ => False) w9 W → Calls Tryz.prog 9 #[.pointer (some ⟨qe, 0, none⟩), .pointer (some ⟨qa, 0, none⟩), .pointer (some ⟨qb, 0, none⟩)] W fun e w' => e = .returned (.tuple #[.pointer none, .slice none 0 0, errE 3]) ∧ Hid (Keeps (fun _ => False) W w')) := H_ fun W hW => three_not3 (HS.out.stay hW) (HMW.out _ hW) HMM.out HN.out hw
 have HER := H_ (fun W => errno_three W)
 unfold errE at HMF HTF HER
 have hspot := asSpot
 clear hw hf
 go_upto_region 9 with (first
  | (go_at_call 18; refine (HMF.out _ (Keeps.refl _ _)).mono ?_; rintro e wa ⟨rfl, Ha⟩)
  | (go_at_call 19; refine (HOF.out _ (Ha.out.alloc _) (some ⟨wa.heap.size, 0, none⟩) 3 (Rd.of_blk (Blk.new wa 26 [.pointer (some ⟨qe, 0, none⟩), .pointer (some ⟨qa, 0, none⟩), .pointer (some ⟨qb, 0, none⟩)]) rfl)).mono ?_; rintro e wb ⟨rfl, Hb⟩; have Kb := H_ ((Ha.out.alloc _).trans Hb.out fun _ _ h => h))
  | (go_at_call 9; refine (HTF.out _ Kb.out).mono ?_; rintro e wc ⟨rfl, Hc⟩; have Kc := H_ (Kb.out.trans Hc.out fun _ _ h => h)))
 go_upto_region 11 with (fail)
 trace "AT11"
 go_wp2_with (go_at_call 12; refine (HER.out _).mono ?_; rintro e wq ⟨rfl, rfl⟩)
 go_ret
 exact ⟨rfl, HS.out.keep.trans (Kc.out.alloc _) fun _ _ h => h⟩
end Go.Proofs.YtdmcioghdindfaaGreatDoor
namespace Go.Proofs.YtdmcioghdindfaaGreatDoor
open Go Go.RowKit Go.Aff Go.Json
theorem long_fits (w : World) (hmax : MaxAt w) : Calls Tryz.prog 16 #[.int .i64 35533] w fun e w' => e = .returned (.bool true) ∧ Keeps (fun _ => False) w w' := by
 obtain ⟨n, hn⟩ : ∃ n : Nat, n = 35533 := ⟨_, rfl⟩
 exact long_any w n 35533 65533 65536 (by omega) (by decide) (by decide) (by omega) (by omega) hmax
theorem long_past (w : World) (hmax : MaxAt w) : Calls Tryz.prog 16 #[.int .i64 35534] w fun e w' => e = .returned (.bool true) ∧ Keeps (fun _ => False) w w' := by
 obtain ⟨n, hn⟩ : ∃ n : Nat, n = 35534 := ⟨_, rfl⟩
 exact long_any w n 35534 65534 65537 (by omega) (by decide) (by decide) (by omega) (by omega) hmax
theorem mergeLong_any (w : World) (hmax : MaxAt w) : Calls Tryz.prog 4 #[] w fun e w' => e = .returned (.bool true) ∧ Keeps (fun _ => False) w w' := by
 have HA := H_ (long_fits w hmax)
 have HB : Hid (∀ W, Keeps (fun _ => False) w W → Calls Tryz.prog 16 #[.int .i64 35534] W fun e w' => e = .returned (.bool true) ∧ Keeps (fun _ => False) W w') := H_ fun W hW => long_past W (hmax.stay hW)
 clear hmax
 have ta : True := trivial
 go_enter Tryz.func4, Tryz.ntmps4
 go_wp2_with (first
  | (go_at_call 16; have _t := ta; clear ta; refine HA.out.mono ?_; rintro e w1 ⟨rfl, h1⟩; have K1 := H_ h1; clear h1)
  | (go_at_call 16; refine (HB.out _ K1.out).mono ?_; rintro e w2 ⟨rfl, h2⟩; have K2 := H_ h2; clear h2))
 go_ret
 exact ⟨rfl, K1.out.trans K2.out fun _ _ h => h⟩
end Go.Proofs.YtdmcioghdindfaaGreatDoor
namespace Go.Aff
open Go Go.RowKit Go.ChangeShapes Go.WideShapes
section
variable {H : Type} {enc : TypeId × Value → H} {P : Program}
theorem trodAll_stays (hl : laidOutB P = true) {W W' : World} {sp : Nat → Bool} : ∀ {ts : List TypeId} {vs : List Value} {ds : List (DataW H)} {ps : List MemPlace}, (∀ t ∈ ts, P.readableRec t = true ∧ t < P.types.size) →
  DataW.TrodAll enc P W 0 (fun _ => true) true ts vs ds ps → (∀ p ∈ ps, W.sameAt W' p) → (∀ p ∈ ps, sp p.block = true) → DataW.TrodAll enc P W' 0 sp true ts vs ds ps
 | [], [], [], _, _, h, _, _ => h
 | t :: ts, v :: vs, d :: ds, ps, ht, h, hs, hp => by
  obtain ⟨p, q, h1, h2, rfl⟩ := h
  exact ⟨p, q, WideElems.Trod_stays hl (ht t (by simp)).1 (ht t (by simp)).2 h1 (fun x hx => hs x (by simp [hx])) (fun x hx => hp x (by simp [hx])),
   trodAll_stays hl (fun u hu => ht u (by simp [hu])) h2 (fun x hx => hs x (by simp [hx])) (fun x hx => hp x (by simp [hx])), rfl⟩
 | [], _ :: _, _, _, _, h, _, _ => h.elim
 | [], [], _ :: _, _, _, h, _, _ => h.elim
 | _ :: _, [], _, _, _, h, _, _ => h.elim
 | _ :: _, _ :: _, [], _, _, h, _, _ => h.elim
theorem law_post {f : Func} {s : ChangeSpec} {apart fresh handsOn again : Bool} {W W' : World} {args : Array Value} {ds gs : List (DataW H)} {before : List MemPlace} {tb : TypeId}
  (hl : laidOutB P = true) (ht : ∀ t ∈ f.params.toList, P.readableRec t = true ∧ t < P.types.size) (hv : s.vars = []) (hrt : f.resultTypes = #[tb]) (htb : P.underlying tb = some .bool)
  (hfn : (s.fn H ds).results = [.lit (.bool true)] ∧ (s.fn H ds).args = ds ∧ (s.fn H ds).vars = [])
  (hW : DataW.Whole enc P f.params.toList s.vars apart W args.toList ds gs before) (hk : Keeps (fun _ => False) W W') : s.post enc P f apart fresh handsOn again W args (.bool true) W' := by
 have hW0 := hW
 obtain ⟨pa, pv, hA, hV, hps, hz, hn⟩ := hW
 rw [hv] at hV
 obtain ⟨rfl, rfl⟩ := trodVars_none hV
 have hb : Below W.heap.size W W' := hk.to_below (fun _ _ h => h)
 have hlt : ∀ p ∈ before, p.block < W.heap.size := fun p hp => hW0.lt p hp
 have hsame : ∀ p ∈ before, W.sameAt W' p := fun p hp => hb.same (hlt p hp)
 rw [List.append_nil] at hps
 subst hps
 have hold : ∀ p ∈ before, (fun b => decide (b < W.heap.size)) p.block = true := fun p hp => by simpa using hlt p hp
 have hres : ∀ (b : Nat) (sp : Nat → Bool) (hd : Bool), DataW.TrodAll enc P W' b sp hd f.resultTypes.toList ((Value.bool true).resultList f.resultTypes.size) (s.fn H (ds ++ [])).results [] := by
  intro b sp hd
  rw [List.append_nil, hfn.1, hrt]
  exact trodAll_cons_mk (shut_bool htb true) trodAll_mk0
 have hargs : ∀ sp : Nat → Bool, (∀ p ∈ before, sp p.block = true) → DataW.TrodAll enc P W' 0 sp true f.params.toList args.toList (s.fn H (ds ++ [])).args before := by
  intro sp hsp
  rw [List.append_nil, hfn.2.1]
  exact trodAll_stays hl ht hA hsame hsp
 have hvars : ∀ sp : Nat → Bool, DataW.TrodVars enc P W' sp s.vars (s.fn H (ds ++ [])).vars [] := by
  intro sp
  rw [List.append_nil, hfn.2.2, hv]
  rfl
 refine ⟨ds, [], before, [], before, [], hW0, hres _ _ _, hargs _ hold, hvars _, hb.frame _, fun _ => ?_⟩
 refine ⟨?_, _, _, ([] ++ before) ++ [], ⟨[] ++ before, [], trodAll_append (hargs _ (fun _ _ => rfl)) (hres _ _ _), hvars _, rfl, ?_, ?_⟩, ?_⟩
 ·exact ok_one hrt rfl (okWide_bool_mk htb true)
 ·intro b off hp
  have hp' : MemPlace.cell b off ∈ before := by simpa using hp
  have : W'.frozen? ⟨b, off, none⟩ = W.frozen? ⟨b, off, none⟩ := by
   unfold World.frozen?
   rw [hb.block b (hlt _ hp')]
  rw [this]
  exact hz b off hp'
 ·intro ha
  simpa using hn ha
 intro p hp _
 simpa using hp
end
section
variable {H : Type} {enc : TypeId × Value → H} {P : Program} {w : World} {base : Nat} {held : Bool}
end
end Go.Aff
namespace Go.Proofs.YtdmcioghdindfaaGreatDoor
open Go Go.RowKit Go.Aff Go.ChangeShapes Go.WideShapes
theorem own : ownKnob Tryz.prog.godebug = none := by kernel_rfl
theorem laidOut : laidOutB Tryz.prog = true := by kernel_rfl
mutual
def datL : DataW Unit → List Value
 | .agg l => datLs l
 | .lit (.int k z) => [Value.int k z]
 | _ => [undef]
def datLs : List (DataW Unit) → List Value
 | [] => []
 | d :: l => datL d ++ datLs l
end
def fillCells (cs : Array Value) : Obj → Obj
 | .cells _ t frozen => .cells cs t frozen
 | o => o
noncomputable def laidWorld (os : Os) : World :=
 let w := World.holding Tryz.prog os ⟨#[], #[], []⟩
 { w with heap := (w.heap.modify 2 (fillCells (datL Rows.laid_unicode_utf8_first).toArray)).modify 3 (fillCells (datL Rows.laid_unicode_utf8_acceptRanges).toArray) }
end Go.Proofs.YtdmcioghdindfaaGreatDoor
namespace Go.Proofs.YtdmcioghdindfaaGreatDoor
open Go Go.RowKit Go.Aff
theorem max_of_shaped {W : World} (h : W.ShapedOpen Tryz.prog) : MaxAt W :=
 cell_of_shapedOpen_int (P := Tryz.prog) (g := 1) (t := 3) (zero := #[.int .i64 0]) h (of_decide_eq_true (by kernel_rfl)) (by kernel_rfl) rfl (by kernel_rfl) (by kernel_rfl) Tryz.underlying3
end Go.Proofs.YtdmcioghdindfaaGreatDoor
