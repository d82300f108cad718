/- Texts. -/
import Derived.Test.YtdmcioghdindfaaGreatDoorT37
import Derived.ChangeSame
import Derived.Carry
import Derived.ReadAgain
import Derived.OpenShut
import Derived.ChangeSlices
import Derived.WideShapes
import Derived.SizedLaws
import Derived.Deep.Matrix
set_option linter.unusedSimpArgs false
set_option maxRecDepth 100000
set_option maxHeartbeats 4000000
namespace Go.Proofs.YtdmcioghdindfaaGreatDoor
open Go Go.RowKit Go.Aff Go.Json
attribute [local go_sem] Oper.semAt_some
theorem texts_same (w : World) (A : Option Addr) (n c : Nat) (B : Option Addr) (d : Nat) (xs : List ByteArray) (hA : Rd w A n (xs.map .string)) (hB : Rd w B n (xs.map .string)) (hn : n ≤ 1048576) :
  Calls Tryz.prog 14 #[.slice A n c, .slice B n d] w fun e w' => e = .returned (.bool true) ∧ Keeps (fun _ => False) w w' := by
 have HA := H_ hA
 have HB := H_ hB
 clear hA hB
 go_enter Tryz.func14, Tryz.ntmps14
 go_wp2
 go_loopg [5] n (fun gk t wx => ∃ (i : Nat), i ≤ n ∧ t = .int .i64 i ∧ gk = n - i ∧ Hid (Keeps (fun _ => False) w wx))
 case atStart => exact ⟨0, by omega, rfl, rfl, H_ (Keeps.refl _ _)⟩
 case round =>
  obtain ⟨i, hin, rfl, hgk, HO⟩ := hrel
  have HGK := H_ hgk
  clear hgk
  by_cases hlt : i < n
  ·obtain ⟨g, o1, x, e1, hx, hcx⟩ := textAt (HA.out.keep HO.out fun _ _ _ h => h) hlt
   obtain ⟨g2, o2, y, e2, hy, hcy⟩ := textAt (HB.out.keep HO.out fun _ _ _ h => h) hlt
   obtain rfl : x = y := Option.some.inj (hx.symm.trans hy)
   subst e1 e2
   have hss : (x.toList == x.toList) = true := beq_self_eq_true _
   have hi63 : (0 : Int) ≤ (i : Int) := by omega
   have hiN : (i : Int) < (n : Int) := by omega
   clear hx hy
   go_upto_region 6 with fail
   refine wp_region_held_drew (S := Keeps (fun _ => False) wr) (by kernel_rfl) (Keeps.refl (fun _ => False) _).drew (fun h_ => ?_)
   refine tI 0 17 h_ ?_
   try simp only [pu]
   refine tI 1 18 h_ ?_
   try simp only [pu]
   refine tI 2 19 h_ ?_
   try simp only [pu]
   refine tI 3 20 h_ ?_ (hy := .inl ⟨by rfl, by intro w' hSw; have c1 := cell_keep hSw hcx; go_simp; first | done | rfl⟩)
   try simp only [pu]
   refine tI 4 21 h_ ?_
   try simp only [pu]
   refine tI 5 22 h_ ?_
   try simp only [pu]
   refine tI 6 23 h_ ?_
   try simp only [pu]
   refine tI 7 24 h_ ?_ (hy := .inl ⟨by rfl, by intro w' hSw; have c2 := cell_keep hSw hcy; go_simp; first | done | rfl⟩)
   try simp only [pu]
   refine tI 8 25 h_ ?_
   try simp only [pu]
   refine wpAnyH_done (by kernel_rfl) ?_ _
   go_wp2
   go_roundg (n - (i + 1))
   case measure => rw [HGK.out]; omega
   case rel => exact ⟨i + 1, by omega, by go_num, rfl, H_ (HO.out.trans (Keeps.refl _ _).drew fun _ _ h => h)⟩
  obtain rfl : i = n := by omega
  go_wp2
  go_ret
  exact ⟨rfl, HO.out⟩
theorem thr_bad (w : World) (A : Option Addr) (n c : Nat) (B : Option Addr) (m d : Nat) (C : Option Addr) (k g : Nat) (css dss ess : List (List Value)) (l1 l2 l3 : List StepV) (hS : StepsIn w A n css l1) (hM : Modest l1) (hT : StepsIn w B m dss l2) (hN : Modest l2) (hU : StepsIn w C k ess l3) (hO : Modest l3) (o1 o2 o3 : Bool) (h1 : MadeAny (w.alloc (.cells #[.slice A n c, .slice B m d, .slice C k g] 24)) A n c o1) (h2 : MadeAny (w.alloc (.cells #[.slice A n c, .slice B m d, .slice C k g] 24)) B m d o2) (h3 : MadeAny (w.alloc (.cells #[.slice A n c, .slice B m d, .slice C k g] 24)) C k g o3) (ho : (o1 && o2 && o3) = false) :
    Calls Tryz.prog 3 #[.agg #[.slice A n c, .slice B m d, .slice C k g]] w fun e w' => e = .returned (.bool true) ∧ Keeps (fun _ => False) w w' := by
  have hbx0 := Blk.new w 24 [.slice A n c, .slice B m d, .slice C k g]
  have HBX := H_ hbx0
  have HK0 : Hid (Keeps (fun _ => False) w (w.alloc (.cells #[.slice A n c, .slice B m d, .slice C k g] 24))) := H_ ((Keeps.refl _ w).alloc _)
  have HL0 : Hid (Keeps (fun _ => False) (w.alloc (.cells #[.slice A n c, .slice B m d, .slice C k g] 24)) (w.alloc (.cells #[.slice A n c, .slice B m d, .slice C k g] 24))) := H_ (Keeps.refl _ _)
  have x0 := hbx0.cell 0
  clear hbx0
  have HB1 : Hid (∀ W, Keeps (fun _ => False) (w.alloc (.cells #[.slice A n c, .slice B m d, .slice C k g] 24)) W → Calls Tryz.prog 7 #[.slice A n c] W fun e w' => e = .returned (.bool false) ∧ Keeps (fun _ => False) W w') := H_ fun W hW => beyond_any W A n c css l1 (hS.stay (HK0.out.trans hW fun _ _ h => h)) hM
  have HB2 : Hid (∀ W, Keeps (fun _ => False) (w.alloc (.cells #[.slice A n c, .slice B m d, .slice C k g] 24)) W → Calls Tryz.prog 7 #[.slice B m d] W fun e w' => e = .returned (.bool false) ∧ Keeps (fun _ => False) W w') := H_ fun W hW => beyond_any W B m d dss l2 (hT.stay (HK0.out.trans hW fun _ _ h => h)) hN
  have HB3 : Hid (∀ W, Keeps (fun _ => False) (w.alloc (.cells #[.slice A n c, .slice B m d, .slice C k g] 24)) W → Calls Tryz.prog 7 #[.slice C k g] W fun e w' => e = .returned (.bool false) ∧ Keeps (fun _ => False) W w') := H_ fun W hW => beyond_any W C k g ess l3 (hU.stay (HK0.out.trans hW fun _ _ h => h)) hO
  have HM1 := H_ h1
  have HM2 := H_ h2
  have HM3 := H_ h3
  have tk : True := trivial
  have tl : True := trivial
  have tm : True := trivial
  have tn : True := trivial
  clear hS hM hT hN hU hO h1 h2 h3
  unfold MadeAny at HM1 HM2 HM3
  rcases o1 with _ | _ <;> rcases o2 with _ | _ <;> rcases o3 with _ | _
  rotate_left 7
  · exact Bool.noConfusion ho
  all_goals
    (  clear ho
       go_enter Tryz.func3, Tryz.ntmps3
       go_wp2_with (first
         | (go_at_call 7; have _t := tk; clear tk; refine (HB1.out _ HL0.out).mono ?_; rintro e w1 ⟨rfl, hk1⟩; have HL1 := H_ (HL0.out.trans hk1 fun _ _ h => h); have HX1 := H_ (hk1.blk HBX.out fun h => h); have x1 := HX1.out.cell 1; clear hk1)
         | (go_at_call 7; have _t := tl; clear tl; refine (HB2.out _ HL1.out).mono ?_; rintro e w2 ⟨rfl, hk2⟩; have HL2 := H_ (HL1.out.trans hk2 fun _ _ h => h); have HX2 := H_ (hk2.blk HX1.out fun h => h); have x2 := HX2.out.cell 2; clear hk2)
         | (go_at_call 7; refine (HB3.out _ HL2.out).mono ?_; rintro e w3 ⟨rfl, hk3⟩; have HL3 := H_ (HL2.out.trans hk3 fun _ _ h => h); have HX3 := H_ (hk3.blk HX2.out fun h => h); have x3 := HX3.out.cell 0; clear hk3)
         | (go_at_call 8; have _t := tm; clear tm; refine (HM1.out _ HL3.out).mono ?_; rintro e w4 ⟨t, u0, u1, u2, u3, A4, m4, c4, A5, m5, c5, rfl, HK4⟩; have hz := Blk.new w4 31 [.int .i64 0, .bool false, .int .u64 0, .string .empty, .slice none 0 0, .slice none 0 0]; have f0 := hz.frozen 0; have f1 := hz.frozen 1; have f2 := hz.frozen 2; have f3 := hz.frozen 3; have f4 := hz.frozen 4; have f5 := hz.frozen 5; clear hz; have HX4 := H_ ((HK4.out.blk HBX.out fun h => h).alloc (.cells #[.int .i64 u0, .bool u1, .int .u64 u2, .string u3, .slice A4 m4 c4, .slice A5 m5 c5] 31)); have x4 := HX4.out.cell 1)
         | (go_at_call 8; have _t := tn; clear tn; refine (HM2.out _ (HK4.out.alloc _)).mono ?_; rintro e w5 ⟨t', v0, v1, v2, v3, A6, m6, c6, A7, m7, c7, rfl, HK5⟩; have hz := Blk.new w5 31 [.int .i64 0, .bool false, .int .u64 0, .string .empty, .slice none 0 0, .slice none 0 0]; have g0 := hz.frozen 0; have g1 := hz.frozen 1; have g2 := hz.frozen 2; have g3 := hz.frozen 3; have g4 := hz.frozen 4; have g5 := hz.frozen 5; clear hz; have HX5 := H_ ((HK5.out.blk HBX.out fun h => h).alloc (.cells #[.int .i64 v0, .bool v1, .int .u64 v2, .string v3, .slice A6 m6 c6, .slice A7 m7 c7] 31)); have x5 := HX5.out.cell 2)
         | (go_at_call 8; refine (HM3.out _ (HK5.out.alloc _)).mono ?_; rintro e w6 ⟨t'', z0, z1, z2, z3, A8, m8, c8, A9, m9, c9, rfl, HK6⟩; have hz := Blk.new w6 31 [.int .i64 0, .bool false, .int .u64 0, .string .empty, .slice none 0 0, .slice none 0 0]; have i0 := hz.frozen 0; have i1 := hz.frozen 1; have i2 := hz.frozen 2; have i3 := hz.frozen 3; have i4 := hz.frozen 4; have i5 := hz.frozen 5; clear hz))
       go_ret
       exact ⟨rfl, HK0.out.trans (HK6.out.alloc _) fun _ _ h => h⟩)
structure ThrSt (w W : World) (q0 q1 q2 : Nat) (v0 v1 v2 : Value) (o x y : JV) (b4 b8 b12 : Nat) (S0 S1 S2 : List Value) : Prop where
  keep : Keeps (fun _ => False) w W
  t0 : TreeAt (fun _ => True) W q0 v0 o
  t1 : TreeAt (fun _ => True) W q1 v1 x
  t2 : TreeAt (fun _ => True) W q2 v2 y
  r0 : RAt (fun _ => True) W S0 o
  r1 : RAt (fun _ => True) W S1 x
  r2 : RAt (fun _ => True) W S2 y
  k0 : Blk W b4 31 S0
  k1 : Blk W b8 31 S1
  k2 : Blk W b12 31 S2
theorem ThrSt.stay {w W W' : World} {q0 q1 q2 : Nat} {v0 v1 v2 : Value} {o x y : JV} {b4 b8 b12 : Nat} {S0 S1 S2 : List Value} (h : ThrSt w W q0 q1 q2 v0 v1 v2 o x y b4 b8 b12 S0 S1 S2) (k : Keeps (fun _ => False) W W') : ThrSt w W' q0 q1 q2 v0 v1 v2 o x y b4 b8 b12 S0 S1 S2 :=
  ⟨h.keep.trans k fun _ _ h => h, h.t0.stay k, h.t1.stay k, h.t2.stay k, h.r0.stay k, h.r1.stay k, h.r2.stay k, k.blk h.k0 fun h => h, k.blk h.k1 fun h => h, k.blk h.k2 fun h => h⟩
theorem three_fits {W : World} {qa qb qc : Nat} {va vb vc : Value} {a b c : JV} (ha : TreeAt (fun _ => True) W qa va a) (hb : TreeAt (fun _ => True) W qb vb b) (hc : TreeAt (fun _ => True) W qc vc c) (ka : JOk a) (kb : JOk b) (kc : JOk c) (wa : a.within) (wb : b.within) (wc : c.within) (hm : MaxAt W) {z : JV} {xs : List ByteArray} (hz : three (some a) (some b) (some c) [] = (some z, xs)) (hw : z.within) :
    Calls Tryz.prog 9 #[.pointer (some ⟨qa, 0, none⟩), .pointer (some ⟨qb, 0, none⟩), .pointer (some ⟨qc, 0, none⟩)] W fun e w' => ∃ q v A n c, e = .returned (.tuple #[.pointer (some ⟨q, 0, none⟩), .slice A n c, .nilIface]) ∧ n = xs.length ∧ Hid (TreeAt (fun _ => True) w' q v z ∧ Rd w' A n (xs.map .string) ∧ Keeps (fun _ => False) W w') := by
  have h1 := three_tree W qa qb qc va vb vc a b c ha hb hc ka kb kc wa wb wc hm z (by rw [hz])
  rw [hz] at h1
  refine h1.mono ?_
  rintro e w' ⟨⟨q, v, A, n, cc, he, ht, _, hr, hl⟩ | ⟨_, hn⟩, hk⟩
  · exact ⟨q, v, A, n, cc, he, hl.symm, H_ ⟨ht.true, hr, hk⟩⟩
  exact absurd hw hn
theorem three_not {W : World} {qa qb qc : Nat} {va vb vc : Value} {a b c : JV} (ha : TreeAt (fun _ => True) W qa va a) (hb : TreeAt (fun _ => True) W qb vb b) (hc : TreeAt (fun _ => True) W qc vc c) (ka : JOk a) (kb : JOk b) (kc : JOk c) (wa : a.within) (wb : b.within) (wc : c.within) (hm : MaxAt W) {z : JV} {xs : List ByteArray} (hz : three (some a) (some b) (some c) [] = (some z, xs)) (hw : ¬ z.within) :
    Calls Tryz.prog 9 #[.pointer (some ⟨qa, 0, none⟩), .pointer (some ⟨qb, 0, none⟩), .pointer (some ⟨qc, 0, none⟩)] W fun e w' => e = .returned (.tuple #[.pointer none, .slice none 0 0, errE 3]) ∧ Hid (Keeps (fun _ => False) W w') := by
  have h1 := three_tree W qa qb qc va vb vc a b c ha hb hc ka kb kc wa wb wc hm z (by rw [hz])
  refine h1.mono ?_
  rintro e w' ⟨⟨q, v, A, n, cc, he, ht, hn, _⟩ | ⟨he, _⟩, hk⟩
  · exact absurd hn hw
  exact ⟨he, H_ hk⟩
theorem three_left (o x : JV) : three (some o) (some x) (some o) [] = (some x, []) := three_alike (.inr rfl)
theorem three_right (o y : JV) : three (some o) (some o) (some y) [] = (some y, []) := by
  by_cases h : o = y
  · subst h; exact three_alike (.inl rfl)
  exact three_other (fun e => e.elim (fun e => h (by injection e)) fun e => h (by injection e with e; exact e.symm)) rfl
theorem three_twice (o x : JV) : three (some o) (some x) (some x) [] = (some x, []) := three_alike (.inl rfl)
theorem thr_ok (w : World) (A : Option Addr) (n c : Nat) (B : Option Addr) (m d : Nat) (C : Option Addr) (k g : Nat) (css dss ess : List (List Value)) (l1 l2 l3 : List StepV) (hS : StepsIn w A n css l1) (hM : Modest l1) (hT : StepsIn w B m dss l2) (hN : Modest l2) (hU : StepsIn w C k ess l3) (hO : Modest l3) (hmax : MaxAt w) (jo jx jy : JV) (h1 : MadeOne (w.alloc (.cells #[.slice A n c, .slice B m d, .slice C k g] 24)) A n c jo) (h2 : MadeOne (w.alloc (.cells #[.slice A n c, .slice B m d, .slice C k g] 24)) B m d jx) (h3 : MadeOne (w.alloc (.cells #[.slice A n c, .slice B m d, .slice C k g] 24)) C k g jy)
    (ko : JOk jo) (kx : JOk jx) (ky : JOk jy) (wo : jo.within) (wx : jx.within) (wy : jy.within) :
    Calls Tryz.prog 3 #[.agg #[.slice A n c, .slice B m d, .slice C k g]] w fun e w' => e = .returned (.bool true) ∧ Keeps (fun _ => False) w w' := by
  have HJ := H_ (And.intro ko (And.intro kx (And.intro ky (And.intro wo (And.intro wx (And.intro wy hmax))))))
  clear ko kx ky wo wx wy hmax
  have hbx0 := Blk.new w 24 [.slice A n c, .slice B m d, .slice C k g]
  have HBX := H_ hbx0
  have HK0 : Hid (Keeps (fun _ => False) w (w.alloc (.cells #[.slice A n c, .slice B m d, .slice C k g] 24))) := H_ ((Keeps.refl _ w).alloc _)
  have HL0 : Hid (Keeps (fun _ => False) (w.alloc (.cells #[.slice A n c, .slice B m d, .slice C k g] 24)) (w.alloc (.cells #[.slice A n c, .slice B m d, .slice C k g] 24))) := H_ (Keeps.refl _ _)
  have x0 := hbx0.cell 0
  clear hbx0
  have HB1 : Hid (∀ W, Keeps (fun _ => False) (w.alloc (.cells #[.slice A n c, .slice B m d, .slice C k g] 24)) W → Calls Tryz.prog 7 #[.slice A n c] W fun e w' => e = .returned (.bool false) ∧ Keeps (fun _ => False) W w') := H_ fun W hW => beyond_any W A n c css l1 (hS.stay (HK0.out.trans hW fun _ _ h => h)) hM
  have HB2 : Hid (∀ W, Keeps (fun _ => False) (w.alloc (.cells #[.slice A n c, .slice B m d, .slice C k g] 24)) W → Calls Tryz.prog 7 #[.slice B m d] W fun e w' => e = .returned (.bool false) ∧ Keeps (fun _ => False) W w') := H_ fun W hW => beyond_any W B m d dss l2 (hT.stay (HK0.out.trans hW fun _ _ h => h)) hN
  have HB3 : Hid (∀ W, Keeps (fun _ => False) (w.alloc (.cells #[.slice A n c, .slice B m d, .slice C k g] 24)) W → Calls Tryz.prog 7 #[.slice C k g] W fun e w' => e = .returned (.bool false) ∧ Keeps (fun _ => False) W w') := H_ fun W hW => beyond_any W C k g ess l3 (hU.stay (HK0.out.trans hW fun _ _ h => h)) hO
  have HM1 := H_ h1
  have HM2 := H_ h2
  have HM3 := H_ h3
  have tk : True := trivial
  have tl : True := trivial
  have tm : True := trivial
  have tn : True := trivial
  clear hS hM hT hN hU hO h1 h2 h3
  unfold MadeOne at HM1 HM2 HM3
  go_enter Tryz.func3, Tryz.ntmps3
  go_upto_region 10 with (first
    | (go_at_call 7; have _t := tk; clear tk; refine (HB1.out _ HL0.out).mono ?_; rintro e w1 ⟨rfl, hk1⟩; have HL1 := H_ (HL0.out.trans hk1 fun _ _ h => h); have HX1 := H_ (hk1.blk HBX.out fun h => h); have x1 := HX1.out.cell 1; clear hk1)
    | (go_at_call 7; have _t := tl; clear tl; refine (HB2.out _ HL1.out).mono ?_; rintro e w2 ⟨rfl, hk2⟩; have HL2 := H_ (HL1.out.trans hk2 fun _ _ h => h); have HX2 := H_ (hk2.blk HX1.out fun h => h); have x2 := HX2.out.cell 2; clear hk2)
    | (go_at_call 7; refine (HB3.out _ HL2.out).mono ?_; rintro e w3 ⟨rfl, hk3⟩; have HL3 := H_ (HL2.out.trans hk3 fun _ _ h => h); have HX3 := H_ (hk3.blk HX2.out fun h => h); have x3 := HX3.out.cell 0; clear hk3)
    | (go_at_call 8; have _t := tm; clear tm; refine (HM1.out _ HL3.out).mono ?_; rintro e w4 ⟨q0, v0', u0, u1, u2, u3, A4, m4, c4, A5, m5, c5, rfl, H4⟩; have hz := Blk.new w4 31 [.int .i64 0, .bool false, .int .u64 0, .string .empty, .slice none 0 0, .slice none 0 0]; have f0 := hz.frozen 0; have f1 := hz.frozen 1; have f2 := hz.frozen 2; have f3 := hz.frozen 3; have f4 := hz.frozen 4; have f5 := hz.frozen 5; clear hz; have HX4 := H_ ((H4.out.2.2.1.blk HBX.out fun h => h).alloc (.cells #[.int .i64 u0, .bool u1, .int .u64 u2, .string u3, .slice A4 m4 c4, .slice A5 m5 c5] 31)); have x4 := HX4.out.cell 1)
    | (go_at_call 8; have _t := tn; clear tn; refine (HM2.out _ (H4.out.2.2.1.alloc _)).mono ?_; rintro e w5 ⟨q1, v1', v0, v1, v2, v3, A6, m6, c6, A7, m7, c7, rfl, H5⟩; have hz := Blk.new w5 31 [.int .i64 0, .bool false, .int .u64 0, .string .empty, .slice none 0 0, .slice none 0 0]; have i0 := hz.frozen 0; have i1 := hz.frozen 1; have i2 := hz.frozen 2; have i3 := hz.frozen 3; have i4 := hz.frozen 4; have i5 := hz.frozen 5; clear hz; have HX5 := H_ ((H5.out.2.2.1.blk HBX.out fun h => h).alloc (.cells #[.int .i64 v0, .bool v1, .int .u64 v2, .string v3, .slice A6 m6 c6, .slice A7 m7 c7] 31)); have x5 := HX5.out.cell 2)
    | (go_at_call 8; refine (HM3.out _ (H5.out.2.2.1.alloc _)).mono ?_; rintro e w6 ⟨q2, v2', z0, z1, z2, z3, A8, m8, c8, A9, m9, c9, rfl, H6⟩; have hz := Blk.new w6 31 [.int .i64 0, .bool false, .int .u64 0, .string .empty, .slice none 0 0, .slice none 0 0]; have p0 := hz.frozen 0; have p1 := hz.frozen 1; have p2 := hz.frozen 2; have p3 := hz.frozen 3; have p4 := hz.frozen 4; have p5 := hz.frozen 5; clear hz))
  obtain ⟨S0, hS0⟩ : ∃ S : List Value, S = [.int .i64 u0, .bool u1, .int .u64 u2, .string u3, .slice A4 m4 c4, .slice A5 m5 c5] := ⟨_, rfl⟩
  obtain ⟨S1, hS1⟩ : ∃ S : List Value, S = [.int .i64 v0, .bool v1, .int .u64 v2, .string v3, .slice A6 m6 c6, .slice A7 m7 c7] := ⟨_, rfl⟩
  obtain ⟨S2, hS2⟩ : ∃ S : List Value, S = [.int .i64 z0, .bool z1, .int .u64 z2, .string z3, .slice A8 m8 c8, .slice A9 m9 c9] := ⟨_, rfl⟩
  obtain ⟨b4, hb4⟩ : ∃ b, b = w4.heap.size := ⟨_, rfl⟩
  obtain ⟨b8, hb8⟩ : ∃ b, b = w5.heap.size := ⟨_, rfl⟩
  obtain ⟨b12, hb12⟩ : ∃ b, b = w6.heap.size := ⟨_, rfl⟩
  have HST : Hid (ThrSt w (w6.alloc (.cells #[.int .i64 z0, .bool z1, .int .u64 z2, .string z3, .slice A8 m8 c8, .slice A9 m9 c9] 31)) q0 q1 q2 v0' v1' v2' jo jx jy b4 b8 b12 S0 S1 S2) := H_ (by
    have k6c : Keeps (fun _ => False) w6 (w6.alloc (.cells #[.int .i64 z0, .bool z1, .int .u64 z2, .string z3, .slice A8 m8 c8, .slice A9 m9 c9] 31)) := (Keeps.refl _ w6).alloc _
    have k56 : Keeps (fun _ => False) w5 w6 := ((Keeps.refl _ w5).alloc _).trans H6.out.2.2.2 fun _ _ h => h
    have k45 : Keeps (fun _ => False) w4 w5 := ((Keeps.refl _ w4).alloc _).trans H5.out.2.2.2 fun _ _ h => h
    have k5c := k56.trans k6c fun _ _ h => h
    have k4c := k45.trans k5c fun _ _ h => h
    refine ⟨(HK0.out.trans H4.out.2.2.1 fun _ _ h => h).trans k4c fun _ _ h => h, H4.out.1.stay k4c, H5.out.1.stay k5c, H6.out.1.stay k6c, ?_, ?_, ?_, ?_, ?_, ?_⟩
    · rw [hS0]; exact H4.out.2.1.stay k4c
    · rw [hS1]; exact H5.out.2.1.stay k5c
    · rw [hS2]; exact H6.out.2.1.stay k6c
    · rw [hb4, hS0]; exact ((H5.out.2.2.2.trans k5c fun _ _ h => h).blk (Blk.new w4 _ _) (fun h => h))
    · rw [hb8, hS1]; exact ((H6.out.2.2.2.trans k6c fun _ _ h => h).blk (Blk.new w5 _ _) (fun h => h))
    rw [hb12, hS2]; exact Blk.new w6 _ _)
  rw [← hb4, ← hb8, ← hb12]
  refine gen_codeF (fun W => ThrSt w W q0 q1 q2 v0' v1' v2' jo jx jy b4 b8 b12 S0 S1 S2) HST.out ?_
  intro w9 hst
  have HS := H_ hst
  clear hst HST hS0 hS1 hS2 hb4 hb8 hb12 HB1 HB2 HB3 HM1 HM2 HM3 HL1 HL2 HL3 HX1 HX2 HX3 HX4 HX5 H4 H5 H6 f0 f1 f2 f3 f4 f5 i0 i1 i2 i3 i4 i5 p0 p1 p2 p3 p4 p5 x0 x1 x2 x3 x4 x5 HBX HK0 HL0
  have HV0 := H_ (infoVal6 HS.out.r0.len)
  have HV1 := H_ (infoVal6 HS.out.r1.len)
  have HV2 := H_ (infoVal6 HS.out.r2.len)
  have HL6 : Hid (∀ {v : List Value}, v.length = 6 → (Tryz.prog.info? 31).map (·.size) = some v.length) := H_ fun h => infoVal6 h
  obtain ⟨z, hz⟩ := three_is (some jo) jx jy []
  obtain ⟨xs, hxs⟩ : ∃ xs, xs = (three (some jo) (some jx) (some jy) []).2 := ⟨_, rfl⟩
  have hthr : three (some jo) (some jx) (some jy) [] = (some z, xs) := by rw [hxs, ← hz]
  obtain ⟨z2, hz2⟩ := three_is (some jo) jy jx []
  have hturn := three_turned (some jx) (OOk.one HJ.out.2.1) (some jo) (some jy) (OOk.one HJ.out.1) (OOk.one HJ.out.2.2.1) []
  rw [hthr] at hturn
  have hthr2 : three (some jo) (some jy) (some jx) [] = (some z2, xs) := Prod.ext hz2 hturn.1
  have hzz : xs = [] → z2 = z := fun h => by
    have h1 := hturn.2 h
    rw [hthr2] at h1
    injection h1
  have hzok : JOk z := three_ok (some jx) (OOk.one HJ.out.2.1) (some jo) (some jy) (OOk.one HJ.out.1) (OOk.one HJ.out.2.2.1) [] z hz
  have hzw : ow JV.nodes (some z) ≤ ow JV.nodes (some jx) + ow JV.nodes (some jy) ∧ ow JV.bytes (some z) ≤ ow JV.bytes (some jx) + ow JV.bytes (some jy) := ⟨by rw [← hz]; exact three_weight weight_nodes _ (OOk.one HJ.out.2.1) _ _ (OOk.one HJ.out.1) (OOk.one HJ.out.2.2.1) _, by rw [← hz]; exact three_weight weight_bytes _ (OOk.one HJ.out.2.1) _ _ (OOk.one HJ.out.1) (OOk.one HJ.out.2.2.1) _⟩
  have hzs : SmallJ z := by
    have h1 : z.nodes ≤ jx.nodes + jy.nodes := hzw.1
    have h2 : z.bytes ≤ jx.bytes + jy.bytes := hzw.2
    have hwx := HJ.out.2.2.2.2.1
    have hwy := HJ.out.2.2.2.2.2.1
    have := hwx.1; have := hwx.2.1; have := hwy.1; have := hwy.2.1
    exact small_of (by omega) (by omega)
  have HZN : Hid (z.nodes ≤ 1048576) := H_ (by
    have h1 : z.nodes ≤ jx.nodes + jy.nodes := hzw.1
    have := HJ.out.2.2.2.2.1.1; have := HJ.out.2.2.2.2.2.1.1
    omega)
  have hfew := three_few (some jx) (OOk.one HJ.out.2.1) (some jo) (some jy) (OOk.one HJ.out.1) (OOk.one HJ.out.2.2.1) []
  rw [hthr] at hfew
  have HXN : Hid (xs.length ≤ 131072) := H_ (by
    have h1 : xs.length ≤ jx.nodes + jy.nodes := hfew
    have := HJ.out.2.2.2.2.1.1; have := HJ.out.2.2.2.2.2.1.1
    omega)
  have HZ := H_ (And.intro hthr (And.intro hthr2 (And.intro hzz (And.intro hzok hzs))))
  have HMX : Hid (∀ W, Keeps (fun _ => False) w9 W → MaxAt W) := H_ fun W hW => HJ.out.2.2.2.2.2.2.stay ((HS.out.stay hW).keep)
  have HRT : Hid (∀ W, Keeps (fun _ => False) w9 W → Calls Tryz.prog 10 #[.agg S0.toArray, .agg S1.toArray, .agg S2.toArray, .slice none 0 0] W fun e w' => ∃ R A n c, e = .returned (.tuple #[.agg R.toArray, .slice A n c]) ∧ n = xs.length ∧ Hid (RAt (fun _ => True) w' R z ∧ Rd w' A n (xs.map .string) ∧ Keeps (fun _ => False) W w')) := H_ fun W hW => by
    have hs := HS.out.stay hW
    have hjw := HJ.out.2.2.2
    refine (rth_any (some jx) (OOk.one HJ.out.2.1) 0 (D := fun i => i < W.heap.size) (o := some jo) (y := some jy) (Wa := none) (wn := 0) (way := []) ⟨hs.r0.mono fun i _ h => h, hs.r1.mono fun i _ h => h, hs.r2.mono fun i _ h => h, OOk.one HJ.out.1, OOk.one HJ.out.2.1, OOk.one HJ.out.2.2.1, fun i h => h, ⟨rfl, fun h => absurd h (Nat.lt_irrefl 0)⟩, rfl, fun s hs => absurd hs List.not_mem_nil, ?_, fun j e => by injection e with e; rw [← e]; exact ⟨hjw.1.1, hjw.1.2.1⟩, fun j e => by injection e with e; rw [← e]; exact ⟨hjw.2.1.1, hjw.2.1.2.1⟩, fun j e => by injection e with e; rw [← e]; exact ⟨hjw.2.2.1.1, hjw.2.2.1.2.1⟩⟩).mono ?_
    · show 0 + jx.deep ≤ 65536
      have := hjw.2.1.2.2
      omega
    rintro e w' ⟨R, A, n, c, he, hr, hrd, hl, _, hk⟩
    rw [HZ.out.1] at hr hrd hl
    exact ⟨R, A, n, c, he, hl.symm, H_ ⟨(hr : RAt _ w' R z).mono fun _ _ _ => trivial, hrd, hk⟩⟩
  have HIS : Hid (∀ W q v rv x, TreeAt (fun _ => True) W q v x → RAt (fun _ => True) W rv x → JOk x → x.within → Calls Tryz.prog 13 #[.pointer (some ⟨q, 0, none⟩), .agg rv.toArray] W fun e w' => e = .returned (.bool true) ∧ Hid (Keeps (fun _ => False) W w')) := H_ fun W q v rv x ht hr hx hw => (is_same W q v rv x ht hr hx (Nat.le_trans hw.1 (by decide))).mono fun e w' h => ⟨h.1, H_ h.2⟩
  have HWI : Hid (∀ W R, RAt (fun _ => True) W R z → Calls Tryz.prog 11 #[.agg R.toArray] W fun e w' => e = .returned (.bool (decide z.within)) ∧ Hid (Keeps (fun _ => False) W w')) := H_ fun W R hR => (rwithin_any W R z hR HZ.out.2.2.2.2 HZ.out.2.2.2.1).mono fun e w' h => ⟨h.1, H_ h.2⟩
  have HER := H_ (fun W => errno_three W)
  clear hz hxs hthr hz2 hturn hthr2 hzz hzok hzw hzs hfew
  have tk : True := trivial
  have tl : True := trivial
  have tm : True := trivial
  have tn : True := trivial
  have tp : True := trivial
  have tq : True := trivial
  have tr : True := trivial
  have ts : True := trivial
  have tt : True := trivial
  by_cases hwz : z.within
  · have hdec : decide z.within = true := decide_eq_true hwz
    have tl2 : True := trivial
    have tm2 : True := trivial
    have tn2 : True := trivial
    have tp2 : True := trivial
    have tq2 : True := trivial
    have HSA : Hid (∀ W qa va qb vb, xs = [] → TreeAt (fun _ => True) W qa va z2 → TreeAt (fun _ => True) W qb vb z → Calls Tryz.prog 15 #[.pointer (some ⟨qa, 0, none⟩), .pointer (some ⟨qb, 0, none⟩)] W fun e w' => e = .returned (.bool true) ∧ Hid (Keeps (fun _ => False) W w')) := H_ fun W qa va qb vb hx ha hb => by
      have e2 : z2 = z := HZ.out.2.2.1 hx
      rw [e2] at ha
      obtain ⟨b, hb1, hb2⟩ := tsame_any (slim_of z HZ.out.2.2.2.1 HZN.out) ha hb
      refine (hb2 W (Keeps.refl _ _)).mono ?_
      rintro e w' ⟨he, hk⟩
      exact ⟨by rw [he, hb1.2 rfl], H_ hk⟩
    go_upto_region 16 with (first
      | (go_at_call 9; have _t := tk; clear tk; refine (three_fits HS.out.t0 HS.out.t1 HS.out.t2 HJ.out.1 HJ.out.2.1 HJ.out.2.2.1 HJ.out.2.2.2.1 HJ.out.2.2.2.2.1 HJ.out.2.2.2.2.2.1 (HMX.out _ (Keeps.refl _ _)) HZ.out.1 hwz).mono ?_; rintro e wa ⟨qm, vm, Am, nm, cm, rfl, rfl, Ha⟩; have Ka := H_ Ha.out.2.2)
      | ((with_reducible show wpList _ _ _ (⟨some 105, _, _, _, _, _⟩ :: _) _ _); refine wpList_load_whole rfl 31 _ rfl _ rfl (HS.out.stay Ka.out).k0 Tryz.underlying31 rfl HV0.out ?_)
      | ((with_reducible show wpList _ _ _ (⟨some 106, _, _, _, _, _⟩ :: _) _ _); refine wpList_load_whole rfl 31 _ rfl _ rfl (HS.out.stay Ka.out).k1 Tryz.underlying31 rfl HV1.out ?_)
      | ((with_reducible show wpList _ _ _ (⟨some 107, _, _, _, _, _⟩ :: _) _ _); refine wpList_load_whole rfl 31 _ rfl _ rfl (HS.out.stay Ka.out).k2 Tryz.underlying31 rfl HV2.out ?_)
      | (go_at_call 10; refine (HRT.out _ Ka.out).mono ?_; rintro e wb ⟨R, Al, nl, cl, rfl, rfl, Hb⟩)
      | ((with_reducible show wpList _ _ _ (⟨none, Op.store 31 _ (.tmp 109), _, _, _, _⟩ :: _) _ _); refine wpList_store_whole rfl 31 _ _ rfl R rfl rfl (Blk.new wb 31 [.int .i64 0, .bool false, .int .u64 0, .string .empty, .slice none 0 0, .slice none 0 0]) (by rw [Hb.out.1.len]; rfl) (HL6.out Hb.out.1.len) Hb.out.1.one ?_; have Kc : Hid (Keeps (fun _ => False) wb ((wb.alloc (.cells #[.int .i64 0, .bool false, .int .u64 0, .string .empty, .slice none 0 0, .slice none 0 0] 31)).setRow wb.heap.size R.toArray)) := H_ (((Keeps.refl _ wb).alloc _).trans (setRow_keep _ _ _) fun i hi e => by omega); have Kc9 := H_ ((Ka.out.trans Hb.out.2.2 fun _ _ h => h).trans Kc.out fun _ _ h => h); have HBK := H_ ((Blk.new wb 31 [.int .i64 0, .bool false, .int .u64 0, .string .empty, .slice none 0 0, .slice none 0 0]).setRow R); have HTM := H_ ((Ha.out.1.stay Hb.out.2.2).stay Kc.out); have HRM := H_ ((Ha.out.2.1.keep Hb.out.2.2 fun _ _ _ h => h).keep Kc.out fun _ _ _ h => h); have HRA := H_ (Hb.out.1.stay Kc.out); have HRL := H_ (Hb.out.2.1.keep Kc.out fun _ _ _ h => h))
      | ((with_reducible show wpList _ _ _ (⟨some 111, _, _, _, _, _⟩ :: _) _ _); refine wpList_load_whole rfl 31 _ rfl _ rfl HBK.out Tryz.underlying31 rfl (HL6.out HRA.out.len) ?_)
      | (go_at_call 11; refine (HWI.out _ R HRA.out).mono ?_; rintro e wd ⟨rfl, Hd⟩; rw [hdec]; have Kd9 := H_ (Kc9.out.trans Hd.out fun _ _ h => h); have HBK2 := H_ (Hd.out.blk HBK.out fun h => h))
      | ((with_reducible show wpList _ _ _ (⟨some 129, _, _, _, _, _⟩ :: _) _ _); refine wpList_load_whole_g (by kernel_rfl) 31 _ rfl _ rfl HBK2.out Tryz.underlying31 rfl (HL6.out HRA.out.len) ?_)
      | (go_at_call 13; have _t := tl; clear tl; refine (HIS.out _ qm vm R z (HTM.out.stay Hd.out) (HRA.out.stay Hd.out) HZ.out.2.2.2.1 hwz).mono ?_; rintro e we ⟨rfl, He⟩; have Ke := H_ (Hd.out.trans He.out fun _ _ h => h))
      | (go_at_call 14; have _t := tm; clear tm; refine (texts_same _ Am xs.length cm Al cl xs (HRM.out.keep Ke.out fun _ _ _ h => h) (HRL.out.keep Ke.out fun _ _ _ h => h) (by have := HXN.out; omega)).mono ?_; rintro e wf ⟨rfl, hf⟩; have Kf := H_ (Ke.out.trans hf fun _ _ h => h); have Kf9 := H_ (Kc9.out.trans Kf.out fun _ _ h => h); clear hf)
      )
    have HBA : Hid (∀ W, Keeps (fun _ => False) w9 W → Calls Tryz.prog 9 #[.pointer (some ⟨q0, 0, none⟩), .pointer (some ⟨q2, 0, none⟩), .pointer (some ⟨q1, 0, none⟩)] W fun e w' => ∃ p s nb c x, e = .returned (.tuple #[p, .slice s nb c, x]) ∧ Hid (((∃ q v, p = .pointer (some ⟨q, 0, none⟩) ∧ x = .nilIface ∧ nb = xs.length ∧ TreeAt (fun _ => True) w' q v z2 ∧ Rd w' s nb (xs.map .string)) ∨ (p = .pointer none ∧ x = errE 3)) ∧ Keeps (fun _ => False) W w')) := H_ fun W hW => by
      have hs := HS.out.stay hW
      by_cases hw2 : z2.within
      · refine (three_fits hs.t0 hs.t2 hs.t1 HJ.out.1 HJ.out.2.2.1 HJ.out.2.1 HJ.out.2.2.2.1 HJ.out.2.2.2.2.2.1 HJ.out.2.2.2.2.1 (HMX.out _ hW) HZ.out.2.1 hw2).mono ?_
        rintro e w' ⟨q, v, s, nb, c, he, hn, hg⟩
        exact ⟨_, s, nb, c, _, he, H_ ⟨.inl ⟨q, v, rfl, rfl, hn, hg.out.1, by rw [hn]; rw [hn] at *; exact hg.out.2.1⟩, hg.out.2.2⟩⟩
      refine (three_not hs.t0 hs.t2 hs.t1 HJ.out.1 HJ.out.2.2.1 HJ.out.2.1 HJ.out.2.2.2.1 HJ.out.2.2.2.2.2.1 HJ.out.2.2.2.2.1 (HMX.out _ hW) HZ.out.2.1 hw2).mono ?_
      rintro e w' ⟨he, hg⟩
      exact ⟨_, none, 0, 0, _, he, H_ ⟨.inr ⟨rfl, rfl⟩, hg.out⟩⟩
    go_upto_region 17 with (go_at_call 9; refine (HBA.out _ Kf9.out).mono ?_; rintro e wg ⟨pb, Ab, nb, cb, xb, rfl, Hg⟩; have Kg := H_ (Kf.out.trans Hg.out.2 fun _ _ h => h); have Kg9 := H_ (Kf9.out.trans Hg.out.2 fun _ _ h => h))
    go_cut [165] (fun t wx => t = .bool false ∧ Hid (Keeps (fun _ => False) wg wx))
    case first =>
      rcases Hg.out.1 with ⟨qb, vb, rfl, rfl, rfl, htb, hrb⟩ | ⟨rfl, rfl⟩
      · have HTB := H_ htb
        have HRB := H_ hrb
        clear htb hrb
        by_cases hx0 : xs.length = 0
        · have hxs : xs = [] := List.eq_nil_of_length_eq_zero hx0
          have HX0 := H_ hxs
          have hxn : (xs.length : Int) = 0 := by omega
          clear hxs hx0
          go_wp2_with (first
            | (go_at_call 14; refine (texts_same _ Ab xs.length cb Al cl xs HRB.out (HRL.out.keep Kg.out fun _ _ _ h => h) (by have := HXN.out; omega)).mono ?_; rintro e wh ⟨rfl, hh⟩; have Kh := H_ hh; clear hh)
            | (go_at_call 15; refine (HSA.out _ qb vb qm vm HX0.out (HTB.out.stay Kh.out) ((HTM.out.stay Kg.out).stay Kh.out)).mono ?_; rintro e wi ⟨rfl, hi⟩; have Ki := H_ (Kh.out.trans hi.out fun _ _ h => h); clear hi))
          go_meet
          exact ⟨rfl, H_ Ki.out⟩
        have hxn : ((xs.length : Int) == 0) = false := beq_eq_false_iff_ne.2 (by omega)
        have hxm : ¬ ((xs.length : Int) = 0) := by omega
        go_wp2_with (go_at_call 14; refine (texts_same _ Ab xs.length cb Al cl xs HRB.out (HRL.out.keep Kg.out fun _ _ _ h => h) (by have := HXN.out; omega)).mono ?_; rintro e wh ⟨rfl, hh⟩; have Kh := H_ hh; clear hh)
        go_meet
        exact ⟨rfl, H_ Kh.out⟩
      unfold errE
      go_wp2
      go_meet
      exact ⟨rfl, H_ (Keeps.refl _ _)⟩
    case rest =>
      obtain ⟨rfl, hcw⟩ := hcut
      obtain ⟨wi, hwi⟩ : ∃ W, W = wc := ⟨_, rfl⟩
      subst hwi
      have Ki9 := H_ (Kg9.out.trans hcw.out fun _ _ h => h)
      go_upto_region 22 with (first
        | (go_at_call 9; have _t := tp; clear tp; refine (three_fits (HS.out.stay Ki9.out).t0 (HS.out.stay Ki9.out).t1 (HS.out.stay Ki9.out).t0 HJ.out.1 HJ.out.2.1 HJ.out.1 HJ.out.2.2.2.1 HJ.out.2.2.2.2.1 HJ.out.2.2.2.1 (HMX.out _ Ki9.out) (three_left jo jx) HJ.out.2.2.2.2.1).mono ?_; rintro e wj ⟨qj, vj, Aj, nj, cj, rfl, rfl, Hj⟩; have Kj9 := H_ (Ki9.out.trans Hj.out.2.2 fun _ _ h => h))
        | (go_at_call 9; have _t := tq; clear tq; refine (three_fits (HS.out.stay Kj9.out).t0 (HS.out.stay Kj9.out).t0 (HS.out.stay Kj9.out).t2 HJ.out.1 HJ.out.1 HJ.out.2.2.1 HJ.out.2.2.2.1 HJ.out.2.2.2.1 HJ.out.2.2.2.2.2.1 (HMX.out _ Kj9.out) (three_right jo jy) HJ.out.2.2.2.2.2.1).mono ?_; rintro e wk ⟨qk, vk, Ak, nk, ck, rfl, rfl, Hk⟩; have Kk9 := H_ (Kj9.out.trans Hk.out.2.2 fun _ _ h => h); have HTj := H_ (Hj.out.1.stay Hk.out.2.2))
        | (go_at_call 9; refine (three_fits (HS.out.stay Kk9.out).t0 (HS.out.stay Kk9.out).t1 (HS.out.stay Kk9.out).t1 HJ.out.1 HJ.out.2.1 HJ.out.2.1 HJ.out.2.2.2.1 HJ.out.2.2.2.2.1 HJ.out.2.2.2.2.1 (HMX.out _ Kk9.out) (three_twice jo jx) HJ.out.2.2.2.2.1).mono ?_; rintro e wl ⟨ql, vl, An, nn, cn, rfl, rfl, Hl⟩; have Kl9 := H_ (Kk9.out.trans Hl.out.2.2 fun _ _ h => h); have HTj2 := H_ (HTj.out.stay Hl.out.2.2); have HTk := H_ (Hk.out.1.stay Hl.out.2.2); have HTl := H_ Hl.out.1; have KL := H_ (Keeps.refl (fun _ => False) wl))
        )
      go_wp2_with (first
        | ((with_reducible show wpList _ _ _ (⟨some 213, _, _, _, _, _⟩ :: _) _ _); refine wpList_load_whole_g (by kernel_rfl) 31 _ rfl _ rfl (HS.out.stay Kl9.out).k1 Tryz.underlying31 rfl HV1.out ?_)
        | (go_at_call 13; have _t := tl2; clear tl2; refine (HIS.out _ qj vj S1 jx (HTj2.out.stay KL.out) (HS.out.stay Kl9.out).r1 HJ.out.2.1 HJ.out.2.2.2.2.1).mono ?_; rintro e wx0 ⟨rfl, hx1⟩; have Kx0 := H_ (Kl9.out.trans hx1.out fun _ _ h => h); have Ky0 := H_ (KL.out.trans hx1.out fun _ _ h => h))
        | ((with_reducible show wpList _ _ _ (⟨some 218, _, _, _, _, _⟩ :: _) _ _); refine wpList_load_whole_g (by kernel_rfl) 31 _ rfl _ rfl (HS.out.stay Kx0.out).k2 Tryz.underlying31 rfl HV2.out ?_)
        | (go_at_call 13; have _t := tm2; clear tm2; refine (HIS.out _ qk vk S2 jy (HTk.out.stay Ky0.out) (HS.out.stay Kx0.out).r2 HJ.out.2.2.1 HJ.out.2.2.2.2.2.1).mono ?_; rintro e wx1 ⟨rfl, hx2⟩; have Kx1 := H_ (Kx0.out.trans hx2.out fun _ _ h => h); have Ky1 := H_ (Ky0.out.trans hx2.out fun _ _ h => h))
        | ((with_reducible show wpList _ _ _ (⟨some 223, _, _, _, _, _⟩ :: _) _ _); refine wpList_load_whole_g (by kernel_rfl) 31 _ rfl _ rfl (HS.out.stay Kx1.out).k1 Tryz.underlying31 rfl HV1.out ?_)
        | (go_at_call 13; have _t := tn2; clear tn2; refine (HIS.out _ ql vl S1 jx (HTl.out.stay Ky1.out) (HS.out.stay Kx1.out).r1 HJ.out.2.1 HJ.out.2.2.2.2.1).mono ?_; rintro e wx2 ⟨rfl, hx3⟩; have Kx2 := H_ (Kx1.out.trans hx3.out fun _ _ h => h); have Ky2 := H_ (Ky1.out.trans hx3.out fun _ _ h => h))
        | ((with_reducible show wpList _ _ _ (⟨some 228, _, _, _, _, _⟩ :: _) _ _); refine wpList_load_whole_g (by kernel_rfl) 31 _ rfl _ rfl (HS.out.stay Kx2.out).k0 Tryz.underlying31 rfl HV0.out ?_)
        | (go_at_call 13; have _t := tp2; clear tp2; refine (HIS.out _ q0 v0' S0 jo (HS.out.stay Kx2.out).t0 (HS.out.stay Kx2.out).r0 HJ.out.1 HJ.out.2.2.2.1).mono ?_; rintro e wx3 ⟨rfl, hx4⟩; have Kx3 := H_ (Kx2.out.trans hx4.out fun _ _ h => h); have Ky3 := H_ (Ky2.out.trans hx4.out fun _ _ h => h))
        | ((with_reducible show wpList _ _ _ (⟨some 233, _, _, _, _, _⟩ :: _) _ _); refine wpList_load_whole_g (by kernel_rfl) 31 _ rfl _ rfl (HS.out.stay Kx3.out).k1 Tryz.underlying31 rfl HV1.out ?_)
        | (go_at_call 13; have _t := tq2; clear tq2; refine (HIS.out _ q1 v1' S1 jx (HS.out.stay Kx3.out).t1 (HS.out.stay Kx3.out).r1 HJ.out.2.1 HJ.out.2.2.2.2.1).mono ?_; rintro e wx4 ⟨rfl, hx5⟩; have Kx4 := H_ (Kx3.out.trans hx5.out fun _ _ h => h); have Ky4 := H_ (Ky3.out.trans hx5.out fun _ _ h => h))
        | ((with_reducible show wpList _ _ _ (⟨some 238, _, _, _, _, _⟩ :: _) _ _); refine wpList_load_whole_g (by kernel_rfl) 31 _ rfl _ rfl (HS.out.stay Kx4.out).k2 Tryz.underlying31 rfl HV2.out ?_)
        | (go_at_call 13; refine (HIS.out _ q2 v2' S2 jy (HS.out.stay Kx4.out).t2 (HS.out.stay Kx4.out).r2 HJ.out.2.2.1 HJ.out.2.2.2.2.2.1).mono ?_; rintro e wx5 ⟨rfl, hx6⟩; have Kx5 := H_ (Kx4.out.trans hx6.out fun _ _ h => h); have Ky5 := H_ (Ky4.out.trans hx6.out fun _ _ h => h))
        )
      go_ret
      exact ⟨rfl, HS.out.keep.trans Kx5.out fun _ _ h => h⟩
  have hdec : decide z.within = false := decide_eq_false hwz
  go_wp2_with (first
    | (go_at_call 9; have _t := tk; clear tk; refine (three_not HS.out.t0 HS.out.t1 HS.out.t2 HJ.out.1 HJ.out.2.1 HJ.out.2.2.1 HJ.out.2.2.2.1 HJ.out.2.2.2.2.1 HJ.out.2.2.2.2.2.1 (HMX.out _ (Keeps.refl _ _)) HZ.out.1 hwz).mono ?_; rintro e wa ⟨rfl, ha⟩; unfold errE; have Ka := H_ ha.out; clear ha)
    | ((with_reducible show wpList _ _ _ (⟨some 105, _, _, _, _, _⟩ :: _) _ _); refine wpList_load_whole rfl 31 _ rfl _ rfl (HS.out.stay Ka.out).k0 Tryz.underlying31 rfl HV0.out ?_)
    | ((with_reducible show wpList _ _ _ (⟨some 106, _, _, _, _, _⟩ :: _) _ _); refine wpList_load_whole rfl 31 _ rfl _ rfl (HS.out.stay Ka.out).k1 Tryz.underlying31 rfl HV1.out ?_)
    | ((with_reducible show wpList _ _ _ (⟨some 107, _, _, _, _, _⟩ :: _) _ _); refine wpList_load_whole rfl 31 _ rfl _ rfl (HS.out.stay Ka.out).k2 Tryz.underlying31 rfl HV2.out ?_)
    | (go_at_call 10; refine (HRT.out _ Ka.out).mono ?_; rintro e wb ⟨R, Al, nl, cl, rfl, rfl, Hb⟩)
    | ((with_reducible show wpList _ _ _ (⟨none, Op.store 31 _ (.tmp 109), _, _, _, _⟩ :: _) _ _); refine wpList_store_whole rfl 31 _ _ rfl R rfl rfl (Blk.new wb 31 [.int .i64 0, .bool false, .int .u64 0, .string .empty, .slice none 0 0, .slice none 0 0]) (by rw [Hb.out.1.len]; rfl) (HL6.out Hb.out.1.len) Hb.out.1.one ?_; have Kc : Hid (Keeps (fun _ => False) wb ((wb.alloc (.cells #[.int .i64 0, .bool false, .int .u64 0, .string .empty, .slice none 0 0, .slice none 0 0] 31)).setRow wb.heap.size R.toArray)) := H_ (((Keeps.refl _ wb).alloc _).trans (setRow_keep _ _ _) fun i hi e => by omega); have Kc9 := H_ ((Ka.out.trans Hb.out.2.2 fun _ _ h => h).trans Kc.out fun _ _ h => h); have HBK := H_ ((Blk.new wb 31 [.int .i64 0, .bool false, .int .u64 0, .string .empty, .slice none 0 0, .slice none 0 0]).setRow R); have HRA := H_ (Hb.out.1.stay Kc.out))
    | ((with_reducible show wpList _ _ _ (⟨some 111, _, _, _, _, _⟩ :: _) _ _); refine wpList_load_whole rfl 31 _ rfl _ rfl HBK.out Tryz.underlying31 rfl (HL6.out HRA.out.len) ?_)
    | (go_at_call 11; refine (HWI.out _ R HRA.out).mono ?_; rintro e wd ⟨rfl, Hd⟩; rw [hdec]; have Kd9 := H_ (Kc9.out.trans Hd.out fun _ _ h => h))
    | (go_at_call 12; refine (HER.out _).mono ?_; rintro e wq ⟨rfl, rfl⟩)
    )
  go_ret
  exact ⟨rfl, HS.out.keep.trans Kd9.out fun _ _ h => h⟩
theorem thr_any (w : World) (A : Option Addr) (n c : Nat) (B : Option Addr) (m d : Nat) (C : Option Addr) (k g : Nat) (css dss ess : List (List Value)) (l1 l2 l3 : List StepV) (hS : StepsIn w A n css l1) (hM : Modest l1) (hT : StepsIn w B m dss l2) (hN : Modest l2) (hU : StepsIn w C k ess l3) (hO : Modest l3) (hmax : MaxAt w) :
    Calls Tryz.prog 3 #[.agg #[.slice A n c, .slice B m d, .slice C k g]] w fun e w' => e = .returned (.bool true) ∧ Keeps (fun _ => False) w w' := by
  obtain ⟨w0, hw0⟩ : ∃ W, W = (w.alloc (.cells #[.slice A n c, .slice B m d, .slice C k g] 24)) := ⟨_, rfl⟩
  have k0 : Keeps (fun _ => False) w w0 := by rw [hw0]; exact (Keeps.refl _ w).alloc _
  have one : ∀ {A : Option Addr} {n : Nat} {css : List (List Value)} {l : List StepV} (c : Nat), StepsIn w A n css l → Modest l → (∃ j, buildF l = .inr j ∧ MadeOne w0 A n c j) ∨ MadeAny w0 A n c false := fun c hS hM => by
    rename_i l
    cases h : buildF l with
    | inl er => exact .inr (made_bad (hS.stay k0) hM h)
    | inr j => exact .inl ⟨j, rfl, made_good (hS.stay k0) hM h⟩
  have any : ∀ {A : Option Addr} {n : Nat} {css : List (List Value)} {l : List StepV} (c : Nat), StepsIn w A n css l → Modest l → ∃ o, MadeAny w0 A n c o ∧ (o = true → ∃ j, buildF l = .inr j ∧ MadeOne w0 A n c j) := fun c hS hM => by
    rcases one c hS hM with ⟨j, hb, hj⟩ | hb
    · exact ⟨true, hj.any, fun _ => ⟨j, hb, hj⟩⟩
    exact ⟨false, hb, fun e => by cases e⟩
  obtain ⟨o1, a1, g1⟩ := any c hS hM
  obtain ⟨o2, a2, g2⟩ := any d hT hN
  obtain ⟨o3, a3, g3⟩ := any g hU hO
  subst hw0
  by_cases ho : (o1 && o2 && o3) = false
  · exact thr_bad w A n c B m d C k g css dss ess l1 l2 l3 hS hM hT hN hU hO o1 o2 o3 a1 a2 a3 ho
  have ht : o1 = true ∧ o2 = true ∧ o3 = true := by cases o1 <;> cases o2 <;> cases o3 <;> simp_all
  obtain ⟨jo, b1, m1⟩ := g1 ht.1
  obtain ⟨jx, b2, m2⟩ := g2 ht.2.1
  obtain ⟨jy, b3, m3⟩ := g3 ht.2.2
  exact thr_ok w A n c B m d C k g css dss ess l1 l2 l3 hS hM hT hN hU hO hmax jo jx jy m1 m2 m3 (buildF_ok b1).1 (buildF_ok b2).1 (buildF_ok b3).1 (buildF_ok b1).2 (buildF_ok b2).2 (buildF_ok b3).2
end Go.Proofs.YtdmcioghdindfaaGreatDoor
namespace Go.Aff
open Go Go.RowKit Go.ChangeShapes Go.WideShapes
section
variable {H : Type} {enc : TypeId × Value → H} {P : Program}
theorem trodAll_stays (hl : laidOutB P = true) {W W' : World} {sp : Nat → Bool} : ∀ {ts : List TypeId} {vs : List Value} {ds : List (DataW H)} {ps : List MemPlace}, (∀ t ∈ ts, P.readableRec t = true ∧ t < P.types.size) →
  DataW.TrodAll enc P W 0 (fun _ => true) true ts vs ds ps → (∀ p ∈ ps, W.sameAt W' p) → (∀ p ∈ ps, sp p.block = true) → DataW.TrodAll enc P W' 0 sp true ts vs ds ps
 | [], [], [], _, _, h, _, _ => h
 | t :: ts, v :: vs, d :: ds, ps, ht, h, hs, hp => by
  obtain ⟨p, q, h1, h2, rfl⟩ := h
  exact ⟨p, q, WideElems.Trod_stays hl (ht t (by simp)).1 (ht t (by simp)).2 h1 (fun x hx => hs x (by simp [hx])) (fun x hx => hp x (by simp [hx])),
   trodAll_stays hl (fun u hu => ht u (by simp [hu])) h2 (fun x hx => hs x (by simp [hx])) (fun x hx => hp x (by simp [hx])), rfl⟩
 | [], _ :: _, _, _, _, h, _, _ => h.elim
 | [], [], _ :: _, _, _, h, _, _ => h.elim
 | _ :: _, [], _, _, _, h, _, _ => h.elim
 | _ :: _, _ :: _, [], _, _, h, _, _ => h.elim
theorem law_post {f : Func} {s : ChangeSpec} {apart fresh handsOn again : Bool} {W W' : World} {args : Array Value} {ds gs : List (DataW H)} {before : List MemPlace} {tb : TypeId}
  (hl : laidOutB P = true) (ht : ∀ t ∈ f.params.toList, P.readableRec t = true ∧ t < P.types.size) (hv : s.vars = []) (hrt : f.resultTypes = #[tb]) (htb : P.underlying tb = some .bool)
  (hfn : (s.fn H ds).results = [.lit (.bool true)] ∧ (s.fn H ds).args = ds ∧ (s.fn H ds).vars = [])
  (hW : DataW.Whole enc P f.params.toList s.vars apart W args.toList ds gs before) (hk : Keeps (fun _ => False) W W') : s.post enc P f apart fresh handsOn again W args (.bool true) W' := by
 have hW0 := hW
 obtain ⟨pa, pv, hA, hV, hps, hz, hn⟩ := hW
 rw [hv] at hV
 obtain ⟨rfl, rfl⟩ := trodVars_none hV
 have hb : Below W.heap.size W W' := hk.to_below (fun _ _ h => h)
 have hlt : ∀ p ∈ before, p.block < W.heap.size := fun p hp => hW0.lt p hp
 have hsame : ∀ p ∈ before, W.sameAt W' p := fun p hp => hb.same (hlt p hp)
 rw [List.append_nil] at hps
 subst hps
 have hold : ∀ p ∈ before, (fun b => decide (b < W.heap.size)) p.block = true := fun p hp => by simpa using hlt p hp
 have hres : ∀ (b : Nat) (sp : Nat → Bool) (hd : Bool), DataW.TrodAll enc P W' b sp hd f.resultTypes.toList ((Value.bool true).resultList f.resultTypes.size) (s.fn H (ds ++ [])).results [] := by
  intro b sp hd
  rw [List.append_nil, hfn.1, hrt]
  exact trodAll_cons_mk (shut_bool htb true) trodAll_mk0
 have hargs : ∀ sp : Nat → Bool, (∀ p ∈ before, sp p.block = true) → DataW.TrodAll enc P W' 0 sp true f.params.toList args.toList (s.fn H (ds ++ [])).args before := by
  intro sp hsp
  rw [List.append_nil, hfn.2.1]
  exact trodAll_stays hl ht hA hsame hsp
 have hvars : ∀ sp : Nat → Bool, DataW.TrodVars enc P W' sp s.vars (s.fn H (ds ++ [])).vars [] := by
  intro sp
  rw [List.append_nil, hfn.2.2, hv]
  rfl
 refine ⟨ds, [], before, [], before, [], hW0, hres _ _ _, hargs _ hold, hvars _, hb.frame _, fun _ => ?_⟩
 refine ⟨?_, _, _, ([] ++ before) ++ [], ⟨[] ++ before, [], trodAll_append (hargs _ (fun _ _ => rfl)) (hres _ _ _), hvars _, rfl, ?_, ?_⟩, ?_⟩
 ·exact ok_one hrt rfl (okWide_bool_mk htb true)
 ·intro b off hp
  have hp' : MemPlace.cell b off ∈ before := by simpa using hp
  have : W'.frozen? ⟨b, off, none⟩ = W.frozen? ⟨b, off, none⟩ := by
   unfold World.frozen?
   rw [hb.block b (hlt _ hp')]
  rw [this]
  exact hz b off hp'
 ·intro ha
  simpa using hn ha
 intro p hp _
 simpa using hp
end
section
variable {H : Type} {enc : TypeId × Value → H} {P : Program} {w : World} {base : Nat} {held : Bool}
end
end Go.Aff
