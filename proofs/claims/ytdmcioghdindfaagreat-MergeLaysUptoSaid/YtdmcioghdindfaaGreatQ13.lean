/-
  Texts put together: RUsedW; RSortW.
-/
import Derived.Test.YtdmcioghdindfaaGreatQ10
import Derived.Test.YtdmcioghdindfaaGreatQ12
import Derived.Test.YtdmcioghdindfaaGreatQ03
set_option linter.unusedSimpArgs false
namespace Go.Proofs.YtdmcioghdindfaaGreat
open Go Go.RowKit Go.Aff Go.Json
set_option maxHeartbeats 4000000 in
set_option maxRecDepth 100000 in
theorem rused_walk (w : World) (so : Int) (fl : Bool) (bi : Nat) (tx : ByteArray) (cn : Int) (A : Option Addr) (n c : Nat) (l1 g6 n0 n2 n3 n4 e5 e6 nb te cz nz : Bool)
  (h1 : decide (so < 1) = l1) (h2 : decide (6 < so) = g6) (h3 : decide (0 ≤ cn) = n0) (k2 : (so != 2) = n2) (k3 : (so != 3) = n3) (k4 : (so != 4) = n4) (k5 : (so == 5) = e5) (k6 : (so == 6) = e6)
  (hz : ((bi : Int) != 0) = nb) (he : tx.toList.isEmpty = te) (hc : (cn == 0) = cz) (hn : ((n : Int) == 0) = nz) :
  Calls Tryz.prog 42 #[.agg #[.int .i64 so, .bool fl, .int .u64 bi, .string tx, .int .i64 cn, .slice A n c]] w fun e w' => e = .returned (.bool (!(l1 || g6) && !((n2 && fl) || (n3 && nb) || (n4 && !te)) && (((e5 || cz) && (e6 || nz)) && n0))) ∧ Keeps (fun _ => False) w w' := by
 have hb := Blk.new w 47 [.int .i64 so, .bool fl, .int .u64 bi, .string tx, .int .i64 cn, .slice A n c]
 have c0 := hb.cell 0
 have c1 := hb.cell 1
 have c2 := hb.cell 2
 have c3 := hb.cell 3
 have c4 := hb.cell 4
 have c5 := hb.cell 5
 have HK := Lib.hid ((Keeps.refl (fun _ => False) w).alloc (.cells #[.int .i64 so, .bool fl, .int .u64 bi, .string tx, .int .i64 cn, .slice A n c] 47))
 clear hb
 go_enter Tryz.func42, Tryz.ntmps42
 rcases l1 with _ | _
 ·rcases g6 with _ | _
  ·go_upto_region 3 with fail
   go_cut [1, 37] (fun t u wx => t = .pointer (some ⟨w.heap.size, 0, none⟩) ∧ u = .bool ((n2 && fl) || (n3 && nb) || (n4 && !te)) ∧ wx = w.alloc (.cells #[.int .i64 so, .bool fl, .int .u64 bi, .string tx, .int .i64 cn, .slice A n c] 47))
   case first =>
    clear k5 k6 hc hn h1 h2 h3
    rcases n2 with _ | _
    ·rcases n3 with _ | _
     ·rcases n4 with _ | _
      ·go_wp2
       go_meet
       exact ⟨rfl, rfl, rfl⟩
      ·rcases te with _ | _
       ·go_wp2
        go_meet
        exact ⟨rfl, rfl, rfl⟩
       ·go_wp2
        go_meet
        exact ⟨rfl, rfl, rfl⟩
     ·rcases nb with _ | _
      ·rcases n4 with _ | _
       ·go_wp2
        go_meet
        exact ⟨rfl, rfl, rfl⟩
       ·rcases te with _ | _
        ·go_wp2
         go_meet
         exact ⟨rfl, rfl, rfl⟩
        ·go_wp2
         go_meet
         exact ⟨rfl, rfl, rfl⟩
      ·go_wp2
       go_meet
       exact ⟨rfl, rfl, rfl⟩
    ·rcases fl with _ | _
     ·rcases n3 with _ | _
      ·rcases n4 with _ | _
       ·go_wp2
        go_meet
        exact ⟨rfl, rfl, rfl⟩
       ·rcases te with _ | _
        ·go_wp2
         go_meet
         exact ⟨rfl, rfl, rfl⟩
        ·go_wp2
         go_meet
         exact ⟨rfl, rfl, rfl⟩
      ·rcases nb with _ | _
       ·rcases n4 with _ | _
        ·go_wp2
         go_meet
         exact ⟨rfl, rfl, rfl⟩
        ·rcases te with _ | _
         ·go_wp2
          go_meet
          exact ⟨rfl, rfl, rfl⟩
         ·go_wp2
          go_meet
          exact ⟨rfl, rfl, rfl⟩
       ·go_wp2
        go_meet
        exact ⟨rfl, rfl, rfl⟩
     ·go_wp2
      go_meet
      exact ⟨rfl, rfl, rfl⟩
   case rest =>
    obtain ⟨rfl, rfl, rfl⟩ := hcut
    obtain ⟨x, hx⟩ : ∃ x, x = ((n2 && fl) || (n3 && nb) || (n4 && !te)) := ⟨_, rfl⟩
    rw [← hx]
    have HX := Lib.hid hx
    clear hx k2 k3 k4 hz he h1 h2
    rcases x with _ | _
    rotate_left
    ·go_wp2
     go_ret
     exact ⟨by rw [← HX.out]; rfl, HK.out⟩
    go_upto_region 5 with fail
    rcases e5 with _ | _
    ·rcases cz with _ | _
     ·go_wp2
      go_ret
      exact ⟨by rw [← HX.out]; rfl, HK.out⟩
     ·rcases e6 with _ | _
      ·rcases nz with _ | _
       ·go_wp2
        go_ret
        exact ⟨by rw [← HX.out]; rfl, HK.out⟩
       ·rcases n0 with _ | _
        ·go_wp2
         go_ret
         exact ⟨by rw [← HX.out]; rfl, HK.out⟩
        ·go_wp2
         go_ret
         exact ⟨by rw [← HX.out]; rfl, HK.out⟩
      ·rcases n0 with _ | _
       ·go_wp2
        go_ret
        exact ⟨by rw [← HX.out]; rfl, HK.out⟩
       ·go_wp2
        go_ret
        exact ⟨by rw [← HX.out]; rfl, HK.out⟩
    ·rcases e6 with _ | _
     ·rcases nz with _ | _
      ·go_wp2
       go_ret
       exact ⟨by rw [← HX.out]; rfl, HK.out⟩
      ·rcases n0 with _ | _
       ·go_wp2
        go_ret
        exact ⟨by rw [← HX.out]; rfl, HK.out⟩
       ·go_wp2
        go_ret
        exact ⟨by rw [← HX.out]; rfl, HK.out⟩
     ·rcases n0 with _ | _
      ·go_wp2
       go_ret
       exact ⟨by rw [← HX.out]; rfl, HK.out⟩
      ·go_wp2
       go_ret
       exact ⟨by rw [← HX.out]; rfl, HK.out⟩
  ·go_wp2
   go_ret
   exact ⟨rfl, HK.out⟩
 ·go_wp2
  go_ret
  exact ⟨rfl, HK.out⟩
theorem rused_any (w : World) (s : StepV) (A : Option Addr) (c : Nat) : Calls Tryz.prog 42 #[.agg (stepV s A c).toArray] w fun e w' => e = .returned (.bool (usedF s)) ∧ Keeps (fun _ => False) w w' := by
 obtain ⟨so, fl, bi, tx, cn, ks⟩ := s
 have h := rused_walk w so fl bi tx cn A ks.length c _ _ _ _ _ _ _ _ _ _ _ _ rfl rfl rfl rfl rfl rfl rfl rfl rfl (str_empty tx) rfl rfl
 refine h.mono fun e w' hh => ⟨hh.1.trans ?_, hh.2⟩
 clear h hh
 congr 2
 have hi : ∀ a b : Int, (a == b) = decide (a = b) := fun a b => by rw [Bool.eq_iff_iff]; simp
 have hne : ∀ a b : Int, (a != b) = !decide (a = b) := fun a b => by rw [Bool.eq_iff_iff]; simp
 have h1 : decide ((bi : Int) = 0) = decide (bi = 0) := by simp
 have h2 : decide ((ks.length : Int) = 0) = decide (ks.length = 0) := by rw [Bool.eq_iff_iff]; simp
 have h3 : decide (so < 1) = !decide (1 ≤ so) := by rw [Bool.eq_iff_iff]; simp
 have h4 : decide (6 < so) = !decide (so ≤ 6) := by rw [Bool.eq_iff_iff]; simp
 simp only [usedF, hi, hne, h1, h2, h3, h4]
 generalize decide (1 ≤ so) = a1
 generalize decide (so ≤ 6) = a2
 generalize decide (so = 2) = a3
 generalize decide (so = 3) = a4
 generalize decide (so = 4) = a5
 generalize decide (so = 5) = a6
 generalize decide (so = 6) = a7
 generalize decide (bi = 0) = a8
 generalize decide (tx.size = 0) = a9
 generalize decide (cn = 0) = b1
 generalize decide (ks.length = 0) = b2
 generalize decide (0 ≤ cn) = b3
 cases a1 <;> cases a2 <;> cases a3 <;> cases a4 <;> cases a5 <;> simp <;> (revert fl a6 a7 a8 a9 b1 b2 b3; decide)
theorem bits_low (b : Nat) (hb : b < 18446744073709551616) : bits BinOp.and IntKind.u64 ((b : Int) / 4503599627370496) 2047 = ((b / 4503599627370496 % 2048 : Nat) : Int) := by
 have h1 : (b : Int) / 4503599627370496 = ((b / 4503599627370496 : Nat) : Int) := by omega
 rw [h1]
 generalize hq : b / 4503599627370496 = q
 have hq2 : q < 18446744073709551616 := by omega
 show IntKind.u64.wrap ((BitVec.ofInt 64 (q : Int) &&& BitVec.ofInt 64 2047).toNat : Int) = _
 have h2 : q &&& 2047 = q % 2048 := Nat.and_two_pow_sub_one_eq_mod q 11
 rw [BitVec.toNat_and, BitVec.ofInt_natCast, BitVec.toNat_ofNat, Nat.mod_eq_of_lt (by omega), show (BitVec.ofInt 64 2047).toNat = 2047 from rfl, h2]
 show ((q % 2048 : Nat) : Int) % 18446744073709551616 = _
 omega
set_option maxRecDepth 100000 in
theorem rfinite_any (w : World) (b : Nat) (hb : b < 18446744073709551616) : Calls Tryz.prog 43 #[.int .u64 b] w fun e w' => e = .returned (.bool (finiteF b)) ∧ w' = w := by
 go_enter Tryz.func43, Tryz.ntmps43
 go_wp2
 go_ret
 refine ⟨?_, rfl⟩
 show Ending.returned (.bool (bits BinOp.and IntKind.u64 ((b : Int) / 4503599627370496) 2047 != 2047)) = _
 rw [bits_low b hb]
 unfold finiteF
 congr 2
 rw [Bool.eq_iff_iff]
 simp
 omega
def numV (b : Nat) : Nat := if b = 9223372036854775808 then 0 else b
set_option maxHeartbeats 4000000 in
set_option maxRecDepth 100000 in
theorem rnum_any (w : World) (b : Nat) : Calls Tryz.prog 47 #[.int .u64 b] w fun e w' => e = .returned (.agg (refC (.num (numV b)) none 0 none 0).toArray) ∧ Keeps (fun _ => False) w w' := by
 have hb := Blk.new w 29 [.int .i64 0, .bool false, .int .u64 0, .string .empty, .slice none 0 0, .slice none 0 0]
 have f0 := hb.frozen 0
 have f1 := hb.frozen 1
 have f2 := hb.frozen 2
 have f3 := hb.frozen 3
 have f4 := hb.frozen 4
 have f5 := hb.frozen 5
 have HK := Lib.hid fun vs => (Keeps.refl (fun _ => False) w).alloc (.cells vs 29)
 have HR := Lib.hid fun vs => Blk.new w 29 vs
 clear hb
 by_cases h : b = 9223372036854775808
 ·subst h
  go_enter Tryz.func47, Tryz.ntmps47
  go_wp2
  exact bodyPost_ret (results_blk rfl _ _ rfl (HR.out _) Tryz.underlying29 rfl (by kernel_rfl)) rfl ⟨rfl, HK.out _⟩
 ·have hne : ((b : Int) == 9223372036854775808) = false := by simp; omega
  have HF : Hid (numV b = b) := Lib.hid (if_neg h)
  clear h
  rw [HF.out]
  go_enter Tryz.func47, Tryz.ntmps47
  go_wp2
  exact bodyPost_ret (results_blk rfl _ _ rfl (HR.out _) Tryz.underlying29 rfl (by kernel_rfl)) rfl ⟨rfl, HK.out _⟩
set_option maxHeartbeats 4000000 in
set_option maxRecDepth 100000 in
theorem rkeys_any (w : World) (B : Option Addr) (n d : Nat) (ks : List ByteArray) (hn : ks.length = n) (hr : Rd w B n (ks.map .string)) (hs : ∀ k ∈ ks, k.size ≤ 1152921504606846976) (hm : n ≤ 1152921504606846976) :
  Calls Tryz.prog 45 #[.slice B n d] w fun e w' => e = .returned (.bool (ks.all rightS)) ∧ w' = w := by
 have HR := Lib.hid hr
 have HN := Lib.hid hn
 have HC : Hid (∀ i s, ks[i]? = some s → Calls Tryz.prog 44 #[.string s] w fun e w' => e = .returned (.bool (rightS s)) ∧ w' = w) := Lib.hid fun i s h => rright_any w s (hs s (List.mem_of_getElem? h))
 clear hr hn hs
 go_enter Tryz.func45, Tryz.ntmps45
 go_upto_block 0 with fail
 go_wp2
 go_loopg [3] n (fun gk t wx => ∃ i : Nat, i ≤ n ∧ t = .int .i64 i ∧ gk = n - i ∧ Hid (wx = w) ∧ Hid ((ks.take i).all rightS = true))
 case atStart => exact ⟨0, by omega, rfl, rfl, Lib.hid rfl, Lib.hid (by simp)⟩
 case round =>
  obtain ⟨i, hin, rfl, hgk, HW, HP⟩ := hrel
  have HGK := Lib.hid hgk
  clear hgk
  by_cases hlt : i < n
  ·have hr2 := HR.out
   rw [← HW.out] at hr2
   obtain ⟨g, o, hB, hc⟩ := hr2.2 (by omega)
   subst hB
   obtain ⟨s, hsk⟩ : ∃ s, ks[i]? = some s := ⟨_, List.getElem?_eq_getElem (by have := HN.out; omega)⟩
   have ck : wr.cell? ⟨g, o + i, none⟩ = some (.string s) := by rw [hc i hlt, List.getElem?_map, hsk]; rfl
   have HCA := Lib.hid (HC.out i s hsk)
   rw [← HW.out] at HCA
   have HSK := Lib.hid hsk
   clear hr2 hc hsk
   obtain ⟨q, hq⟩ : ∃ q, q = rightS s := ⟨_, rfl⟩
   rw [← hq] at HCA
   have HQ := Lib.hid hq
   clear hq
   rcases q with _ | _
   ·have HF : Hid (ks.all rightS = false) := Lib.hid (by
     rw [List.all_eq_false]
     exact ⟨s, List.mem_of_getElem? HSK.out, by rw [← HQ.out]; decide⟩)
    go_wp2_with (go_at_call 44; refine HCA.out.mono ?_; rintro e w3 ⟨rfl, hw3⟩; subst w3)
    go_ret
    exact ⟨by rw [HF.out]; rfl, HW.out⟩
   ·have HNX : Hid ((ks.take (i + 1)).all rightS = true) := Lib.hid (by
     rw [List.take_add_one, HSK.out, List.all_append, HP.out]
     simp [← HQ.out])
    go_wp2_with (go_at_call 44; refine HCA.out.mono ?_; rintro e w3 ⟨rfl, hw3⟩; subst w3)
    go_roundg (n - (i + 1))
    case measure => rw [HGK.out]; omega
    case rel => exact ⟨i + 1, by omega, by go_num, rfl, HW, HNX⟩
  ·obtain rfl : n = i := by omega
   have HF : Hid (ks.all rightS = true) := Lib.hid (by
    have := HP.out
    rwa [List.take_of_length_le (by rw [HN.out]; exact Nat.le_refl _)] at this)
   go_wp2
   go_ret
   exact ⟨by rw [HF.out]; rfl, HW.out⟩
end Go.Proofs.YtdmcioghdindfaaGreat

set_option linter.unusedSimpArgs false
namespace Go.Json
open Go.Utf
def cmpS (a b : ByteArray) : Int := lexR (unitsR (sb a)) (unitsR (sb b))
theorem cmpS_le {a b : ByteArray} (h : cmpS a b ≤ 0) : ¬ ltS b a := fun h2 => by
 have : cmpS b a < 0 := h2
 have h3 : cmpS b a = - cmpS a b := lex_swap _ _
 omega
theorem cmpS_gt {a b : ByteArray} (h : ¬ cmpS a b ≤ 0) : ltS b a := by
 have h3 : cmpS b a = - cmpS a b := lex_swap _ _
 show cmpS b a < 0
 omega
def NotF (l : List ByteArray) : Prop := l.Pairwise fun a b => ¬ ltS b a
structure Mix (all done ra rb : List ByteArray) : Prop where
 perm : (done ++ (ra ++ rb)).Perm all
 d : NotF done
 a : NotF ra
 b : NotF rb
 lo : ∀ x ∈ done, ∀ y ∈ ra ++ rb, ¬ ltS y x
theorem notF_trans {a b c : ByteArray} (h : ¬ ltS b a) (h2 : ¬ ltS c b) (ha : rightS a = true) (hb : rightS b = true) : ¬ ltS c a := fun h3 => by
 rcases ltS_tri ha hb with h4 | h4 | h4
 ·exact h2 (ltS_trans h3 h4)
 ·subst h4; exact h2 h3
 ·exact h h4
theorem Mix.start {ra rb : List ByteArray} (ha : NotF ra) (hb : NotF rb) : Mix (ra ++ rb) [] ra rb := ⟨.refl _, .nil, ha, hb, fun x h => by simp at h⟩
theorem notF_snoc {l : List ByteArray} {x : ByteArray} (h : NotF l) (hx : ∀ y ∈ l, ¬ ltS x y) : NotF (l ++ [x]) := by
 refine List.pairwise_append.2 ⟨h, List.pairwise_singleton _ _, fun a ha b hb => ?_⟩
 rw [List.mem_singleton.1 hb]
 exact hx a ha
theorem Mix.left {all done ra rb : List ByteArray} {x : ByteArray} (h : Mix all done (x :: ra) rb) (hall : ∀ s ∈ all, rightS s = true) (hx : ∀ y ∈ rb.head?, ¬ ltS y x) : Mix all (done ++ [x]) ra rb := by
 have hm : ∀ s, s ∈ done ++ (x :: ra ++ rb) → rightS s = true := fun s hs => hall s (h.perm.mem_iff.1 hs)
 have hxr : rightS x = true := hm x (by simp)
 have ha := List.pairwise_cons.1 h.a
 have hyb : ∀ y ∈ rb, ¬ ltS y x := fun y hy => by
  match rb, h.b, hx, hy with
  | z :: rb', hb, hx, hy =>
   have hz := hx z rfl
   rcases List.mem_cons.1 hy with rfl | hy'
   ·exact hz
   ·exact notF_trans hz ((List.pairwise_cons.1 hb).1 y hy') hxr (hm z (by simp))
 refine ⟨?_, notF_snoc h.d fun y hy => h.lo y hy x (by simp), ha.2, h.b, fun p hp y hy => ?_⟩
 ·have : done ++ [x] ++ (ra ++ rb) = done ++ (x :: ra ++ rb) := by simp
  rw [this]; exact h.perm
 ·rcases List.mem_append.1 hp with hp | hp
  ·exact h.lo p hp y (by rcases List.mem_append.1 hy with h2 | h2 <;> simp [h2])
  ·rw [List.mem_singleton.1 hp]
   rcases List.mem_append.1 hy with hy | hy
   ·exact ha.1 y hy
   ·exact hyb y hy
theorem Mix.swap {all done ra rb : List ByteArray} (h : Mix all done ra rb) : Mix all done rb ra :=
 ⟨((List.Perm.refl done).append List.perm_append_comm).trans h.perm, h.d, h.b, h.a, fun x hx y hy => h.lo x hx y (by rcases List.mem_append.1 hy with h2 | h2 <;> simp [h2])⟩
theorem Mix.right {all done ra rb : List ByteArray} {x : ByteArray} (h : Mix all done ra (x :: rb)) (hall : ∀ s ∈ all, rightS s = true) (hx : ∀ y ∈ ra.head?, ¬ ltS y x) : Mix all (done ++ [x]) ra rb := (h.swap.left hall hx).swap
end Go.Json
namespace Go.Proofs.YtdmcioghdindfaaGreat
open Go Go.RowKit Go.Aff Go.Json Go.Utf
theorem MineS.cap {s : Nat} {w wr : World} {e : TypeId} {A : Option Addr} {m c : Nat} {xs : List Value} (h : MineS s w wr e A m c xs) : m ≤ c := by
 rcases h.1.2 with ⟨hv, hn0⟩ | ⟨g, cap, cur, hv, _, _, hnc, _⟩
 ·injection hv with e1 e2 e3
  omega
 ·injection hv with e1 e2 e3
  omega
def SortedPost (w : World) (ks : List ByteArray) (e : Ending) (w' : World) : Prop :=
 ∃ A c ks', e = .returned (.slice A ks.length c) ∧ ks.length ≤ c ∧ MineS 1 w w' 9 A ks.length c (ks'.map .string) ∧ ks'.Perm ks ∧ NotF ks'
set_option maxHeartbeats 4000000 in
set_option maxRecDepth 100000 in
theorem rsorted_few (w : World) (B : Option Addr) (n d : Nat) (ks : List ByteArray) (hn : ks.length = n) (hr : Rd w B n (ks.map .string)) (h2 : n < 2) :
  Calls Tryz.prog 70 #[.slice B n d] w (SortedPost w ks) := by
 have HR := Lib.hid hr
 have HN := Lib.hid hn
 have HF : Hid (NotF ks) := Lib.hid (by
  match ks, hn with
  | [], _ => exact .nil
  | [x], _ => exact List.pairwise_singleton _ _
  | _ :: _ :: _, hn => simp at hn; omega)
 have hlt : decide ((n : Int) < 2) = true := decide_eq_true (by omega)
 clear hr hn
 go_enter Tryz.func70, Tryz.ntmps70
 go_wp2_with (at_builtin; refine wpList_append_mine w _ rfl (.tmp 9) (.tmp 10) 27 rfl 9 (.string .empty) 1 16 Tryz.underlying27 (by kernel_rfl) rfl (by decide) rfl (Mine.built w w 9 0 [] (Keeps.refl _ w) rfl (by decide)) B n d (ks.map .string) rfl (RdS.of_rd (HR.out.keep ((Keeps.refl (fun _ => False) w).alloc _) (fun _ _ _ h => h))) (by intro u hu; obtain ⟨s, _, rfl⟩ := List.mem_map.1 hu; rfl) (by unfold maxLen; omega) (by omega) ?_; intro A4 c4 w4 ht4; have HT4 := Lib.hid ht4; clear ht4)
 go_ret
 refine ⟨A4, c4, ks, ?_, ?_, ?_, .refl _, HF.out⟩
 ·rw [HN.out]
  have e0 : 0 + n = n := Nat.zero_add n
  first | rfl | (simp only [Nat.zero_add]; rfl)
 ·have := MineS.cap HT4.out
  rw [HN.out]; omega
 ·have := HT4.out
  rw [List.nil_append, Nat.zero_add] at this
  rw [HN.out]
  exact this
end Go.Proofs.YtdmcioghdindfaaGreat
