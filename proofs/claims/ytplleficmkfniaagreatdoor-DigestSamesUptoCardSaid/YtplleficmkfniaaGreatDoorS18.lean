/- Texts. -/
import Derived.Test.YtplleficmkfniaaGreatDoorS16
import Derived.Test.YtplleficmkfniaaGreatDoorS17
import GoSem.Core.Float
import Derived.Laws.Externs
import Derived.Laws.BitsAllLaws
set_option linter.unusedSimpArgs false
set_option maxRecDepth 100000
set_option maxHeartbeats 4000000
namespace Go.Proofs.YtplleficmkfniaaGreatDoor
open Go Go.RowKit Go.Aff Go.Json Go.Shelf
def ObjPost (T : TypeId) (D : Nat → Prop) (w : World) (p : Nat) (v : Value) (P : List JV) (ks : List ByteArray) (e : Ending) (w' : World) : Prop :=
 if ks.all rightS = false then e = errP 100 ∧ Keeps (fun _ => False) w w'
 else if ¬ ks.Nodup then e = errP 101 ∧ Keeps (fun _ => False) w w'
 else if P.length < ks.length then e = errP 102 ∧ Keeps (fun _ => False) w w'
 else if ¬ (mkObj ks (P.drop (P.length - ks.length))).within then e = errP 3 ∧ Keeps (fun _ => False) w w'
 else e = .returned (.tuple #[]) ∧ RowPost T D w p v (P.take (P.length - ks.length) ++ [mkObj ks (P.drop (P.length - ks.length))]) w'
structure Mapping (w wr : World) (mb : Nat) (ks : List ByteArray) (i : Nat) (D : DataW Unit) : Prop where
 keep : Keeps (fun _ => False) w wr
 lo : w.heap.size ≤ mb
 own : wr.ownsMap Tryz.prog 9 (plainElem Tryz.prog 3) mb i D
 map : KeyMap D ks i
 nodup : (ks.take i).Nodup
structure Filling (w9 wx : World) (ob q : Nat) (s1 s2 s3 : Int) (A7 : Option Addr) (c7 : Nat) (vsd : List Value) (ks ks' : List ByteArray) (t : Nat) (A9 : Option Addr) (c9 : Nat) (vs9 : List Value) : Prop where
 keep : Keeps (fun i => i = ob) w9 wx
 blk : Blk wx ob 282 [.int .i64 s1, .int .i64 s2, .int .i64 s3, .slice A7 q c7, .slice A9 t c9]
 own : wx.ownsRow 0 93 1 (.slice A9 t c9) t vs9
 new : ∀ g, (Value.slice A9 t c9).ownBlock = some g → w9.heap.size ≤ g
 vals : ∀ (i : Nat) (v : Value), vs9[i]? = some v → ∃ (k : ByteArray) (j : Nat), ks'[i]? = some k ∧ ks[j]? = some k ∧ vsd[j]? = some v
theorem frozen_own {w : World} {e : TypeId} {g o n c : Nat} {xs : List Value} (h : w.ownsRow 0 e 1 (.slice (some ⟨g, o, none⟩) n c) n xs) (j : Nat) : w.frozen? ⟨g, o + j, none⟩ = false := by
 rcases h.2 with ⟨hv, _⟩ | ⟨g', cap, cur, hv, _, hh, _⟩
 ·cases hv
 ·injection hv with h1 _ _
  injection h1 with h1
  injection h1 with h1 h2
  subst h1
  simp [World.frozen?, hh]
theorem object_any (T : TypeId) (D : Nat → Prop) (w : World) (p : Nat) (A : Option Addr) (c : Nat) (vs : List Value) (P : List JV) (h : RowAt T D w p A c vs P) (hn : P.length ≤ 1048576) (hP : ∀ j ∈ P, j.within) (ks : List ByteArray) (m : Nat) (hm : ks.length = m) (hmb : m ≤ 1099511627776) (hby : byF ks ≤ 1099511627776)
  (B : Option Addr) (d : Nat) (hk : Rd w B m (ks.map .string)) :
  Calls Tryz.prog 116 #[.pointer (some ⟨p, 0, none⟩), .slice B m d] w (ObjPost T D w p (.slice A P.length c) P ks) := by
 have HH := H_ h
 have HK := H_ (And.intro hm hk)
 have HPW := H_ hP
 have HBY := H_ hby
 clear h hk hP hm hby
 go_enter Tryz.func116, Tryz.ntmps116
 go_upto_block 0 with fail
 go_wp2
 go_loopg [18] m (fun gk t wx => ∃ i : Nat, i ≤ m ∧ t = .int .i64 i ∧ gk = m - i ∧ Hid (Keeps (fun _ => False) w wx ∧ (ks.take i).all rightS = true))
 case atStart => exact ⟨0, by omega, rfl, by omega, H_ ⟨Keeps.refl _ w, by simp⟩⟩
 case round =>
  obtain ⟨i, hi, rfl, hgk, HI⟩ := hrel
  have HGK := H_ hgk
  clear hgk
  by_cases hlt : i < m
  ·obtain ⟨g, o, s, rfl, hs, hcell⟩ := textAt HK.out.2 hlt
   have ce := cell_keep HI.out.1 hcell
   have HS := H_ hs
   have HRT := H_ fun W => right_any W s (by have := size_le (List.mem_of_getElem? hs); have := HBY.out; omega)
   clear hcell hs
   rcases hr : rightS s with _ | _
   ·rw [hr] at HRT
    have HW : Hid (ks.all rightS = false) := H_ (by
     rw [List.all_eq_false]
     exact ⟨s, List.mem_of_getElem? HS.out, by rw [hr]; simp⟩)
    clear hr
    go_wp2_with (first
     | (go_at_call 105; refine (HRT.out _).mono ?_; rintro e w2 ⟨rfl, hk2⟩; have HK2 := H_ hk2; clear hk2)
     | (go_at_call 107; refine (refuse_no _ _).mono ?_; rintro e w3 ⟨he, rfl⟩; unfold errP at he; subst he))
    exact ⟨rfl, by unfold ObjPost; rw [if_pos HW.out]; exact ⟨rfl, HI.out.1.trans HK2.out (fun _ _ h => h)⟩⟩
   ·rw [hr] at HRT
    have HW : Hid ((ks.take (i + 1)).all rightS = true) := H_ (by
     rw [List.take_add_one, HS.out, List.all_append, HI.out.2]
     simp [hr])
    clear hr
    go_wp2_with (first
     | (go_at_call 105; refine (HRT.out _).mono ?_; rintro e w2 ⟨rfl, hk2⟩; have HK2 := H_ hk2; clear hk2)
     | (go_at_call 107; refine (refuse_ok _ _).mono ?_; rintro e w3 ⟨he, rfl⟩; subst he))
    go_roundg (m - (i + 1))
    case measure => rw [HGK.out]; omega
    case rel => exact ⟨i + 1, by omega, by go_num, rfl, H_ ⟨HI.out.1.trans HK2.out (fun _ _ h => h), HW.out⟩⟩
  ·obtain rfl : i = m := by omega
   have HR : Hid (ks.all rightS = true) := H_ (by
    have := HI.out.2
    rwa [List.take_of_length_le (by rw [HK.out.1]; exact Nat.le_refl _)] at this)
   have HKW := H_ HI.out.1
   clear HI HGK
   have hmm := @run_makeMap Tryz.prog
   go_upto_region 7 with fail
   clear hmm
   obtain ⟨mb, hmbq⟩ : ∃ b, b = wr.heap.size := ⟨_, rfl⟩
   have hM0 : Mapping w (wr.alloc (.map #[] 0)) mb ks 0 (.map []) := by
    rw [hmbq]
    exact ⟨HKW.out.alloc _, HKW.out.size, World.ownsMap_made (H := Unit) wr Tryz.prog 9 (plainElem Tryz.prog 3), KeyMap.zero ks, by simp⟩
   rw [← hmbq]
   have HM0 := H_ hM0
   clear hM0 hmbq
   refine gen_codeF (fun W => ∃ D, Mapping w W mb ks 0 D) ⟨_, HM0.out⟩ ?_
   clear HM0
   rintro w7 ⟨D0, hM0⟩
   have HM0 := H_ hM0
   clear hM0
   go_upto_block 2 with fail
   go_wp2
   go_loopg [7, 29] i (fun gk y t wx => ∃ (q : Nat) (Dm : DataW Unit), q ≤ i ∧ t = .int .i64 q ∧ y = .int .i64 (byF (ks.take q)) ∧ gk = i - q ∧ Hid (Mapping w wx mb ks q Dm))
   case atStart => exact ⟨0, D0, by omega, rfl, rfl, by omega, HM0⟩
   case round =>
    obtain ⟨q, Dm, hq, rfl, rfl, hgk, HM⟩ := hrel
    have HGK := H_ hgk
    clear hgk HM0
    by_cases hlt : q < i
    ·obtain ⟨g, o, s, rfl, hs, hcell⟩ := textAt HK.out.2 hlt
     have ce := cell_keep HM.out.keep hcell
     have HS := H_ hs
     have hsz : s.size ≤ maxLen := by have h1 := size_le (List.mem_of_getElem? hs); have := HBY.out; unfold maxLen; omega
     have HKEY := H_ (kS_of s hsz)
     have HZ := H_ hsz
     have HMX : Hid (q < maxLen) := H_ (by unfold maxLen; omega)
     obtain ⟨hb, hhb⟩ : ∃ b, b = Maps.has Dm (kS s) := ⟨_, rfl⟩
     have hhs := hhb.symm
     have HHB : Hid (hb = true ↔ s ∈ ks.take q) := H_ (by rw [hhb]; exact HM.out.map.2.1 s)
     have HIR : Hid (plainElem (H := Unit) Tryz.prog 3 (.int .i64 (q : Int)) = some (.lit (.int .i64 (q : Int)), [])) := H_ (plainInt _ ⟨by have : IntKind.i64.min = -9223372036854775808 := rfl; omega, by have : IntKind.i64.max = 9223372036854775807 := rfl; omega⟩)
     clear hcell hs hhb
     rcases hb with _ | _
     ·obtain ⟨b0, hb0⟩ : ∃ x, x = byF (ks.take q) := ⟨_, rfl⟩
      have hbl := byF_le ks q
      have hbs := size_le (List.mem_of_getElem? HS.out)
      have hbw := HBY.out
      rw [← hb0] at hbl
      rw [← hb0]
      obtain ⟨z, hz⟩ : ∃ x, x = s.size := ⟨_, rfl⟩
      rw [← hz] at hbs
      have hzz := hz.symm
      have r1 : (b0 : Int) ≤ 1099511627776 := by omega
      have r2 : (z : Int) ≤ 1099511627776 := by omega
      have HBQ := H_ (And.intro hb0 hz)
      clear hb0 hz hbl hbs hbw hsz
      go_wp2_with (first
       | (at_lookup; refine wpList_lookup_own_ok_int _ rfl _ _ 300 rfl 9 3 .i64 strKeyed Tryz.underlying300 Tryz.underlying3 (zeroInt _) mb q Dm rfl HM.out.own _ _ rfl HKEY.out ?_; intro cc _ _)
       | (go_at_call 107; refine (refuse_ok _ _).mono ?_; rintro e w3 ⟨he, rfl⟩; subst he)
       | (at_mapUpdate; refine wpList_mapUpdate_own _ rfl _ _ _ 300 rfl 9 3 strKeyed Tryz.underlying300 _ mb q Dm rfl HM.out.own HMX.out _ _ _ rfl rfl HKEY.out (.lit (.int .i64 (q : Int))) [] HIR.out ?_; intro w9 hown9 hg9; have HO9 := H_ hown9; have HG9 := H_ hg9; clear hown9 hg9))
      go_roundg (i - (q + 1))
      case measure => rw [HGK.out]; omega
      case rel =>
       have hno : s ∉ ks.take q := fun hm => by have := HHB.out.2 hm; simp at this
       refine ⟨q + 1, Dm.put (kS s) (.lit (.int .i64 (q : Int))), by omega, by go_num, ?_, rfl, H_ ⟨HM.out.keep.grown HG9.out (fun g' e => by injection e with e; exact .inr (e ▸ HM.out.lo)), HM.out.lo, HO9.out, HM.out.map.step HS.out hno HZ.out, ?_⟩⟩
       ·rw [byF_take HS.out, ← HBQ.out.1, ← HBQ.out.2]
        rfl
       ·rw [List.take_add_one, HS.out]
        exact List.nodup_append.2 ⟨HM.out.nodup, by simp, fun a ha b hb' e => by
         have hbs : b = s := by simpa using hb'
         exact hno (hbs ▸ e ▸ ha)⟩
     ·go_wp2_with (first
       | (at_lookup; refine wpList_lookup_own_ok_int _ rfl _ _ 300 rfl 9 3 .i64 strKeyed Tryz.underlying300 Tryz.underlying3 (zeroInt _) mb q Dm rfl HM.out.own _ _ rfl HKEY.out ?_; intro cc _ _)
       | (go_at_call 107; refine (refuse_no _ _).mono ?_; rintro e w3 ⟨he, rfl⟩; unfold errP at he; subst he))
      refine ⟨rfl, ?_⟩
      unfold ObjPost
      rw [if_neg (by rw [HR.out]; simp), if_pos]
      ·exact ⟨rfl, HM.out.keep⟩
      ·intro hnd
       have hmem := HHB.out.1 (by first | rfl | trivial)
       obtain ⟨q2, hq2⟩ := List.getElem?_of_mem hmem
       have hl2 := (List.getElem?_eq_some_iff.1 hq2).1
       rw [List.length_take] at hl2
       rw [List.getElem?_take_of_lt (by omega)] at hq2
       have := (List.getElem?_inj (List.getElem?_eq_some_iff.1 hq2).1 hnd).1 (hq2.trans HS.out.symm)
       omega
    ·obtain rfl : q = i := by omega
     have htk : ks.take q = ks := List.take_of_length_le (by rw [HK.out.1]; exact Nat.le_refl _)
     have HN : Hid ks.Nodup := H_ (by have := HM.out.nodup; rwa [htk] at this)
     rw [htk]
     clear htk HGK
     have HRW : Hid (RowAt T D wr p A c vs P) := H_ (HH.out.stay HM.out.keep)
     obtain ⟨bs, hbs⟩ : ∃ b, b = byF ks := ⟨_, rfl⟩
     rw [← hbs]
     have HBS := H_ hbs
     clear hbs
     by_cases hfew : P.length < q
     ·have HTK : Hid (Calls Tryz.prog 113 #[.pointer (some ⟨p, 0, none⟩), .int .i64 (q : Int)] wr fun e w' => e = errP 102 ∧ w' = wr) := H_ (take_few T D wr p A c vs P HRW.out q (by omega))
      go_wp2_with (go_at_call 113; refine HTK.out.mono ?_; rintro e w5 ⟨he, rfl⟩; unfold errP at he; subst he)
      refine ⟨rfl, ?_⟩
      unfold ObjPost
      rw [if_neg (by rw [HR.out]; simp), if_neg (by simpa using HN.out), if_pos (by rw [HK.out.1]; exact hfew)]
      exact ⟨rfl, HM.out.keep⟩
     ·have hle : q ≤ P.length := by omega
      have hq20 : q ≤ 1048576 := by omega
      obtain ⟨L, hL⟩ : ∃ L, L = P.drop (P.length - q) := ⟨_, rfl⟩
      have HLL : Hid (L.length = q ∧ L = P.drop (P.length - q) ∧ q ≤ P.length) := H_ ⟨by rw [hL, List.length_drop]; omega, hL, hle⟩
      have HTK : Hid (Calls Tryz.prog 113 #[.pointer (some ⟨p, 0, none⟩), .int .i64 (q : Int)] wr fun e w' => ∃ A' c', e = .returned (.slice A' q c') ∧ Mine wr w' 93 A' q c' (vs.drop (P.length - q))) := H_ (take_some T D wr p A c vs P HRW.out (by omega) q hle)
      obtain ⟨s1, hs1⟩ : ∃ x, x = ((1 + (sums L).1 : Nat) : Int) := ⟨_, rfl⟩
      obtain ⟨s2, hs2⟩ : ∃ x, x = ((bs + (sums L).2.1 : Nat) : Int) := ⟨_, rfl⟩
      obtain ⟨s3, hs3⟩ : ∃ x, x = (((sums L).2.2 + 1 : Nat) : Int) := ⟨_, rfl⟩
      have HSV : Hid (sizeV (mkObj ks L) = [.int .i64 s1, .int .i64 s2, .int .i64 s3]) := H_ (by rw [obj_sizes (by rw [HK.out.1, HLL.out.1]), hs1, hs2, hs3, HBS.out]; rfl)
      have hbw : bs ≤ 1099511627776 := by rw [HBS.out]; exact HBY.out
      have HSU : Hid (∀ W3 A' c', Mine wr W3 93 A' q c' (vs.drop (P.length - q)) → Calls Tryz.prog 115 #[.slice A' q c', .int .i64 (bs : Int)] W3 fun e w' => e = .returned (.agg #[.int .i64 s1, .int .i64 s2, .int .i64 s3]) ∧ Keeps (fun _ => False) W3 w') := H_ fun W3 A' c' hm => by
       have := summed_any (D := Bq D p (.slice A P.length c)) W3 A' q c' bs (vs.drop (P.length - q)) L HLL.out.1 hq20 (by omega) (fun x hx => HPW.out x (by rw [hL] at hx; exact List.mem_of_mem_drop hx)) hm.rd (fun k v x hv hx => by
        rw [hL] at hx
        rw [List.getElem?_drop] at hv hx
        exact (HRW.out.at_ _ v x hv hx).stay hm.2.1)
       rw [hs1, hs2, hs3]; exact this
      have HCL : Hid (∀ W, Keeps (fun _ => False) w W → Calls Tryz.prog 167 #[.slice B q d] W fun e w' => ∃ A' c', e = .returned (.slice A' q c') ∧ Mine W w' 9 A' q c' (ks.map .string)) := H_ fun W hW =>
       sclone_any W B q d (ks.map .string) (HK.out.2.keep hW (fun _ _ _ h => h)) (fun u hu => by obtain ⟨t, _, rfl⟩ := List.mem_map.1 hu; rfl) hmb
      clear hfew hle hs1 hs2 hs3 hbw hL
      go_upto_region 17 with (first
       | (go_at_call 113; refine HTK.out.mono ?_; rintro e w5 ⟨A5, c5, rfl, hm5⟩; have HM5 := H_ hm5; clear hm5)
       | (go_at_call 115; refine (HSU.out _ _ _ HM5.out).mono ?_; rintro e w6 ⟨rfl, hk6⟩; have HK6 := H_ ((HM.out.keep.trans HM5.out.2.1 (fun _ _ h => h)).trans hk6 (fun _ _ h => h)); have HM6 := H_ (HM5.out.keep hk6); clear hk6)
       | (go_at_call 167; refine (HCL.out _ HK6.out).mono ?_; rintro e w7 ⟨A7, c7, rfl, hm7⟩; have HM7 := H_ hm7; clear hm7))
      -- the object's block, the keys sorted
      obtain ⟨ob, hob⟩ : ∃ b, b = w7.heap.size := ⟨_, rfl⟩
      obtain ⟨vsd, hvsd⟩ : ∃ x, x = vs.drop (P.length - q) := ⟨_, rfl⟩
      rw [← hob]
      have hobk := Blk.new w7 282 [.int .i64 s1, .int .i64 s2, .int .i64 s3, .slice A7 q c7, .slice none 0 0]
      rw [← hob] at hobk
      have hk67 := HM7.out.2.1
      have hsz7 : wr.heap.size ≤ w7.heap.size := Nat.le_trans HM6.out.2.1.size hk67.size
      have HX := H_ (show Blk (w7.alloc (.cells #[.int .i64 s1, .int .i64 s2, .int .i64 s3, .slice A7 q c7, .slice none 0 0] 282)) ob 282 [.int .i64 s1, .int .i64 s2, .int .i64 s3, .slice A7 q c7, .slice none 0 0] ∧
        (w7.alloc (.cells #[.int .i64 s1, .int .i64 s2, .int .i64 s3, .slice A7 q c7, .slice none 0 0] 282)).ownsRow 0 9 1 (.slice A7 q c7) q (ks.map .string) ∧ Rd (w7.alloc (.cells #[.int .i64 s1, .int .i64 s2, .int .i64 s3, .slice A7 q c7, .slice none 0 0] 282)) A5 q vsd ∧
        (w7.alloc (.cells #[.int .i64 s1, .int .i64 s2, .int .i64 s3, .slice A7 q c7, .slice none 0 0] 282)).ownsMap Tryz.prog 9 (plainElem Tryz.prog 3) mb q Dm ∧ Keeps (fun _ => False) w (w7.alloc (.cells #[.int .i64 s1, .int .i64 s2, .int .i64 s3, .slice A7 q c7, .slice none 0 0] 282)) ∧ Keeps (fun _ => False) wr (w7.alloc (.cells #[.int .i64 s1, .int .i64 s2, .int .i64 s3, .slice A7 q c7, .slice none 0 0] 282)) from
       ⟨hobk, ((Keeps.refl (fun _ => False) w7).alloc _).own HM7.out.1 (fun _ _ h => h), by rw [hvsd]; exact ((HM6.out.keep hk67).rd).alloc _, Keeps.mapS ((HM6.out.2.1.trans hk67 (fun _ _ h => h)).alloc _) HM.out.own (fun h => h), (HK6.out.trans hk67 (fun _ _ h => h)).alloc _, (HM6.out.2.1.trans hk67 (fun _ _ h => h)).alloc _⟩)
      have HA5 : Hid (∀ a, A5 = some a → 0 < q → a.block < ob) := H_ fun a e h0 => by
       obtain ⟨g', o', e2, hl⟩ := (HM6.out.keep hk67).rd.lt h0
       rw [e] at e2
       injection e2 with e2
       subst e2
       rw [hob]; exact hl
      have HA7 : Hid (∀ a, A7 = some a → a.block < ob ∧ wr.heap.size ≤ a.block) := H_ fun a e => by
       have h1 : (Value.slice A7 q c7).ownBlock = some a.block := by rw [e]; rfl
       refine ⟨?_, ?_⟩
       ·rw [hob]; exact (HM7.out.1.lt _ h1).2
       ·exact Nat.le_trans HM6.out.2.1.size (HM7.out.2.2 _ h1)
      have HMB : Hid (mb < ob ∧ wr.heap.size ≤ ob) := H_ ⟨by rw [hob]; exact Nat.lt_of_lt_of_le HM.out.own.lt hsz7, by rw [hob]; exact hsz7⟩
      have HA57 : Hid (∀ a b, A5 = some a → A7 = some b → 0 < q → a.block ≠ b.block) := H_ fun a b e1 e2 h0 e3 => by
       obtain ⟨g', o', e4, hl⟩ := HM6.out.rd.lt h0
       rw [e1] at e4
       injection e4 with e4
       subst e4
       have h1 : (Value.slice A7 q c7).ownBlock = some b.block := by rw [e2]; rfl
       have := HM7.out.2.2 _ h1
       simp only at e3
       omega
      have HMB7 : Hid (∀ b, A7 = some b → mb ≠ b.block) := H_ fun b e2 e3 => by
       have h1 : (Value.slice A7 q c7).ownBlock = some b.block := by rw [e2]; rfl
       have h2 := HM7.out.2.2 _ h1
       have h3 := HM.out.own.lt
       have h4 := HM6.out.2.1.size
       omega
      have HVD := H_ hvsd
      clear hobk hk67 hsz7 hvsd
      refine gen_codeF (fun W => Blk W ob 282 [.int .i64 s1, .int .i64 s2, .int .i64 s3, .slice A7 q c7, .slice none 0 0] ∧ W.ownsRow 0 9 1 (.slice A7 q c7) q (ks.map .string) ∧ Rd W A5 q vsd ∧ W.ownsMap Tryz.prog 9 (plainElem Tryz.prog 3) mb q Dm ∧ Keeps (fun _ => False) w W ∧ Keeps (fun _ => False) wr W) HX.out ?_
      clear HX hob
      rintro w8 ⟨hb8, ho8, hi8, hm8, hk8, hr8⟩
      have HX8 := H_ (And.intro hb8 (And.intro ho8 (And.intro hi8 (And.intro hm8 (And.intro hk8 hr8)))))
      have cb := hb8.cell 3
      have HSRT : Hid (Calls Tryz.prog 168 #[.slice A7 q c7, .func (.func 92) #[] #[]] w8 fun e w' => e = .returned (.tuple #[]) ∧ ∃ ks' : List ByteArray, ks'.Perm ks ∧ ks'.Pairwise (fun a b => ¬ ltS b a) ∧ Rd w' A7 q (ks'.map .string) ∧
        Keeps (fun i => ∃ a, A7 = some a ∧ i = a.block) w8 w') := H_ (sort_any w8 A7 q c7 ks (Rd.of_own ho8) (fun g' o' j e _ => by subst e; exact frozen_own ho8 j) (fun t ht => ⟨List.all_eq_true.1 HR.out t ht, by have := size_le ht; have := HBY.out; omega⟩) (by omega))
      clear hb8 ho8 hi8 hm8 hk8 hr8
      go_upto_region 18 with (go_at_call 168; refine HSRT.out.mono ?_; rintro e w9 ⟨rfl, ks', hp9, hs9, hr9, hk9⟩; have HP9 := H_ (And.intro hp9 hs9); have HR9 := H_ hr9; have HK9 := H_ hk9; clear hp9 hs9 hr9 hk9)
      have hob9 := HK9.out.blk HX8.out.1 (fun ⟨a, e, h⟩ => by have := (HA7.out a e).1; omega)
      have hk9w : Keeps (fun _ => False) w w9 := HX8.out.2.2.2.2.1.trans HK9.out (fun k hk ⟨a, e, h⟩ => by have h1 := (HA7.out a e).2; have h2 := HM.out.keep.size; omega)
      have hk9r : Keeps (fun _ => False) wr w9 := HX8.out.2.2.2.2.2.trans HK9.out (fun k hk ⟨a, e, h⟩ => by have h1 := (HA7.out a e).2; omega)
      have hi9 := HX8.out.2.2.1.keep HK9.out (fun h0 a e ⟨b, e2, h⟩ => HA57.out a b e e2 h0 h)
      have hm9 := Keeps.mapS HK9.out HX8.out.2.2.2.1 (fun ⟨b, e2, h⟩ => HMB7.out b e2 h)
      have hks9 : ks'.length = q := by rw [HP9.out.1.length_eq]; exact HK.out.1
      have HX9 := H_ (And.intro hk9w (And.intro hk9r (And.intro hi9 (And.intro hm9 hks9))))
      have hF0 : Filling w9 w9 ob q s1 s2 s3 A7 c7 vsd ks ks' 0 none 0 [] := ⟨Keeps.refl _ _, hob9, World.ownsRow_nil _ _ _ _, fun g h => by (cases h), fun k v h => by cases h⟩
      have HF0 := H_ hF0
      have HOBL : Hid (ob < w9.heap.size) := H_ hob9.lt
      have cb9 := hob9.cell 3
      clear hob9 hk9w hk9r hi9 hm9 hks9 hF0 HX8 HK9 HSRT cb
      go_upto_block 4 with fail
      go_wp2
      clear cb9
      go_loopg [72] q (fun gk t wx => ∃ (k : Nat) (A9 : Option Addr) (c9 : Nat) (vs9 : List Value), k ≤ q ∧ t = .int .i64 k ∧ gk = q - k ∧ Hid (Filling w9 wx ob q s1 s2 s3 A7 c7 vsd ks ks' k A9 c9 vs9))
      case atStart => exact ⟨0, none, 0, [], by omega, rfl, by omega, HF0⟩
      case round =>
       obtain ⟨k, A9, c9, vs9, hk, rfl, hgk, HF⟩ := hrel
       have HGK := H_ hgk
       clear hgk HF0
       have hrk : Rd wr A7 q (ks'.map .string) := HR9.out.keep HF.out.keep (fun h0 a e h => by have := (HA7.out a e).1; have h : a.block = ob := h; omega)
       by_cases hlt : k < q
       ·obtain ⟨gk, ok, key, rfl, hkey, hkc⟩ := textAt hrk hlt
        have hmem : key ∈ ks := HP9.out.1.mem_iff.1 (List.mem_of_getElem? hkey)
        obtain ⟨j, hj⟩ := List.getElem?_of_mem hmem
        have hjq : j < q := by rw [← HK.out.1]; exact (List.getElem?_eq_some_iff.1 hj).1
        have hri : Rd wr A5 q vsd := HX9.out.2.2.1.keep HF.out.keep (fun h0 a e h => by have := HA5.out a e h0; have h : a.block = ob := h; omega)
        obtain ⟨gi, oi, rfl, hic⟩ := hri.2 (by omega)
        obtain ⟨v, hv⟩ : ∃ v, vsd[j]? = some v := ⟨_, List.getElem?_eq_getElem (by rw [hri.1]; exact hjq)⟩
        have hvj := hic j hjq
        rw [hv] at hvj
        have hx : ∃ x, P[P.length - q + j]? = some x := ⟨_, List.getElem?_eq_getElem (by have := HLL.out.2.2; omega)⟩
        obtain ⟨x, hx⟩ := hx
        have hvi : ∃ T' y, v = .iface T' y := by
         have h1 : vs[P.length - q + j]? = some v := by rw [← List.getElem?_drop, ← HVD.out]; exact hv
         exact (HRW.out.at_ _ v x h1 hx).iface
        obtain ⟨T', y, rfl⟩ := hvi
        have hlt9 : ∀ g', (Value.slice A9 k c9).ownBlock = some g' → ob < g' ∧ gi ≠ g' ∧ mb ≠ g' := fun g' e => by
         have h1 := HF.out.new g' e
         have h2 := HA5.out ⟨gi, oi, none⟩ rfl (by omega)
         have h3 := HMB.out.1
         have h4 := HOBL.out
         simp only at h2
         omega
        have hmx := Keeps.mapS HF.out.keep HX9.out.2.2.2.1 (fun h => by have h : mb = ob := h; have := HMB.out.1; omega)
        have HLK : Hid (∀ W, Keeps (fun i => (Value.slice A9 k c9).ownBlock = some i) wr W → (Instr.lookup 300 (.map (some mb)) (.string key) false).run Tryz.prog W = .ok (.int .i64 (j : Int)) W) := H_ fun W hW => by
         obtain ⟨cc, hrun, hat, _⟩ := (Keeps.mapS hW hmx (fun e => (hlt9 _ e).2.2 rfl)).lookup_int strKeyed Tryz.underlying300 Tryz.underlying3 (zeroInt W) (kS_of key (by have h1 := size_le hmem; have := HBY.out; unfold maxLen; omega))
         have h2 := HM.out.map.2.2 j key hjq hj
         rw [hat] at h2
         injection h2 with h2
         injection h2 with _ h2
         rw [hrun, h2]
        have HCO : Hid (∀ W, Keeps (fun i => (Value.slice A9 k c9).ownBlock = some i) wr W → Blk W ob 282 [.int .i64 s1, .int .i64 s2, .int .i64 s3, .slice (some ⟨gk, ok, none⟩) q c7, .slice A9 k c9]) := H_ fun W hW => hW.blk HF.out.blk (fun e => by have := (hlt9 _ e).1; omega)
        have HCI : Hid (∀ W, Keeps (fun i => (Value.slice A9 k c9).ownBlock = some i) wr W → W.cell? ⟨gi, oi + j, none⟩ = some (.iface T' y)) := H_ fun W hW => by
         rw [hW.cell (World.block_lt_of_cell? wr _ hvj) (fun e => (hlt9 _ e).2.1 rfl)]
         exact hvj
        have HV := H_ (And.intro hkey (And.intro hj hv))
        have hjq' : (j : Int) < q := by omega
        clear hmem hri hic hvj hx hmx hv hj hkey hlt9
        go_upto_region 21 with fail
        refine wp_region_tail (S := Keeps (fun i => (Value.slice A9 k c9).ownBlock = some i) wr) 13 (by kernel_rfl) (Keeps.refl _ _).drew (fun h_ => ?_)
        refine tJ 0 76 ?_
        try simp only [pu]
        refine tJ 1 77 ?_
        try simp only [pu]
        refine tJ 2 78 ?_
        try simp only [pu]
        refine tJ 3 79 ?_
        try simp only [pu]
        refine tT [4] (i := 4) (oi := ⟨some 80, _, _, _, _, _⟩) (v := ?_) rfl (Or.inl ⟨by rfl, ?_⟩) h_ ?_
        rotate_left
        ·intro w' hSw
         have cv := (HCO.out w' hSw).cell 4
         go_simp
         first | done | rfl
        try simp only [pu]
        refine tJ 5 81 ?_
        try simp only [pu]
        refine tJ 6 82 ?_
        try simp only [pu]
        refine tJ 7 83 ?_
        try simp only [pu]
        refine tT [8] (i := 8) (oi := ⟨some 84, _, _, _, _, _⟩) (v := ?_) rfl (Or.inl ⟨by rfl, ?_⟩) h_ ?_
        rotate_left
        ·intro w' hSw
         have lk := HLK.out w' hSw
         go_simp
         first | done | rfl
        try simp only [pu]
        refine tJ 9 85 ?_
        try simp only [pu]
        refine tT [10] (i := 10) (oi := ⟨some 86, _, _, _, _, _⟩) (v := ?_) rfl (Or.inl ⟨by rfl, ?_⟩) h_ ?_
        rotate_left
        ·intro w' hSw
         have cv := HCI.out w' hSw
         go_simp
         first | done | rfl
        try simp only [pu]
        refine wpAnyT_step (i := 11) (o := ⟨some 87, _, _, _, _, _⟩) (by kernel_rfl) rfl (fun K hK => ?_)
        go_simp
        refine hK.out _ _ (h_.alloc _) (fun h_ => ?_)
        clear hK K
        try simp only [pu]
        refine wpAnyT_step (i := 12) (o := ⟨some 88, _, _, _, _, _⟩) (by kernel_rfl) rfl (fun K hK => ?_)
        refine step_append_own rfl (.tmp 80) (.tmp 87) 127 rfl 93 .nilIface 1 16 Tryz.underlying127 infoIt rfl (by decide) A9 k c9 vs9 rfl (((Keeps.refl (fun _ => False) wr).drew.alloc _).own HF.out.own (fun _ _ h => h)) ⟨wr.heap.size, 0, none⟩ 1 1 [.iface T' y] rfl rfl (cell_one_new _ _ _) (by intro x hx; rw [List.mem_singleton.1 hx]; rfl) (by simp only [maxLen]; omega) (by omega) ?_
        intro A5 c5 w5 hown5 hg5 hb5
        have hq5 := h_.grown hg5 (fun g e => .inl e)
        have hbo := HCO.out w5 hq5
        refine hK.out _ _ hq5 (fun h_ => ?_)
        clear hK K
        try simp only [pu]
        refine wpAnyT_tail (i := 13) (o := ⟨some 89, _, _, _, _, _⟩) (by kernel_rfl) (by kernel_rfl) rfl (fun K hK => ?_)
        go_simp
        refine hK.out _ _ ?_
        clear hK K
        try simp only [pu]
        refine wpAnyT_tail (i := 14) (o := ⟨some 90, _, _, _, _, _⟩) (by kernel_rfl) (by kernel_rfl) rfl (fun K hK => ?_)
        go_simp
        refine hK.out _ _ ?_
        clear hK K
        try simp only [pu]
        refine wpAnyT_tail (i := 15) (o := ⟨none, _, _, _, _, _⟩) (by kernel_rfl) (by kernel_rfl) rfl (fun K hK => ?_)
        have cz := hbo.cell 4
        have fz := hbo.frozen 4
        go_simp
        refine hK.out _ _ ?_
        clear hK K
        try simp only [pu]
        refine wpAnyT_done (by kernel_rfl) ?_
        have hon : ∀ g', (Value.slice A5 (k + 1) c5).ownBlock = some g' → w9.heap.size ≤ g' := fun g' e => by
         rcases hb5 with e2 | e2
         ·exact HF.out.new g' (e2 ▸ e)
         ·rw [e2] at e
          injection e with e
          have h1 := HF.out.keep.size
          have h2 : g' = wr.heap.size + 1 := by rw [← e]; show (wr.alloc (.cells #[.iface T' y] 93)).heap.size = _; rw [World.size_alloc]
          omega
        have hset : Keeps (fun i => i = ob) w5 (w5.setCell ⟨ob, 4, none⟩ (.slice A5 (k + 1) c5)) := (Keeps.refl (fun i => i = ob) w5).setCell (p := ⟨ob, 4, none⟩) (.inl rfl) _
        have HFN : Hid (Filling w9 (w5.setCell ⟨ob, 4, none⟩ (.slice A5 (k + 1) c5)) ob q s1 s2 s3 (some ⟨gk, ok, none⟩) c7 vsd ks ks' (k + 1) A5 c5 (vs9 ++ [.iface T' y])) := H_ ⟨(HF.out.keep.trans hq5 (fun i hi e => by have := HF.out.new i e; omega)).trans hset (fun _ _ h => h), hbo.set_ 4 _, hset.own hown5 (fun g' e h => by have h1 := hon g' e; have h : g' = ob := h; have := HOBL.out; omega), hon, fun i' v' hv' => by
         rw [List.getElem?_append] at hv'
         by_cases hi' : i' < vs9.length
         ·rw [if_pos hi'] at hv'
          exact HF.out.vals i' v' hv'
         ·rw [if_neg hi'] at hv'
          have hl9 : vs9.length = k := by simpa using HF.out.own.1
          have hz : i' - vs9.length = 0 := by
           rcases Nat.eq_zero_or_pos (i' - vs9.length) with e | e
           ·exact e
           ·rw [List.getElem?_eq_none (by simp; omega)] at hv'; cases hv'
          rw [hz] at hv'
          injection hv' with hv'
          subst hv'
          exact ⟨key, j, by rw [show i' = k by omega]; exact HV.out.1, HV.out.2.1, HV.out.2.2⟩⟩
        clear h_ hown5 hg5 hb5 hq5 hbo hon hset
        go_wp2
        go_roundg (q - (k + 1))
        case measure => rw [HGK.out]; omega
        case rel => exact ⟨k + 1, A5, c5, _, by omega, by go_num, rfl, HFN⟩
       ·obtain rfl : k = q := by omega
        have HW9 : Hid (Keeps (fun _ => False) w wr) := H_ (HX9.out.1.trans HF.out.keep (fun i hi h => by have h : i = ob := h; have h1 := HMB.out.2; have h2 := HM.out.keep.size; omega))
        have hll := HLL.out
        have hlk : ks.length = L.length := by rw [HK.out.1, hll.1]
        have hall : ∀ t ∈ ks, rightS t = true := fun t ht => List.all_eq_true.1 HR.out t ht
        have hkeys := keys_sorted hlk HN.out hall HP9.out.1 HP9.out.2
        have hRw : RowAt T D wr p A c vs P := HH.out.stay HW9.out
        have hob : w.heap.size ≤ ob := by have h1 := HMB.out.2; have h2 := HM.out.keep.size; omega
        have hS : (sortM (ks.zip L)).length = k := by rw [(sortM_perm _).length_eq, List.length_zip, hll.1, HK.out.1]; omega
        have hJ : JAt (Bq D p (.slice A P.length c)) wr (.iface 187 (.pointer (some ⟨ob, 0, none⟩))) (mkObj ks L) := by
         have hb := HF.out.blk
         have hsv := HSV.out
         unfold mkObj at hsv ⊢
         refine .obj (A := A9) (B := A7) (c := c9) (d := c7) (vs := vs9) (bq_new HH.out hob) ?_ ?_ ?_ ?_ ?_ ?_
         ·rw [hsv, List.length_map, List.length_map, hS]; exact hb
         ·rw [List.length_map, hS, ← hkeys]; exact hrk
         ·rw [List.length_map, hS]
          intro h0 a e
          have h1 := (HA7.out a e).2
          have h2 := HM.out.keep.size
          exact bq_new HH.out (by omega)
         ·rw [List.length_map, hS]; exact Rd.of_own HF.out.own
         ·rw [List.length_map, hS]
          intro h0 a e
          have h1 := HF.out.new a.block (by rw [e]; rfl)
          have h2 := HOBL.out
          exact bq_new HH.out (by omega)
         ·intro i' v' x' hv' hx'
          obtain ⟨key, j, h1, h2, h3⟩ := HF.out.vals i' v' hv'
          rw [List.getElem?_map] at hx'
          obtain ⟨pr, hpr, hpx⟩ := Option.map_eq_some_iff.1 hx'
          have hk1 : pr.1 = key := by
           rw [hkeys, List.getElem?_map, hpr] at h1
           injection h1
          obtain ⟨j2, hj2⟩ := List.getElem?_of_mem ((sortM_perm _).mem_iff.1 (List.mem_of_getElem? hpr))
          rw [List.getElem?_zip_eq_some] at hj2
          have hjj : j = j2 := (List.getElem?_inj (List.getElem?_eq_some_iff.1 h2).1 HN.out).1 (h2.trans (hk1 ▸ hj2.1.symm))
          subst hjj
          have h4 := hj2.2
          rw [hpx] at h4
          rw [HVD.out, List.getElem?_drop] at h3
          rw [hll.2.1, List.getElem?_drop] at h4
          exact hRw.at_ _ v' x' h3 h4
        have HJ := H_ hJ
        have HRW9 := H_ hRw
        have HOP : Hid (∀ e w', (if (mkObj ks L).within then e = .returned (.tuple #[]) ∧ RowPost T D wr p (.slice A P.length c) (P.take (P.length - k) ++ [mkObj ks L]) w' else e = errP 3 ∧ Keeps (fun _ => False) wr w') → ObjPost T D w p (.slice A P.length c) P ks e w') := H_ fun e w' hh => by
         unfold ObjPost
         rw [if_neg (by rw [HR.out]; simp), if_neg (by simpa using HN.out), if_neg (by rw [HK.out.1]; omega), HK.out.1, ← hll.2.1]
         by_cases hw : (mkObj ks L).within
         ·rw [if_pos hw] at hh
          rw [if_neg (by simpa using hw)]
          exact ⟨hh.1, hh.2.1, (HW9.out.mono (fun _ _ h => h.elim)).trans hh.2.2 (fun _ _ h => h)⟩
         ·rw [if_neg hw] at hh
          rw [if_pos (by simpa using hw)]
          exact ⟨hh.1, HW9.out.trans hh.2 (fun _ _ h => h)⟩
        have hkP : k ≤ P.length := hll.2.2
        clear hJ hRw hkeys hall hlk hrk hS hob hll
        by_cases hw : (mkObj ks L).within
        ·have HGR : Hid (Calls Tryz.prog 114 #[.pointer (some ⟨p, 0, none⟩), .int .i64 k, .iface 187 (.pointer (some ⟨ob, 0, none⟩))] wr fun e w' => e = .returned (.tuple #[]) ∧ RowPost T D wr p (.slice A P.length c) (P.take (P.length - k) ++ [mkObj ks L]) w') := H_ (group_ok T D wr p A c vs P HRW9.out (by omega) k hkP _ _ HJ.out hw)
         go_wp2_with (go_at_call 114; refine HGR.out.mono ?_; rintro e w4 ⟨rfl, hr4⟩; have HR4 := H_ hr4; clear hr4)
         go_end0
         exact HOP.out _ _ (by rw [if_pos hw]; exact ⟨rfl, HR4.out⟩)
        ·have HGR : Hid (Calls Tryz.prog 114 #[.pointer (some ⟨p, 0, none⟩), .int .i64 k, .iface 187 (.pointer (some ⟨ob, 0, none⟩))] wr fun e w' => e = errP 3 ∧ Keeps (fun _ => False) wr w') := H_ (group_long wr _ _ _ _ HJ.out hw)
         go_wp2_with (go_at_call 114; refine HGR.out.mono ?_; rintro e w4 ⟨he, hk4⟩; unfold errP at he; subst he; have HK4 := H_ hk4; clear hk4)
         exact ⟨rfl, HOP.out _ _ (by rw [if_neg hw]; exact ⟨rfl, HK4.out⟩)⟩
end Go.Proofs.YtplleficmkfniaaGreatDoor
namespace Go.Flt
open Ieee Go.Json
def sgn (b : Nat) : Bool := b / 9223372036854775808 % 2 == 1
def rng (b : Nat) : Nat := b % 9223372036854775808
def magF (b : Nat) : Nat := if rng b < 4503599627370496 then rng b else 4503599627370496 + rng b % 4503599627370496
def plcF (b : Nat) : Nat := rng b / 4503599627370496 - 1
theorem rng_fin (b : Nat) : finiteF b = decide (rng b < 9218868437227405312) := by
 unfold finiteF rng
 rw [Bool.eq_iff_iff]
 simp only [Bool.not_eq_true', decide_eq_false_iff_not, decide_eq_true_eq]
 omega
theorem read_eq (b : Nat) : double.read b = if rng b < 4503599627370496 then .number (sgn b) (rng b) (-1074) else if rng b < 9218868437227405312 then .number (sgn b) (4503599627370496 + rng b % 4503599627370496) (-1074 + ((rng b / 4503599627370496 - 1 : Nat) : Int))
  else if rng b = 9218868437227405312 then .infinity (sgn b) else .nan (sgn b) (rng b - 9218868437227405312) := rfl
theorem read_fin {b : Nat} (h : finiteF b = true) : double.read b = .number (sgn b) (magF b) (-1074 + (plcF b : Int)) := by
 rw [rng_fin, decide_eq_true_eq] at h
 rw [read_eq]
 unfold magF plcF
 split
 ·rename_i h1
  congr 1
  omega
 ·rfl
theorem order_self {b : Nat} (h : finiteF b = true) : double.order b b = some .eq := by
 unfold Format.order Datum.order
 rw [read_fin h]
 simp
theorem abs_fin (b : Nat) : finiteF (rng b) = finiteF b := by
 rw [rng_fin, rng_fin]
 unfold rng
 congr 2
 omega
theorem mag_lt (b : Nat) : magF b < 9007199254740992 := by
 unfold magF
 split <;> omega
theorem max_read : double.read 9218868437227405311 = .number false 9007199254740991 971 := by decide +kernel
theorem order_max {b : Nat} (h : finiteF b = true) : double.order (rng b) 9218868437227405311 ≠ some .gt := by
 have hp : plcF (rng b) ≤ 2045 := by
  have h2 := abs_fin b
  rw [h, rng_fin, decide_eq_true_eq] at h2
  unfold plcF
  omega
 have hm := mag_lt (rng b)
 unfold Format.order Datum.order
 rw [read_fin ((abs_fin b).trans h), max_read]
 have hs : sgn (rng b) = false := by
  unfold sgn rng
  rw [Nat.div_eq_of_lt (Nat.mod_lt _ (by decide))]
  rfl
 rw [hs]
 have hmin : min (-1074 + (plcF (rng b) : Int)) 971 = -1074 + (plcF (rng b) : Int) := by omega
 simp only [hmin, Int.sub_self, Int.toNat_zero]
 intro e
 injection e with e
 have e := Int.compare_eq_gt.1 e
 unfold signed at e
 simp only [Bool.false_eq_true, if_false, Nat.shiftLeft_eq, Nat.pow_zero, Nat.mul_one] at e
 have h1 := Nat.one_le_two_pow (n := (971 - (-1074 + (plcF (rng b) : Int))).toNat)
 have h2 : 9007199254740991 * 1 ≤ 9007199254740991 * 2 ^ (971 - (-1074 + (plcF (rng b) : Int))).toNat := Nat.mul_le_mul_left _ h1
 omega
theorem rng_mag (b : Nat) : rng b = magF b + plcF b * 4503599627370496 := by
 unfold magF plcF
 split <;> omega
theorem mag_ge {b : Nat} (h : 1 ≤ plcF b) : 4503599627370496 ≤ magF b := by
 unfold plcF at h
 unfold magF
 split <;> omega
def vF (b k : Nat) : Int := signed (sgn b) (magF b) (plcF b - k)
theorem order_fin {a b : Nat} (ha : finiteF a = true) (hb : finiteF b = true) : double.order a b = some (compare (vF a (min (plcF a) (plcF b))) (vF b (min (plcF a) (plcF b)))) := by
 unfold Format.order Datum.order vF
 rw [read_fin ha, read_fin hb]
 have h1 : (-1074 + (plcF a : Int) - min (-1074 + (plcF a : Int)) (-1074 + (plcF b : Int))).toNat = plcF a - min (plcF a) (plcF b) := by omega
 have h2 : (-1074 + (plcF b : Int) - min (-1074 + (plcF a : Int)) (-1074 + (plcF b : Int))).toNat = plcF b - min (plcF a) (plcF b) := by omega
 simp only [h1, h2]
theorem signed_zero (s : Bool) (m k : Nat) : signed s m k = 0 ↔ m = 0 := by
 unfold signed
 rw [Nat.shiftLeft_eq]
 have h1 := Nat.one_le_two_pow (n := k)
 have h2 : m * 2 ^ k = 0 ↔ m = 0 := by
  constructor
  ·intro h
   rcases Nat.mul_eq_zero.1 h with h | h
   ·exact h
   ·omega
  ·intro h; rw [h, Nat.zero_mul]
 split <;> omega
theorem signed_inj {s t : Bool} {m n k l : Nat} (h : signed s m k = signed t n l) : m * 2 ^ k = n * 2 ^ l ∧ (m ≠ 0 → s = t) := by
 unfold signed at h
 rw [Nat.shiftLeft_eq, Nat.shiftLeft_eq] at h
 have h1 := Nat.one_le_two_pow (n := k)
 have h2 : m ≠ 0 → 0 < m * 2 ^ k := fun h => Nat.mul_pos (by omega) (by omega)
 generalize m * 2 ^ k = X at *
 generalize n * 2 ^ l = Y at *
 cases s <;> cases t <;> simp at h
 ·exact ⟨by omega, fun _ => rfl⟩
 ·refine ⟨by omega, fun h3 => ?_⟩
  have := h2 h3
  omega
 ·refine ⟨by omega, fun h3 => ?_⟩
  have := h2 h3
  omega
 ·exact ⟨by omega, fun _ => rfl⟩
theorem mag_shift {a b : Nat} (h : magF a * 2 ^ (plcF a - min (plcF a) (plcF b)) = magF b * 2 ^ (plcF b - min (plcF a) (plcF b))) : rng a = rng b := by
 have hlt := mag_lt a
 have hlt2 := mag_lt b
 have key : ∀ {x y k : Nat}, x < 9007199254740992 → 4503599627370496 ≤ y → 1 ≤ k → x = y * 2 ^ k → False := by
  intro x y k h1 h2 h3 h4
  have h5 : 2 ^ 1 ≤ 2 ^ k := Nat.pow_le_pow_right (by decide) h3
  have h6 : y * 2 ^ 1 ≤ y * 2 ^ k := Nat.mul_le_mul_left _ h5
  omega
 rcases Nat.lt_trichotomy (plcF a) (plcF b) with hp | hp | hp
 ·have hm : min (plcF a) (plcF b) = plcF a := by omega
  rw [hm, Nat.sub_self, Nat.pow_zero, Nat.mul_one] at h
  exact (key hlt (mag_ge (by omega)) (by omega) h).elim
 ·rw [hp, Nat.min_self, Nat.sub_self, Nat.pow_zero, Nat.mul_one, Nat.mul_one] at h
  rw [rng_mag a, rng_mag b, h, hp]
 ·have hm : min (plcF a) (plcF b) = plcF b := by omega
  rw [hm, Nat.sub_self, Nat.pow_zero, Nat.mul_one] at h
  exact (key hlt2 (mag_ge (by omega)) (by omega) h.symm).elim
theorem mag_zero {b : Nat} : magF b = 0 ↔ rng b = 0 := by
 have h := rng_mag b
 constructor
 ·intro h2
  rcases Nat.eq_zero_or_pos (plcF b) with h3 | h3
  ·rw [h, h2, h3]
  ·have := mag_ge h3; omega
 ·intro h2; omega
theorem sgn_rng {a b : Nat} (ha : a < 18446744073709551616) (hb : b < 18446744073709551616) (hs : sgn a = sgn b) (hr : rng a = rng b) : a = b := by
 unfold sgn at hs
 unfold rng at hr
 have h1 : a / 9223372036854775808 = 0 ∨ a / 9223372036854775808 = 1 := by omega
 have h2 : b / 9223372036854775808 = 0 ∨ b / 9223372036854775808 = 1 := by omega
 rcases h1 with h1 | h1 <;> rcases h2 with h2 | h2 <;> rw [h1, h2] at hs <;> simp at hs <;> omega
theorem order_eq {a b : Nat} (ha : finiteF a = true) (hb : finiteF b = true) (ha2 : a < 18446744073709551616) (hb2 : b < 18446744073709551616) (hna : a ≠ 9223372036854775808) (hnb : b ≠ 9223372036854775808) :
  (double.order a b == some .eq) = decide (a = b) := by
 rw [Bool.eq_iff_iff, decide_eq_true_iff, beq_iff_eq]
 constructor
 ·intro h
  rw [order_fin ha hb] at h
  injection h with h
  have h := Int.compare_eq_eq.1 h
  obtain ⟨h1, h2⟩ := signed_inj h
  have hr := mag_shift h1
  by_cases hz : magF a = 0
  ·have z1 := mag_zero.1 hz
   have z2 := hr ▸ z1
   unfold rng at z1 z2
   omega
  ·exact sgn_rng ha2 hb2 (h2 hz) hr
 ·rintro rfl
  exact order_self ha
theorem order_zero {b : Nat} (h : finiteF b = true) (hb : b < 18446744073709551616) : (double.order b 0 == some .eq) = decide (b = 0 ∨ b = 9223372036854775808) := by
 rw [Bool.eq_iff_iff, decide_eq_true_iff, beq_iff_eq, order_fin h (by decide)]
 have h0 : vF 0 (min (plcF b) (plcF 0)) = 0 := (signed_zero _ _ _).2 (by decide)
 rw [h0]
 constructor
 ·intro e
  injection e with e
  have e := mag_zero.1 ((signed_zero _ _ _).1 (Int.compare_eq_eq.1 e))
  unfold rng at e
  omega
 ·intro e
  have : vF b (min (plcF b) (plcF 0)) = 0 := (signed_zero _ _ _).2 (mag_zero.2 (by unfold rng; omega))
  rw [this]
  rfl
theorem order_not {b : Nat} (h : finiteF b = false) : double.order b b ≠ some .eq ∨ double.order (rng b) 9218868437227405311 = some .gt := by
 rw [rng_fin, decide_eq_false_iff_not] at h
 rcases Nat.eq_or_lt_of_le (Nat.le_of_not_lt h) with h1 | h1
 ·right
  rw [← h1]
  decide +kernel
 ·left
  unfold Format.order
  rw [read_eq, if_neg (by omega), if_neg (by omega), if_neg (by omega)]
  unfold Datum.order
  simp
end Go.Flt
namespace Go.Proofs.YtplleficmkfniaaGreatDoor
open Go Go.RowKit Go.Aff Go.Json Go.Flt
theorem frombits (n : Int) (w : World) : (callFunc 110 #[.int .u64 n]).run Tryz.prog w = .ok (.value (.float .f64 n.toNat)) w := by
 rw [run_callFunc_extern Tryz.func110 (by kernel_rfl) (by kernel_rfl) (by kernel_rfl) (e := Extern.MathFloatBits.float64frombits) (by kernel_rfl)]
 rfl
theorem bitsof (n : Nat) (w : World) : (callFunc 140 #[.float .f64 n]).run Tryz.prog w = .ok (.value (.int .u64 n)) w := by
 rw [run_callFunc_extern Tryz.func140 (by kernel_rfl) (by kernel_rfl) (by kernel_rfl) (e := Extern.MathFloatBits.float64bits) (by kernel_rfl)]
 rfl
theorem u64_abs (b : Nat) (hb : b < 18446744073709551616) : bits .andNot .u64 (b : Int) 9223372036854775808 = ((rng b : Nat) : Int) := by
 show IntKind.u64.wrap ((BitVec.ofInt 64 (b : Int) &&& ~~~ BitVec.ofInt 64 9223372036854775808).toNat : Int) = _
 have h1 : ~~~ BitVec.ofInt 64 9223372036854775808 = BitVec.ofNat 64 9223372036854775807 := by decide
 have h2 : b &&& 9223372036854775807 = b % 9223372036854775808 := Nat.and_two_pow_sub_one_eq_mod b 63
 rw [h1, BitVec.toNat_and, ofInt_u64 b hb]
 have h3 : (BitVec.ofNat 64 9223372036854775807).toNat = 9223372036854775807 := by decide
 rw [h3, h2]
 unfold rng
 simp [IntKind.wrap, IntKind.bits, IntKind.signed]
 omega
theorem isnan_any (w : World) (b : Nat) : Calls Tryz.prog 111 #[.float .f64 b] w fun e w' => e = .returned (.bool (Ieee.double.order b b != some .eq)) ∧ w' = w := by
 go_enter Tryz.func111, Tryz.ntmps111
 go_wp2
 go_ret
 exact ⟨rfl, rfl⟩
theorem abs_any (w : World) (b : Nat) (hb : b < 18446744073709551616) : Calls Tryz.prog 165 #[.float .f64 b] w fun e w' => e = .returned (.float .f64 (rng b)) ∧ w' = w := by
 have h1 := frombits
 have h2 := bitsof
 go_enter Tryz.func165, Tryz.ntmps165
 go_wp2
 go_ret
 exact ⟨by show Ending.returned (.float .f64 (bits .andNot .u64 (b : Int) 9223372036854775808).toNat) = _; rw [u64_abs b hb]; rfl, rfl⟩
theorem isinf_any (w : World) (b : Nat) (hb : b < 18446744073709551616) : Calls Tryz.prog 112 #[.float .f64 b, .int .i64 0] w fun e w' => e = .returned (.bool (Ieee.double.order (rng b) 9218868437227405311 == some .gt)) ∧ w' = w := by
 have HA := H_ (abs_any w b hb)
 go_enter Tryz.func112, Tryz.ntmps112
 go_wp2_with (go_at_call 165; refine HA.out.mono ?_; rintro e w2 ⟨rfl, rfl⟩)
 go_ret
 exact ⟨rfl, rfl⟩
end Go.Proofs.YtplleficmkfniaaGreatDoor
