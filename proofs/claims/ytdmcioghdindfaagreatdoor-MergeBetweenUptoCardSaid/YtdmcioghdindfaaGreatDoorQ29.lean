/-
  Texts put together: MLayW; MMergeW; LMadeW.
-/
import Derived.Test.YtdmcioghdindfaaGreatDoorQ28
import Derived.Test.YtdmcioghdindfaaGreatDoorQ26
import Derived.Test.YtdmcioghdindfaaGreatDoorQ22
import Derived.Test.YtdmcioghdindfaaGreatDoorQ03
set_option linter.unusedSimpArgs false
set_option maxRecDepth 100000
set_option maxHeartbeats 4000000
namespace Go.Proofs.YtdmcioghdindfaaGreatDoor
open Go Go.RowKit Go.Aff Go.Json Go.Rng
attribute [local go_sem] Oper.semAt_some
theorem memJ_eq (o : Option JV) : memJ o = mem2 o := by cases o with | none => rfl | some j => cases j <;> rfl
theorem OAt.stay {D : Nat → Prop} {w w' : World} {v : Value} {o : Option JV} (h : OAt D w v o) (k : Keeps (fun _ => False) w w') : OAt D w' v o := by
 cases o with
 | none => exact h
 | some j => exact TAt.stay h k
theorem OAt.mono {D C : Nat → Prop} {w : World} {v : Value} {o : Option JV} (h : OAt D w v o) (hC : ∀ i, D i → i < w.heap.size → C i) : OAt C w v o := by
 cases o with
 | none => exact h
 | some j => exact TAt.mono h hC
theorem lay_whole_any {D : Nat → Prop} (w : World) (it : Value) (j : JV) (hj : JAt D w it j) (hs : j.sort ≠ 6) (v : Value) (o : Option JV) : Calls Tryz.prog 49 #[.iface 150 (.agg #[it]), v] w (OfPost D w (j.lay o)) := by
 have HJ := Lib.hid (And.intro hj hs)
 have HA := as_whole_mobj (.agg #[it])
 rw [lay_whole j o hs]
 clear hj hs
 go_enter Tryz.func49, Tryz.ntmps49
 go_wp2
 go_ret
 exact ⟨_, rfl, .whole (HJ.out.1.mono fun i hi _ => .inl hi) HJ.out.2, Keeps.refl _ _⟩
def KeysOk (ks : List ByteArray) : Prop := ∀ s ∈ ks, rightS s = true ∧ s.size ≤ 1152921504606846976
theorem TAt.keys {D : Nat → Prop} {w : World} {b : Nat} {ks : List ByteArray} {l : List JV} (h : TAt D w (.iface 73 (.pointer (some ⟨b, 0, none⟩))) (.obj ks l)) : ∃ B d rf a3, Blk w b 84 [rf, .slice B ks.length d, a3] ∧ Rd w B ks.length (ks.map .string) := by
 cases h with
 | @obj b A B c d vs ks l rf hDb hb hrf hk2 hok hr ho hl => exact ⟨_, _, _, _, hb, hk2⟩
theorem lay_obj_any {D : Nat → Prop} (w : World) (b : Nat) (ko : List ByteArray) (lo : List JV) (h : TAt D w (.iface 73 (.pointer (some ⟨b, 0, none⟩))) (.obj ko lo)) (hD : ∀ i, D i → i < w.heap.size) (v : Value) (o : Option JV) (hv : OAt D w v o)
  (hl : ko.length = lo.length) (hl2 : (mem2 o).1.length = (mem2 o).2.length) (hp : ko.Pairwise ltS) (hp2 : (mem2 o).1.Pairwise ltS) (hk : KeysOk ko) (hk2 : KeysOk (mem2 o).1) (hn : (mem2 o).1.length + ko.length ≤ 1048576)
  (ih : ∀ y, y ∈ lo → ∀ (ou : Option JV), (∀ x, ou = some x → x ∈ (mem2 o).2) → ∀ (D' : Nat → Prop) (W : World) (t u : Value), TAt D' W t y → OAt D' W u ou → Calls Tryz.prog 49 #[t, u] W (OfPost D' W (y.lay ou))) :
  Calls Tryz.prog 49 #[.iface 73 (.pointer (some ⟨b, 0, none⟩)), v] w (OfPost D w ((JV.obj ko lo).lay o)) := by
 obtain ⟨ku, hku⟩ : ∃ ku, ku = (mem2 o).1 := ⟨_, rfl⟩
 obtain ⟨lu, hlu⟩ : ∃ lu, lu = (mem2 o).2 := ⟨_, rfl⟩
 rw [lay_obj]
 have HME : Hid (Calls Tryz.prog 31 #[v] w fun e w' => ∃ bu, e = .returned (.pointer (some ⟨bu, 0, none⟩)) ∧ Hid (TAt (fun i => (D i ∨ w.heap.size ≤ i) ∧ i < w'.heap.size) w' (.iface 73 (.pointer (some ⟨bu, 0, none⟩))) (.obj ku lu) ∧ Keeps (fun _ => False) w w')) := Lib.hid (by
  refine (members_any w v o hv).mono ?_
  rintro e w' ⟨bu, he, ht, hk⟩
  rw [memJ_eq, ← hku, ← hlu] at ht
  exact ⟨bu, he, Lib.hid ⟨ht.mono fun i h1 h2 => ⟨h1, h2⟩, hk⟩⟩)
 rw [← hku] at hl2 hp2 hk2 hn
 rw [← hlu] at hl2
 have HH := Lib.hid (And.intro h hD)
 have HL := Lib.hid (And.intro hl hl2)
 have HP := Lib.hid (And.intro hp hp2)
 have HK := Lib.hid (And.intro hk hk2)
 have HN := Lib.hid hn
 have HIH := Lib.hid ih
 have HM := Lib.hid (And.intro hku hlu)
 have HA := as_mobj_mobj (.pointer (some ⟨b, 0, none⟩))
 clear h hD hl hl2 hp hp2 hk hk2 hn ih hku hlu hv
 go_enter Tryz.func49, Tryz.ntmps49
 go_upto_region 5 with (go_at_call 31; refine HME.out.mono ?_; rintro e w2 ⟨bu, rfl, H2⟩)
 obtain ⟨p, hpp⟩ : ∃ p, p = w2.heap.size := ⟨_, rfl⟩
 have HS0 : Hid (ObS (fun i => D i ∨ w.heap.size ≤ i) w2 (w2.alloc (.cells #[.nilIface, .slice none 0 0, .slice none 0 0] 84)) p .nilIface none 0 none 0 [] [] []) := Lib.hid (by rw [hpp]; exact ObS.start _ w2)
 rw [← hpp]
 refine gen_codeF (fun W => ObS (fun i => D i ∨ w.heap.size ≤ i) w2 W p .nilIface none 0 none 0 [] [] []) HS0.out ?_
 intro w3 hs3
 have HS3 := Lib.hid hs3
 have HPP := Lib.hid hpp
 clear hs3 HS0 hpp
 have HKO : Hid (Calls Tryz.prog 32 #[.slice (some ⟨w3.heap.size, 0, none⟩) 2 2] (w3.alloc (.cells #[.pointer (some ⟨bu, 0, none⟩), .pointer (some ⟨b, 0, none⟩)] 73)) fun e w' => ∃ (A : Option Addr) (n c : Nat) (cs : List ByteArray), e = .returned (.slice A n c) ∧ n ≤ 1048576 ∧ Hid (cs.length = n ∧ Rd w' A n (cs.map .string) ∧ InB (fun i => w3.heap.size ≤ i) A n ∧ cs.Pairwise ltS ∧ (∀ s, s ∈ cs ↔ s ∈ ku ++ ko) ∧ Keeps (fun _ => False) w3 w')) := Lib.hid (by
  have k3 := HS3.out.keep.alloc (.cells #[.pointer (some ⟨bu, 0, none⟩), .pointer (some ⟨b, 0, none⟩)] 73)
  have hall : allK [(bu, ku), (b, ko)] = ku ++ ko := by simp [allK]
  refine (keysOf_any _ (some ⟨w3.heap.size, 0, none⟩) 2 2 [(bu, ku), (b, ko)] ⟨rfl, fun _ => ⟨_, 0, rfl, fun j _ => by rw [Nat.zero_add]; exact (Blk.new w3 73 [.pointer (some ⟨bu, 0, none⟩), .pointer (some ⟨b, 0, none⟩)]).cell j⟩⟩ (fun q hq => ?_) (fun s hs => ?_) (by rw [hall, List.length_append]; exact HN.out) (by decide)).mono ?_
  ·simp only [List.mem_cons, List.not_mem_nil, or_false] at hq
   rcases hq with rfl | rfl
   ·exact (H2.out.1.stay k3).keys
   ·exact ((HH.out.1.stay H2.out.2).stay k3).keys
  ·rw [hall] at hs
   exact (List.mem_append.1 hs).elim (HK.out.2 s) (HK.out.1 s)
  ·rintro e w' ⟨A, n, c, cs, he, h1, h2, h3, h4, h5, h6, h7⟩
   rw [hall] at h6
   exact ⟨A, n, c, cs, he, h2, Lib.hid ⟨h1, h3, h4.mono fun i hi => Nat.le_trans (by rw [World.size_alloc]; omega) hi, h5, h6, ((Keeps.refl _ w3).alloc _).trans h7 fun _ _ h => h⟩⟩)
 go_upto_block 0 with (go_at_call 32; refine HKO.out.mono ?_; rintro e w4 ⟨A, n, c, cs, rfl, hn, H4⟩)
 have HS4 := Lib.hid (LaySt.start (HS3.out.stay H4.out.2.2.2.2.2))
 have HA4 := Lib.hid (Rd.inB H4.out.2.1 H4.out.2.2.1 (C := fun i => w3.heap.size ≤ i ∧ i < w4.heap.size) fun i h1 h2 => ⟨h1, h2⟩)
 have HP3 : Hid (w.heap.size ≤ w2.heap.size ∧ w2.heap.size ≤ p ∧ p < w3.heap.size) := Lib.hid ⟨H2.out.2.size, by rw [HPP.out]; exact Nat.le_refl _, HS3.out.two.blk.lt⟩
 have HLE : Hid (∀ i, (layTo ko lo o cs i).length ≤ i) := Lib.hid (layTo_len ko lo o cs)
 go_wp2
 go_loopg [30] n (fun gk t wx => ∃ (i : Nat) (B1 : Option Addr) (d1 : Nat) (A1 : Option Addr) (c1 : Nat) (vals : List Value), i ≤ n ∧ t = .int .i64 i ∧ gk = n - i ∧ Hid (LaySt (fun i => D i ∨ w.heap.size ≤ i) w2 w4 wx p B1 d1 A1 c1 (layTo ko lo o cs i) vals))
 case atStart => exact ⟨0, none, 0, none, 0, [], by omega, rfl, rfl, Lib.hid (by simp only [layTo, keyed, List.take_zero, List.filterMap_nil]; exact HS4.out)⟩
 case round =>
  obtain ⟨i, B1, d1, A1, c1, vals, hin, rfl, hgk, HO⟩ := hrel
  have HGK := Lib.hid hgk
  clear hgk
  by_cases hlt : i < n
  ·obtain ⟨g, o1, key, hA, hky, hck⟩ := textAt (H4.out.2.1.keep HO.out.2.2.2 (HA4.out.out fun q hq e => by have := HP3.out; have := hq.1; have := hq.2; omega)) hlt
   subst hA
   have hkin := (H4.out.2.2.2.2.1 key).1 (List.mem_of_getElem? hky)
   have hkok : rightS key = true ∧ key.size ≤ 1152921504606846976 := (List.mem_append.1 hkin).elim (HK.out.2 key) (HK.out.1 key)
   have k2 := HO.out.keep
   have HGU : Hid (∀ W, Keeps (fun _ => False) wr W → Calls Tryz.prog 33 #[.pointer (some ⟨bu, 0, none⟩), .string key] W fun e w' => ∃ x, e = .returned x ∧ Hid (OAt (fun i => (D i ∨ w.heap.size ≤ i) ∧ i < w2.heap.size) w' x (atK ku lu key) ∧ Keeps (fun _ => False) wr w')) := Lib.hid fun W hW => by
    refine (get_any W bu ku lu (H2.out.1.stay (k2.trans hW fun _ _ h => h)) HL.out.2 HP.out.2 HK.out.2 key hkok (by have := HN.out; omega)).mono ?_
    rintro e w' ⟨x, he, hx, _, hk⟩
    exact ⟨x, he, Lib.hid ⟨hx, hW.trans hk fun _ _ h => h⟩⟩
   have HGO : Hid (∀ W, Keeps (fun _ => False) wr W → Calls Tryz.prog 33 #[.pointer (some ⟨b, 0, none⟩), .string key] W fun e w' => ∃ x, e = .returned x ∧ Hid (OAt (fun i => (D i ∨ w.heap.size ≤ i) ∧ i < w2.heap.size) w' x (atK ko lo key) ∧ Keeps (fun _ => False) wr w' ∧ Keeps (fun _ => False) W w')) := Lib.hid fun W hW => by
    have ht : TAt (fun i => (D i ∨ w.heap.size ≤ i) ∧ i < w2.heap.size) W (.iface 73 (.pointer (some ⟨b, 0, none⟩))) (.obj ko lo) := (HH.out.1.mono (C := fun i => (D i ∨ w.heap.size ≤ i) ∧ i < w2.heap.size) fun i h1 h2 => ⟨.inl h1, Nat.lt_of_lt_of_le h2 H2.out.2.size⟩).stay ((H2.out.2.trans k2 fun _ _ h => h).trans hW fun _ _ h => h)
    refine (get_any W b ko lo ht HL.out.1 HP.out.1 HK.out.1 key hkok (by have := HN.out; omega)).mono ?_
    rintro e w' ⟨x, he, hx, _, hk⟩
    exact ⟨x, he, Lib.hid ⟨hx, hW.trans hk fun _ _ h => h, hk⟩⟩
   have HADD : Hid (∀ V t x, Keeps (fun _ => False) wr V → TAt (fun i => ((D i ∨ w.heap.size ≤ i) ∧ i < w2.heap.size) ∨ wr.heap.size ≤ i) V t x → Calls Tryz.prog 35 #[.pointer (some ⟨p, 0, none⟩), .string key, t] V fun e w' => e = .returned (.tuple #[]) ∧ ∃ B d A c vals, Hid (LaySt (fun i => D i ∨ w.heap.size ≤ i) w2 w4 w' p B d A c (layTo ko lo o cs i ++ [(key, x)]) vals)) := Lib.hid fun V t x hV ht =>
    HO.out.add (by have := HLE.out i; omega) key V hV t x ht fun q hq => by
     have := HP3.out
     have := HO.out.below
     rcases hq with h | h
     ·exact ⟨h.1, .inl h.2⟩
     ·exact ⟨.inr (by omega), .inr h⟩
   have HKY := Lib.hid (And.intro hky (And.intro hkin hkok))
   have HCK := Lib.hid hck
   have cky := hck
   clear hky hkin hkok hck k2
   have hi63 : (0 : Int) ≤ (i : Int) := by omega
   have hiN : (i : Int) < (n : Int) := by omega
   have tk : True := trivial
   go_upto_block 2 with (go_at_call 33; first | (have _t := tk; clear tk; refine (HGU.out _ (Keeps.refl _ _)).mono ?_; rintro e w5 ⟨x, rfl, H5⟩) | (refine (HGO.out _ H5.out.2).mono ?_; rintro e w6 ⟨y, rfl, H6⟩))
   have HX6 : Hid (OAt (fun i => (D i ∨ w.heap.size ≤ i) ∧ i < w2.heap.size) w6 x (atK ku lu key)) := Lib.hid (OAt.stay H5.out.1 H6.out.2.2)
   have HSN := Lib.hid (layTo_snoc (ko := ko) (lo := lo) (v := o) HKY.out.1)
   have HFN : Hid (atK ko lo key = none → layTo ko lo o cs (i + 1) = layTo ko lo o cs i ++ ((atK ku lu key).map fun x => (key, x)).toList) := Lib.hid fun h => by rw [HSN.out, layF_none h, ← HM.out.1, ← HM.out.2]
   have HFS : Hid (∀ y, atK ko lo key = some y → layTo ko lo o cs (i + 1) = layTo ko lo o cs i ++ (if y.sort = 1 then [] else [(key, y.lay (atK ku lu key))])) := Lib.hid fun y h => by
    rw [HSN.out, layF_some h, ← HM.out.1, ← HM.out.2]
    by_cases h1 : y.sort = 1 <;> simp [h1]
   cases hay : atK ko lo key with
   | none =>
    obtain ⟨xj, hxj⟩ : ∃ xj, atK ku lu key = some xj := by
     cases h : atK ku lu key with
     | some x => exact ⟨x, rfl⟩
     | none => exact absurd HKY.out.2.1 fun h2 => (List.mem_append.1 h2).elim (atK_none HL.out.2 h) (atK_none HL.out.1 hay)
    have hy : y = .nilIface := by have := H6.out.1; rw [hay] at this; exact this
    have hx : TAt (fun i => (D i ∨ w.heap.size ≤ i) ∧ i < w2.heap.size) w6 x xj := by have := HX6.out; rw [hxj] at this; exact this
    obtain ⟨T, xv, hxv⟩ := hx.iface
    subst hy hxv
    have HA1 := Lib.hid (HADD.out w6 _ xj H6.out.2.1 (hx.mono fun q hq _ => .inl hq))
    have HNX := Lib.hid (HFN.out hay)
    have HXJ := Lib.hid hxj
    clear hx hay hxj
    go_wp2_with (go_at_call 35; refine HA1.out.mono ?_; rintro e w7 ⟨rfl, B7, d7, A7, c7, vals7, HO7⟩)
    go_roundg (n - (i + 1))
    case measure => rw [HGK.out]; omega
    case rel => exact ⟨i + 1, B7, d7, A7, c7, vals7, by omega, by go_num, rfl, Lib.hid (by rw [HNX.out, HXJ.out]; exact HO7.out)⟩
   | some yj =>
    have hy : TAt (fun i => (D i ∨ w.heap.size ≤ i) ∧ i < w2.heap.size) w6 y yj := by have := H6.out.1; rw [hay] at this; exact this
    obtain ⟨T, yv, hyv⟩ := hy.iface
    subst hyv
    have hym : yj ∈ lo := atK_mem hay
    have HNX := Lib.hid (HFS.out yj hay)
    have HNU : Hid (Calls Tryz.prog 86 #[.iface T yv] w6 fun e w' => e = .returned (.bool (yj.sort == 1)) ∧ Keeps (fun _ => False) w6 w') := Lib.hid (isnull_any w6 _ yj hy)
    by_cases hy1 : yj.sort = 1
    ·have hb1 : (yj.sort == 1) = true := by simpa using hy1
     have HY1 := Lib.hid hy1
     rw [hb1] at HNU
     clear hy hay hb1 hy1 hym
     go_wp2_with (go_at_call 86; refine HNU.out.mono ?_; rintro e w7 ⟨rfl, hk7⟩; have HK7 := Lib.hid hk7; clear hk7)
     go_roundg (n - (i + 1))
     case measure => rw [HGK.out]; omega
     case rel => exact ⟨i + 1, B1, d1, A1, c1, vals, by omega, by go_num, rfl, Lib.hid (by rw [HNX.out, if_pos HY1.out, List.append_nil]; exact (HO.out.stay H6.out.2.1).stay HK7.out)⟩
    ·have hb1 : (yj.sort == 1) = false := by simpa using hy1
     have HY1 := Lib.hid hy1
     rw [hb1] at HNU
     have HLA : Hid (∀ W, Keeps (fun _ => False) w6 W → Calls Tryz.prog 49 #[.iface T yv, x] W fun e w' => ∃ t, e = .returned t ∧ Hid (TAt (fun i => ((D i ∨ w.heap.size ≤ i) ∧ i < w2.heap.size) ∨ wr.heap.size ≤ i) w' t (yj.lay (atK ku lu key)) ∧ Keeps (fun _ => False) wr w')) := Lib.hid fun W hW => by
      refine (HIH.out yj hym (atK ku lu key) (fun x hx => by rw [← HM.out.2]; exact atK_mem hx) _ W _ x (hy.stay hW) (OAt.stay HX6.out hW)).mono ?_
      rintro e w' ⟨t, he, ht, hk⟩
      exact ⟨t, he, Lib.hid ⟨ht.mono fun q hq _ => hq.imp id fun h => Nat.le_trans (H6.out.2.1.trans hW fun _ _ h => h).size h, (H6.out.2.1.trans hW fun _ _ h => h).trans hk fun _ _ h => h⟩⟩
     clear hy hay hb1 hy1 hym
     go_wp2_with (first
      | (go_at_call 86; refine HNU.out.mono ?_; rintro e w7 ⟨rfl, hk7⟩; have HK7 := Lib.hid hk7; clear hk7)
      | (go_at_call 49; refine (HLA.out _ HK7.out).mono ?_; rintro e w8 ⟨t8, rfl, H8⟩)
      | (go_at_call 35; refine (HADD.out _ _ _ H8.out.2 H8.out.1).mono ?_; rintro e w9 ⟨rfl, B9, d9, A9, c9, vals9, HO9⟩))
     go_roundg (n - (i + 1))
     case measure => rw [HGK.out]; omega
     case rel => exact ⟨i + 1, B9, d9, A9, c9, vals9, by omega, by go_num, rfl, Lib.hid (by rw [HNX.out, if_neg HY1.out]; exact HO9.out)⟩
  ·obtain rfl : i = n := by omega
   have htk : layTo ko lo o cs i = layM ko lo o (unionK ((mem2 o).1 ++ ko)) := by
    refine layTo_all (by rw [H4.out.1]; exact Nat.le_refl _) H4.out.2.2.2.1 ?_
    rw [← HM.out.1]
    exact H4.out.2.2.2.2.1
   have hth := HO.out.thing (fun q h => .inr (Nat.le_trans H2.out.2.size h))
   rw [htk] at hth
   have HTH := Lib.hid hth
   have HKW := Lib.hid (H2.out.2.trans HO.out.keep fun _ _ h => h)
   clear hth htk
   go_wp2
   go_ret
   exact ⟨_, rfl, HTH.out, HKW.out⟩
theorem lay_any : ∀ (p : JV), JOk p → p.nodes ≤ 65536 → p.bytes ≤ 2097152 → ∀ (o : Option JV), OOk o → (∀ x, o = some x → x.nodes ≤ 65536 ∧ x.bytes ≤ 2097152) → ∀ (D : Nat → Prop) (w : World) (t u : Value), TAt D w t p → OAt D w u o → Calls Tryz.prog 49 #[t, u] w (OfPost D w (p.lay o)) := by
 refine JV.by_parts fun p ih hp hn hb o ho hob D w t u ht hu => ?_
 cases ht with
 | @whole it j hj hs => exact lay_whole_any w it p hj hs u o
 | @obj b A B c d vs ks l rf hDb hb2 hrf hk2 hok hr hio hl =>
  have hm := mem2_ok ho
  have hf := hp.form
  have hall := TAt.obj (D := fun i => D i ∧ i < w.heap.size) ⟨hDb, hb2.lt⟩ hb2 (hrf.imp id fun h => h.mono fun i h1 h2 => ⟨h1, h2⟩) hk2 (Rd.inB hk2 hok fun i h1 h2 => ⟨h1, h2⟩) hr (Rd.inB hr hio fun i h1 h2 => ⟨h1, h2⟩) (fun i v x h1 h2 => (hl i v x h1 h2).mono fun i h1 h2 => ⟨h1, h2⟩)
  have hkb : ∀ (j : JV), j.bytes ≤ 2097152 → JOk j → KeysOk j.keys := fun j h1 h2 s hs => ⟨h2.form.2.2.2.1 s hs, by
   have h3 := sumN_mem (List.mem_map.2 ⟨s, hs, rfl⟩ : s.size ∈ j.keys.map fun k => k.size)
   have h4 := own_eq j
   have h5 := JV.bytes_eq j
   omega⟩
  have hnl : ∀ (j : JV), j.nodes ≤ 65536 → JOk j → j.keys.length ≤ 65536 := fun j h1 h2 => by
   have h3 := items_nodes j
   have h4 := h2.form.1
   omega
  have hpart : ∀ (j x : JV), x ∈ j.items → j.nodes ≤ 65536 → j.bytes ≤ 2097152 → x.nodes ≤ 65536 ∧ x.bytes ≤ 2097152 := fun j x hx h1 h2 => by
   have h3 := sumN_mem (List.mem_map.2 ⟨x, hx, rfl⟩ : x.nodes ∈ j.items.map fun x => x.nodes)
   have h4 := sumN_mem (List.mem_map.2 ⟨x, hx, rfl⟩ : x.bytes ∈ j.items.map fun x => x.bytes)
   rw [JV.nodes_eq] at h1
   rw [JV.bytes_eq] at h2
   omega
  have hk2' : KeysOk (mem2 o).1 ∧ (mem2 o).1.length ≤ 65536 ∧ ∀ x ∈ (mem2 o).2, x.nodes ≤ 65536 ∧ x.bytes ≤ 2097152 := by
   cases o with
   | none => exact ⟨fun s hs => absurd hs List.not_mem_nil, Nat.zero_le _, fun x hx => absurd hx List.not_mem_nil⟩
   | some j =>
    have h1 := hob j rfl
    have h2 := ho j rfl
    have h3 := hkb j h1.2 h2
    have h4 := hnl j h1.1 h2
    have h5 := fun x hx => hpart j x hx h1.1 h1.2
    cases j <;> first
     | exact ⟨h3, h4, h5⟩
     | exact ⟨fun s hs => absurd hs List.not_mem_nil, Nat.zero_le _, fun x hx => absurd hx List.not_mem_nil⟩
  refine (lay_obj_any (D := fun i => D i ∧ i < w.heap.size) w b ks l hall (fun i h => h.2) u o (hu.mono fun i h1 h2 => ⟨h1, h2⟩) (hf.2.1 rfl) hm.1 hf.2.2.1 hm.2.1 (hkb _ hb hp) hk2'.1 (by have := hnl _ hn hp; have := hk2'.2.1; have h9 : (JV.obj ks l).keys.length = ks.length := rfl; omega) ?_).mono ?_
  ·intro y hy ou hou D' W t' u' ht' hu'
   have hyp := hpart (.obj ks l) y hy hn hb
   exact ih y hy (hf.2.2.2.2.2 y hy) hyp.1 hyp.2 ou (fun x hx => hm.2.2.2 x (hou x hx)) (fun x hx => hk2'.2.2 x (hou x hx)) D' W t' u' ht' hu'
  ·rintro e w' ⟨t', he, ht', hk'⟩
   exact ⟨t', he, ht'.mono fun i hi _ => hi.imp (fun h => h.1) id, hk'⟩
end Go.Proofs.YtdmcioghdindfaaGreatDoor
namespace Go.Proofs.YtdmcioghdindfaaGreatDoor
open Go Go.RowKit Go.Aff Go.Json
attribute [local go_sem] Oper.semAt_some
theorem mem2_within : ∀ {o : Option JV}, (∀ x, o = some x → x.within) → ∀ x ∈ (mem2 o).2, x.within
 | none, _, _, hx => absurd hx List.not_mem_nil
 | some .null, _, _, hx => absurd hx List.not_mem_nil
 | some (.flag _), _, _, hx => absurd hx List.not_mem_nil
 | some (.num _), _, _, hx => absurd hx List.not_mem_nil
 | some (.text _), _, _, hx => absurd hx List.not_mem_nil
 | some (.list _), _, _, hx => absurd hx List.not_mem_nil
 | some (.obj ks l), h, _, hx => item_within (j := .obj ks l) hx (h _ rfl)
theorem lay_fit : ∀ (p : JV), p.within → JOk p → ∀ o, OOk o → (∀ x, o = some x → x.within) → Fit (p.lay o) := by
 refine JV.by_parts fun p ih hw hp o ho how => ?_
 by_cases hs : p.sort = 6
 ·match p, hs, ih, hp, hw with
  | .obj ko lo, _, ih, hp, hw =>
   rw [lay_obj]
   refine .mk _ (fun h => absurd rfl h) fun _ x hx => ?_
   obtain ⟨q, hq, rfl⟩ := List.mem_map.1 (show x ∈ (layM ko lo o (unionK ((mem2 o).1 ++ ko))).map (·.2) from hx)
   have h : layF ko lo o q.1 = some q.2 := (keyed_mem.1 hq).2
   have hm2 := mem2_within how
   cases hy : atK ko lo q.1 with
   | none =>
    rw [layF_none hy] at h
    exact fit_within _ (hm2 _ (atK_some_mem (mem2_ok ho).2.1 h).2)
   | some y =>
    rw [layF_some hy] at h
    have hm := (atK_some_mem hp.form.2.2.1 hy).2
    by_cases h1 : y.sort = 1
    ·rw [if_pos h1] at h; cases h
    ·rw [if_neg h1] at h
     injection h with h
     rw [← h]
     exact ih y hm (item_within (j := .obj ko lo) hm hw) (hp.form.2.2.2.2.2 y hm) _ (at_ok (mem2_ok ho).2.1 (mem2_ok ho).2.2.2) fun x hx => hm2 x (atK_some_mem (mem2_ok ho).2.1 hx).2
 ·rw [lay_whole p o hs]; exact fit_within p hw
theorem lay_small {p : JV} (hp : JOk p) (hw : p.within) {j : JV} (hj : JOk j) (hwj : j.within) : (p.lay (some j)).nodes ≤ 131072 ∧ (p.lay (some j)).bytes ≤ 4194304 := by
 have ho : OOk (some j) := fun x hx => by injection hx with hx; rw [← hx]; exact hj
 have h1 : (p.lay (some j)).nodes ≤ p.nodes + j.nodes := lay_weight weight_nodes p hp _ ho
 have h2 : (p.lay (some j)).bytes ≤ p.bytes + j.bytes := lay_weight weight_bytes p hp _ ho
 have := hw.1; have := hw.2.1; have := hwj.1; have := hwj.2.1
 exact ⟨by omega, by omega⟩
theorem OOk.one {j : JV} (h : JOk j) : OOk (some j) := fun x hx => by injection hx with hx; rw [← hx]; exact h
theorem merge_tree {D : Nat → Prop} (w : World) (q q2 : Nat) (v v2 : Value) (j j2 : JV) (h : TreeAt D w q v j) (h2 : TreeAt D w q2 v2 j2) (hj : JOk j) (hj2 : JOk j2) (hw : j.within) (hw2 : j2.within) :
  Calls Tryz.prog 18 #[.pointer (some ⟨q, 0, none⟩), .pointer (some ⟨q2, 0, none⟩)] w (MadeTree D w (j2.lay (some j))) := by
 obtain ⟨T, y, hv⟩ := h.2.2.iface
 obtain ⟨T2, y2, hv2⟩ := h2.2.2.iface
 subst hv hv2
 have k1 : Keeps (fun _ => False) w (w.alloc (.cells #[.pointer (some ⟨q, 0, none⟩), .pointer (some ⟨q2, 0, none⟩)] 26)) := (Keeps.refl _ w).alloc _
 have HNO : Hid (Calls Tryz.prog 27 #[.slice (some ⟨w.heap.size, 0, none⟩) 2 2] (w.alloc (.cells #[.pointer (some ⟨q, 0, none⟩), .pointer (some ⟨q2, 0, none⟩)] 26)) fun e w' => e = .returned .nilIface ∧ Keeps (fun _ => False) w w') :=
  Lib.hid ((none_any _ (some ⟨w.heap.size, 0, none⟩) 2 2 [some ⟨q, 0, none⟩, some ⟨q2, 0, none⟩] ⟨rfl, fun _ => ⟨_, 0, rfl, fun j _ => by rw [Nat.zero_add]; exact (Blk.new w 26 [.pointer (some ⟨q, 0, none⟩), .pointer (some ⟨q2, 0, none⟩)]).cell j⟩⟩ (by omega)).mono fun e w' h => ⟨h.1, h.2 ▸ k1⟩)
 have HR2 : Hid (∀ W, Keeps (fun _ => False) w W → Calls Tryz.prog 38 #[.pointer (some ⟨q2, 0, none⟩)] W fun e w2 => e = .returned (.agg #[.iface T2 y2]) ∧ Hid (Keeps (fun _ => False) w w2)) := Lib.hid fun W hW => (root_any _ q2 T2 y2 (hW.blk h2.2.1 (fun h => h))).mono fun e w' h => ⟨h.1, Lib.hid (hW.trans h.2 fun _ _ h => h)⟩
 have HR1 : Hid (∀ W, Keeps (fun _ => False) w W → Calls Tryz.prog 38 #[.pointer (some ⟨q, 0, none⟩)] W fun e w2 => e = .returned (.agg #[.iface T y]) ∧ Hid (Keeps (fun _ => False) w w2) ∧ Hid (Keeps (fun _ => False) W w2)) := Lib.hid fun W hW => (root_any _ q T y (hW.blk h.2.1 (fun h => h))).mono fun e w' h => ⟨h.1, Lib.hid (hW.trans h.2 fun _ _ h => h), Lib.hid h.2⟩
 have hns : j.nodes ≤ 1048576 := Nat.le_trans hw.1 (by decide)
 have hns2 : j2.nodes ≤ 1048576 := Nat.le_trans hw2.1 (by decide)
 have HO2 : Hid (∀ W, Keeps (fun _ => False) w W → Calls Tryz.prog 37 #[.agg #[.iface T2 y2]] W fun e w' => ∃ t, e = .returned t ∧ Hid (TAt (fun i => D i ∨ w.heap.size ≤ i) w' t j2) ∧ Hid (Keeps (fun _ => False) w w')) := Lib.hid fun W hW => (of_any j2 hj2 hns2 D W _ (h2.2.2.stay hW)).mono fun e w' hh => by
  obtain ⟨t, he, ht, hk⟩ := hh
  exact ⟨t, he, Lib.hid (ht.mono fun i hi _ => hi.imp id fun h => Nat.le_trans hW.size h), Lib.hid (hW.trans hk fun _ _ h => h)⟩
 have HO1 : Hid (∀ W, Keeps (fun _ => False) w W → Calls Tryz.prog 37 #[.agg #[.iface T y]] W fun e w' => ∃ t, e = .returned t ∧ Hid (TAt (fun i => D i ∨ w.heap.size ≤ i) w' t j) ∧ Hid (Keeps (fun _ => False) w w') ∧ Hid (Keeps (fun _ => False) W w')) := Lib.hid fun W hW => (of_any j hj hns D W _ (h.2.2.stay hW)).mono fun e w' hh => by
  obtain ⟨t, he, ht, hk⟩ := hh
  exact ⟨t, he, Lib.hid (ht.mono fun i hi _ => hi.imp id fun h => Nat.le_trans hW.size h), Lib.hid (hW.trans hk fun _ _ h => h), Lib.hid hk⟩
 have HLA : Hid (∀ W t u, Keeps (fun _ => False) w W → TAt (fun i => D i ∨ w.heap.size ≤ i) W t j2 → TAt (fun i => D i ∨ w.heap.size ≤ i) W u j → Calls Tryz.prog 49 #[t, u] W fun e w' => ∃ t, e = .returned t ∧ Hid (TAt (fun i => D i ∨ w.heap.size ≤ i) w' t (j2.lay (some j))) ∧ Hid (Keeps (fun _ => False) w w')) := Lib.hid fun W t u hW ht hu => (lay_any j2 hj2 hw2.1 hw2.2.1 (some j) (OOk.one hj) (fun x hx => by injection hx with hx; rw [← hx]; exact ⟨hw.1, hw.2.1⟩) _ W t u ht hu).mono fun e w' hh => by
  obtain ⟨t, he, ht, hk⟩ := hh
  exact ⟨t, he, Lib.hid (ht.mono fun i hi _ => hi.elim id fun h => .inr (Nat.le_trans hW.size h)), Lib.hid (hW.trans hk fun _ _ h => h)⟩
 have hsm := lay_small hj2 hw2 hj hw
 have HTR : Hid (∀ W t, Keeps (fun _ => False) w W → TAt (fun i => D i ∨ w.heap.size ≤ i) W t (j2.lay (some j)) → Calls Tryz.prog 36 #[t] W fun e w' => ∃ p x, e = .returned (.tuple #[p, x]) ∧ MadeTree D w (j2.lay (some j)) (.returned (.tuple #[p, x])) w') := Lib.hid fun W t hW ht => (tree_any W t _ ht (lay_ok j2 hj2 _ (OOk.one hj)) (lay_fit j2 hw2 hj2 _ (OOk.one hj) (fun x hx => by injection hx with hx; rw [← hx]; exact hw)) (Nat.le_trans hsm.1 (by decide)) (Nat.le_trans hsm.2 (by decide))).mono fun e w' hh => (hh.from_ hW fun i hi => hi).ret
 clear h h2 hj hj2 hw hw2 k1 hns hns2 hsm
 have tk : True := trivial
 have tq : True := trivial
 go_enter Tryz.func18, Tryz.ntmps18
 go_wp2_with (first
  | (go_at_call 27; refine HNO.out.mono ?_; rintro e w1 ⟨rfl, hk1⟩; have HK1 := Lib.hid hk1; clear hk1)
  | (go_at_call 38; have _t := tk; clear tk; refine (HR2.out _ (by first | exact HK1.out | exact HK1.out.drew)).mono ?_; rintro e w2 ⟨rfl, HK2⟩)
  | (go_at_call 37; have _t := tq; clear tq; refine (HO2.out _ HK2.out).mono ?_; rintro e w3 ⟨t3, rfl, ht3, HK3⟩)
  | (go_at_call 38; refine (HR1.out _ HK3.out).mono ?_; rintro e w4 ⟨rfl, HK4, HL4⟩)
  | (go_at_call 37; refine (HO1.out _ HK4.out).mono ?_; rintro e w5 ⟨t5, rfl, ht5, HK5, HL5⟩)
  | (go_at_call 49; refine (HLA.out _ _ _ HK5.out ((ht3.out.stay HL4.out).stay HL5.out) ht5.out).mono ?_; rintro e w6 ⟨t6, rfl, ht6, HK6⟩)
  | (go_at_call 36; refine (HTR.out _ _ HK6.out ht6.out).mono ?_; rintro e w7 ⟨p7, x7, rfl, hq⟩))
 go_ret2
 exact hq
end Go.Proofs.YtdmcioghdindfaaGreatDoor
namespace Go.Proofs.YtdmcioghdindfaaGreatDoor
open Go Go.RowKit Go.Aff Go.Json
structure StepsIn (w : World) (A : Option Addr) (n : Nat) (css : List (List Value)) (l : List StepV) : Prop where
 rd : RdS 6 w A n css.flatten
 len : l.length = n
 cells : css.length = n
 at_ : ∀ (i : Nat) (s : StepV), l[i]? = some s → ∃ B d, css[i]? = some (stepV s B d) ∧ Rd w B s.keys.length (s.keys.map .string) ∧ s.keys.length ≤ d
section
variable {w w' : World} {A : Option Addr} {n : Nat} {css : List (List Value)} {l : List StepV}
theorem StepsIn.stay (h : StepsIn w A n css l) (hk : Keeps (fun _ => False) w w') : StepsIn w' A n css l := ⟨h.rd.stay hk, h.len, h.cells, fun i s hs => by
 obtain ⟨B, d, h1, h2, h3⟩ := h.at_ i s hs
 exact ⟨B, d, h1, h2.keep hk (fun _ _ _ h => h), h3⟩⟩
theorem StepsIn.six (h : StepsIn w A n css l) : ∀ c ∈ css, c.length = 6 ∧ ∀ u ∈ c, u.oneCell' = true := fun c hc => by
 obtain ⟨i, hi⟩ := List.getElem?_of_mem hc
 have hlt := (List.getElem?_eq_some_iff.1 hi).1
 obtain ⟨s, hs⟩ : ∃ s, l[i]? = some s := ⟨_, List.getElem?_eq_getElem (by rw [h.len, ← h.cells]; exact hlt)⟩
 obtain ⟨B, d, h1, _, _⟩ := h.at_ i s hs
 rw [hi] at h1
 injection h1 with h1
 rw [h1]
 exact ⟨rfl, stepV_one _ _ _⟩
theorem StepsIn.to (h : StepsIn w A n css l) : StepsR w A l := fun k s hs => by
 have hk := (List.getElem?_eq_some_iff.1 hs).1
 rw [h.len] at hk
 obtain ⟨B, d, h1, h2, h3⟩ := h.at_ k s hs
 obtain ⟨g, o, e, hc⟩ := h.rd.2 (by omega)
 exact ⟨g, o, B, d, e, item_range hc hk (fun c hc => (h.six c hc).1) h1, h2, h3⟩
end
def bulkS (s : StepV) : Nat := 1 + s.text.size + s.keys.length + byF s.keys
structure Modest (l : List StepV) : Prop where
 all : sumN (l.map bulkS) ≤ 1048576
 bits : ∀ s ∈ l, s.bits < 18446744073709551616
 count : ∀ s ∈ l, s.count ≤ 9223372036854775807
theorem Modest.one {l : List StepV} (h : Modest l) {s : StepV} (hs : s ∈ l) : bulkS s ≤ 1048576 := Nat.le_trans (sumN_mem (List.mem_map.2 ⟨s, hs, rfl⟩)) h.all
theorem Modest.len {l : List StepV} (h : Modest l) : l.length ≤ 1048576 := by
 have : ∀ m : List StepV, m.length ≤ sumN (m.map bulkS) := by
  intro m
  induction m with
  | nil => exact Nat.zero_le _
  | cons a m ih => simp only [List.map_cons, sumN, List.length_cons]; unfold bulkS; unfold bulkS at ih; omega
 exact Nat.le_trans (this l) h.all
theorem Modest.fits {l : List StepV} (h : Modest l) : ∀ s ∈ l, StepFits2 s := fun s hs => by
 have h1 := h.one hs
 unfold bulkS at h1
 exact ⟨⟨by omega, by omega, by omega, h.bits s hs⟩, h.count s hs⟩
theorem results_tct {P : Program} {w : World} {g : Nat} {t : TypeId} {cs : List Value} {fn : Func} {u0 p u u2 : Tmp} {ty : TypeId} (h : fn.results = #[.tmp u0, .cell p ty, .tmp u, .tmp u2]) (tmps : Array Value) (d : TypeDesc)
  (hp : tmps.getD p undef = .pointer (some ⟨g, 0, none⟩)) (hg : Blk w g t cs)
  (hu : P.underlying ty = some d) (hd : (match d with | .struct _ | .array _ _ => true | _ => false) = true) (hi : (P.info? ty).map (·.size) = some cs.length) :
  (results fn tmps).run P w = .ok (.tuple #[tmps.getD u0 undef, .agg cs.toArray, tmps.getD u undef, tmps.getD u2 undef]) w := by
 have hl := run_loadVar_row (P := P) w g t ty cs.toArray (0, 0) d hg hu hd (by simpa using hi)
 have hp' : tmps[p]?.getD undef = .pointer (some ⟨g, 0, none⟩) := by simpa using hp
 simp [results, h, hp', asAddr, hl, Sem.run_bind, Result.andThen]
def LMadePost (w : World) (l : List StepV) (e : Ending) (w' : World) : Prop := Keeps (fun _ => False) w w' ∧ match buildF l with
 | .inl _ => e = .returned (.tuple #[.pointer none, .agg valZ.toArray, .bool false, .bool true])
 | .inr j => ∃ q v rv, e = .returned (.tuple #[.pointer (some ⟨q, 0, none⟩), .agg rv.toArray, .bool true, .bool true]) ∧ TreeAt (fun i => w.heap.size ≤ i) w' q v j ∧ RAt (fun i => w.heap.size ≤ i) w' rv j
structure Copying (w1 wx : World) (L : Option Addr) (i cl : Nat) (css : List (List Value)) : Prop where
 own : MineS 6 w1 wx 65 L i cl (css.take i).flatten
theorem rep_take {css : List (List Value)} {i : Nat} {cs : List Value} (h : css[i]? = some cs) : (css.take (i + 1)).flatten = (css.take i).flatten ++ cs := by
 rw [List.take_add_one, h]
 simp
theorem buildF_few {l : List StepV} {j : JV} (h : buildF l = .inr j) : l.length ≤ 65536 := by
 unfold buildF at h
 split at h
 ·cases h
 ·omega
theorem rowF_inl : ∀ (l : List StepV) (i : Nat) (P : List JV) (k : Int) (a : Nat), rowF i P l = .inl (k, a) → k ≠ 0
 | [], _, _, _, _, h => by cases h
 | s :: l, i, P, k, a, h => by
  unfold rowF at h
  cases hd : doF P s with
  | inl e =>
   rw [hd] at h
   injection h with h
   injection h with h1 h2
   rw [← h1]
   exact doF_inl hd
  | inr Q =>
   rw [hd] at h
   exact rowF_inl l (i + 1) Q k a h
theorem buildF_inl {l : List StepV} {k : Int} {a : Option Nat} (h : buildF l = .inl (k, a)) : k ≠ 0 := by
 unfold buildF at h
 split at h
 ·injection h with h; injection h with h1 _; omega
 split at h
 ·rename_i e i hr
  injection h with h
  injection h with h1 h2
  rw [← h1]
  exact rowF_inl l 0 [] e i hr
 ·split at h
  ·cases h
  ·injection h with h; injection h with h1 _; omega
theorem lmade_any (w : World) (A : Option Addr) (n c : Nat) (css : List (List Value)) (l : List StepV) (hS : StepsIn w A n css l) (hM : Modest l) :
  Calls Tryz.prog 8 #[.slice A n c] w (LMadePost w l) := by
 have HS := Lib.hid hS
 have HM := Lib.hid hM
 have hn : n ≤ 1048576 := by rw [← hS.len]; exact hM.len
 have HB0 := Lib.hid (And.intro ((Keeps.refl (fun _ => False) w).alloc (.cells valZ.toArray 31)) (Blk.new w 31 valZ))
 unfold valZ at HB0
 clear hS hM
 go_enter Tryz.func8, Tryz.ntmps8
 go_upto_block 0 with fail
 obtain ⟨b, hb⟩ : ∃ b, b = w.heap.size := ⟨_, rfl⟩
 rw [← hb] at HB0 ⊢
 refine gen_codeF (fun W => Keeps (fun _ => False) w W ∧ Blk W b 31 [.int .i64 0, .bool false, .int .u64 0, .string .empty, .slice none 0 0, .slice none 0 0]) HB0.out ?_
 intro w1 hb1
 have HB1 := Lib.hid hb1
 have HBW := Lib.hid hb
 clear hb1 HB0 hb
 go_wp2
 go_loopg [6, 7] n (fun gk y t wx => ∃ (i : Nat) (L : Option Addr) (cl : Nat), i ≤ n ∧ y = .slice L i cl ∧ t = .int .i64 i ∧ gk = n - i ∧ Hid (Copying w1 wx L i cl css))
 case atStart => exact ⟨0, none, 0, by omega, rfl, rfl, rfl, Lib.hid ⟨by rw [List.take_zero]; exact MineS.nil 6 w1 _⟩⟩
 case round =>
  obtain ⟨i, L, cl, hin, rfl, rfl, hgk, HO⟩ := hrel
  have HGK := Lib.hid hgk
  clear hgk
  have HKR : Hid (Keeps (fun _ => False) w wr) := Lib.hid (HB1.out.1.trans HO.out.own.2.1 (fun _ _ h => h))
  by_cases hlt : i < n
  ·have hI := HS.out.stay HKR.out
   obtain ⟨s, hs⟩ : ∃ s, l[i]? = some s := ⟨_, List.getElem?_eq_getElem (by rw [hI.len]; exact hlt)⟩
   obtain ⟨B, d, hcs, _, _⟩ := hI.at_ i s hs
   obtain ⟨g, o, hA, hc⟩ := hI.rd.2 (by omega)
   subst hA
   have hrg := item_range hc hlt (fun c hc => (hI.six c hc).1) hcs
   obtain ⟨kl, hkl⟩ : ∃ kl, kl = s.keys.length := ⟨_, rfl⟩
   have HX : Hid (wr.cell? ⟨g, o + i * 6, none⟩ = some (.int .i64 s.sort) ∧ wr.cell? ⟨g, o + i * 6 + 1, none⟩ = some (.bool s.flag) ∧ wr.cell? ⟨g, o + i * 6 + 2, none⟩ = some (.int .u64 s.bits) ∧ wr.cell? ⟨g, o + i * 6 + 3, none⟩ = some (.string s.text) ∧ wr.cell? ⟨g, o + i * 6 + 4, none⟩ = some (.int .i64 s.count) ∧ wr.cell? ⟨g, o + i * 6 + 5, none⟩ = some (.slice B kl d)) := Lib.hid ⟨by have := hrg 0 _ rfl; simpa using this, hrg 1 _ rfl, hrg 2 _ rfl, hrg 3 _ rfl, hrg 4 _ rfl, by rw [hkl]; exact hrg 5 _ rfl⟩
   have HNX : Hid ((css.take (i + 1)).flatten = (css.take i).flatten ++ [.int .i64 s.sort, .bool s.flag, .int .u64 s.bits, .string s.text, .int .i64 s.count, .slice B kl d]) := Lib.hid (by rw [hkl]; exact rep_take hcs)
   have hi0 : (0 : Int) ≤ (i : Int) := by omega
   have hiN : (i : Int) < (n : Int) := by omega
   clear hI hs hcs hc hrg hkl
   go_upto_region 5 with fail
   refine wp_region_tail (S := Keeps (fun _ => False) wr) 33 (by kernel_rfl) (Keeps.refl _ _).drew (fun hHeld => ?_)
   refine tJ 0 19 ?_
   try simp only [pu]
   refine tJ 1 20 ?_
   try simp only [pu]
   refine tJ 2 21 ?_
   try simp only [pu]
   refine tJ 3 22 ?_
   try simp only [pu]
   refine tJ 4 23 ?_
   try simp only [pu]
   refine tT [5, 31, 32] (i := 5) (oi := ⟨some 24, _, _, _, _, _⟩) (v := ?_) rfl (Or.inl ⟨by rfl, ?_⟩) hHeld ?_
   rotate_left
   ·intro w' hSw
    have cv := cell_keep hSw HX.out.1
    go_simp
    first | done | rfl
   try simp only [pu]
   refine tJ 6 25 ?_
   try simp only [pu]
   refine tJ 7 26 ?_
   try simp only [pu]
   refine tJ 8 27 ?_
   try simp only [pu]
   refine tJ 9 28 ?_
   try simp only [pu]
   refine tT [10, 31, 32] (i := 10) (oi := ⟨some 29, _, _, _, _, _⟩) (v := ?_) rfl (Or.inl ⟨by rfl, ?_⟩) hHeld ?_
   rotate_left
   ·intro w' hSw
    have cv := cell_keep hSw HX.out.2.1
    go_simp
    first | done | rfl
   try simp only [pu]
   refine tJ 11 30 ?_
   try simp only [pu]
   refine tJ 12 31 ?_
   try simp only [pu]
   refine tJ 13 32 ?_
   try simp only [pu]
   refine tJ 14 33 ?_
   try simp only [pu]
   refine tT [15, 31, 32] (i := 15) (oi := ⟨some 34, _, _, _, _, _⟩) (v := ?_) rfl (Or.inl ⟨by rfl, ?_⟩) hHeld ?_
   rotate_left
   ·intro w' hSw
    have cv := cell_keep hSw HX.out.2.2.1
    go_simp
    first | done | rfl
   try simp only [pu]
   refine tJ 16 35 ?_
   try simp only [pu]
   refine tJ 17 36 ?_
   try simp only [pu]
   refine tJ 18 37 ?_
   try simp only [pu]
   refine tJ 19 38 ?_
   try simp only [pu]
   refine tT [20, 31, 32] (i := 20) (oi := ⟨some 39, _, _, _, _, _⟩) (v := ?_) rfl (Or.inl ⟨by rfl, ?_⟩) hHeld ?_
   rotate_left
   ·intro w' hSw
    have cv := cell_keep hSw HX.out.2.2.2.1
    go_simp
    first | done | rfl
   try simp only [pu]
   refine tJ 21 40 ?_
   try simp only [pu]
   refine tJ 22 41 ?_
   try simp only [pu]
   refine tJ 23 42 ?_
   try simp only [pu]
   refine tJ 24 43 ?_
   try simp only [pu]
   refine tT [25, 31, 32] (i := 25) (oi := ⟨some 44, _, _, _, _, _⟩) (v := ?_) rfl (Or.inl ⟨by rfl, ?_⟩) hHeld ?_
   rotate_left
   ·intro w' hSw
    have cv := cell_keep hSw HX.out.2.2.2.2.1
    go_simp
    first | done | rfl
   try simp only [pu]
   refine tJ 26 45 ?_
   try simp only [pu]
   refine tJ 27 46 ?_
   try simp only [pu]
   refine tJ 28 47 ?_
   try simp only [pu]
   refine tJ 29 48 ?_
   try simp only [pu]
   refine tT [30, 31, 32] (i := 30) (oi := ⟨some 49, _, _, _, _, _⟩) (v := ?_) rfl (Or.inl ⟨by rfl, ?_⟩) hHeld ?_
   rotate_left
   ·intro w' hSw
    have cv := cell_keep hSw HX.out.2.2.2.2.2
    go_simp
    first | done | rfl
   try simp only [pu]
   refine tJ 31 50 ?_
   try simp only [pu]
   refine wpAnyT_step (i := 32) (o := ⟨some 51, _, _, _, _, _⟩) (by kernel_rfl) rfl (fun K hK => ?_)
   refine step_box_S rfl 63 65 (.tmp 50) rfl (.agg #[.int .i64 0, .bool false, .int .u64 0, .string .empty, .int .i64 0, .slice none 0 0]) 6 Tryz.underlying63 infoStep2 (by decide) (by decide) [.int .i64 s.sort, .bool s.flag, .int .u64 s.bits, .string s.text, .int .i64 s.count, .slice B kl d] rfl rfl ?_
   refine hK.out _ _ (hHeld.alloc _) (fun hHeld => ?_)
   clear hK K
   try simp only [pu]
   refine wpAnyT_tail (i := 33) (o := ⟨some 52, _, _, _, _, _⟩) (by kernel_rfl) (by kernel_rfl) rfl (fun K hK => ?_)
   refine step_append_own rfl (.tmp 19) (.tmp 51) 63 rfl 65 (.agg #[.int .i64 0, .bool false, .int .u64 0, .string .empty, .int .i64 0, .slice none 0 0]) 6 72 Tryz.underlying63 infoStep rfl (by decide) L i cl _ rfl (HO.out.own.keep hHeld).1 ⟨wr.drew.heap.size, 0, none⟩ 1 1 [.int .i64 s.sort, .bool s.flag, .int .u64 s.bits, .string s.text, .int .i64 s.count, .slice B kl d] rfl rfl (fun j u hu => by rw [add_at, Nat.zero_add]; exact ((Blk.new _ _ _).cell j).trans hu) (by intro u hu; simp only [List.mem_cons, List.not_mem_nil, or_false] at hu; rcases hu with rfl | rfl | rfl | rfl | rfl | rfl <;> rfl) (by simp only [maxLen]; omega) (by omega) ?_
   intro A5 c5 w5 hown5 hg5 hb5
   have HM5 := Lib.hid ((HO.out.own.keep hHeld).grown hown5 hg5 hb5)
   refine hK.out _ _ ?_
   clear hK K
   try simp only [pu]
   refine wpAnyT_tail (i := 34) (o := ⟨some 6, _, _, _, _, _⟩) (by kernel_rfl) (by kernel_rfl) rfl (fun K hK => ?_)
   go_simp
   refine hK.out _ _ ?_
   clear hK K
   try simp only [pu]
   refine wpAnyT_done (by kernel_rfl) ?_
   go_wp2
   go_roundg (n - (i + 1))
   case measure => rw [HGK.out]; omega
   case rel => exact ⟨i + 1, A5, c5, by omega, rfl, by go_num, rfl, Lib.hid ⟨by rw [HNX.out]; exact HM5.out⟩⟩
  ·obtain rfl : i = n := by omega
   have HO2 : Hid (StepsIn wr L i css l ∧ MineS 6 w1 wr 65 L i cl css.flatten) := Lib.hid (by
    have hI := HS.out.stay HKR.out
    have h1 := HO.out.own
    rw [List.take_of_length_le (by rw [hI.cells]; exact Nat.le_refl _)] at h1
    exact ⟨⟨MineS.rdS h1, hI.len, hI.cells, hI.at_⟩, h1⟩)
   have HRB : Hid (Calls Tryz.prog 26 #[.slice L i cl] wr (BuildRPost wr l)) := Lib.hid (rbuild_any wr L i cl l HO2.out.1.len HO2.out.1.to HM.out.fits)
   have HNB : Hid (∀ W, Keeps (fun _ => False) w W → Calls Tryz.prog 17 #[.slice A i c] W (BuildPost W l)) := Lib.hid fun W hW => Build_any W A i c l HS.out.len (HS.out.stay hW).to.at_ fun s hs => (HM.out.fits s hs).fits
   unfold BuildRPost at HRB
   unfold BuildPost at HNB
   have HBF : Hid (∀ W, Keeps (fun _ => False) wr W → Blk W b 31 [.int .i64 0, .bool false, .int .u64 0, .string .empty, .slice none 0 0, .slice none 0 0]) := Lib.hid fun W hW => (HO.out.own.2.1.trans hW (fun _ _ h => h)).blk HB1.out.2 (fun h => h)
   have HKW1 : Hid (Keeps (fun _ => False) w wr) := HKR
   cases hbf : buildF l with
   | inl ko =>
    obtain ⟨k, o⟩ := ko
    have HR : Hid (∃ at_ : Int, Calls Tryz.prog 26 #[.slice L i cl] wr fun e w' => e = .returned (.tuple #[.agg #[.int .i64 0, .bool false, .int .u64 0, .string .empty, .slice none 0 0, .slice none 0 0], .int .i64 k, .int .i64 at_]) ∧ Keeps (fun _ => False) wr w') := Lib.hid (by
     have h1 := HRB.out
     rw [hbf] at h1
     cases o with
     | none => exact ⟨-1, h1.mono fun e w' h => ⟨h.2, h.1⟩⟩
     | some a => exact ⟨a, h1.mono fun e w' h => ⟨h.2, h.1⟩⟩)
    have HN2 : Hid (∃ T x, ∀ W, Keeps (fun _ => False) w W → Calls Tryz.prog 17 #[.slice A i c] W fun e w' => e = .returned (.tuple #[.pointer none, .iface T x]) ∧ Keeps (fun _ => False) W w') := Lib.hid (by
     have h1 := HNB.out
     rw [hbf] at h1
     cases o with
     | none => exact ⟨_, _, fun W hW => (h1 W hW).mono fun e w' h => ⟨h.2, h.1⟩⟩
     | some a => exact ⟨_, _, fun W hW => (h1 W hW).mono fun e w' h => ⟨h.2, h.1⟩⟩)
    obtain ⟨at_, hr⟩ := HR.out
    obtain ⟨T, x, hnb⟩ := HN2.out
    have HR3 := Lib.hid hr
    have HN3 := Lib.hid hnb
    have hk0 : (k != 0) = true := by have := buildF_inl hbf; simpa using this
    have HBFL := Lib.hid hbf
    have HV1 : Hid (∀ u ∈ valZ, u.oneCell' = true) := Lib.hid (by intro u hu; simp only [valZ, List.mem_cons, List.not_mem_nil, or_false] at hu; rcases hu with rfl | rfl | rfl | rfl | rfl | rfl <;> rfl)
    clear hr hnb HR HN2 HRB HNB hbf
    go_upto_region 9 with (first
     | (go_at_call 26; refine HR3.out.mono ?_; rintro e w2 ⟨rfl, hk2⟩; have HK2 := Lib.hid hk2; clear hk2)
     | ((with_reducible show wpList _ _ _ (⟨none, Op.store 31 (.tmp 8) _, _, _, _, _⟩ :: _) _ _); refine wpList_store_whole rfl 31 _ _ rfl valZ rfl rfl (Blk.new _ 31 valZ) rfl (by kernel_rfl) HV1.out ?_; refine gen_world (fun W => Keeps (fun _ => False) w2 W ∧ Blk W w2.heap.size 31 valZ) ⟨((Keeps.refl _ w2).alloc _).setRow (.inr (Nat.le_refl _)) _, (Blk.new w2 31 valZ).setRow valZ⟩ ?_; rintro w3 ⟨hk3, hb3⟩; have HK3 := Lib.hid (HK2.out.trans hk3 (fun _ _ h => h)); have HB3 := Lib.hid hb3; clear hk3 hb3)
     | (go_at_call 17; refine (HN3.out _ (HKW1.out.trans HK3.out (fun _ _ h => h))).mono ?_; rintro e w4 ⟨rfl, hk4⟩; have HK4 := Lib.hid (HK3.out.trans hk4 (fun _ _ h => h)); have HB4 := Lib.hid (hk4.blk HB3.out (fun h => h)); clear hk4))
    have HP8 : Hid (w2.heap.size ≠ b ∧ b = w.heap.size) := Lib.hid ⟨by have h1 := HB1.out.2.lt; have h2 := HO.out.own.2.1.size; have h3 := HK2.out.size; omega, HBW.out⟩
    obtain ⟨p8, hp8⟩ : ∃ p8, p8 = w2.heap.size := ⟨_, rfl⟩
    rw [← hp8] at HB4 HP8 ⊢
    have HBB : Hid (Blk w4 b 31 valZ) := Lib.hid (HBF.out _ HK4.out)
    clear hp8 HB3
    refine wp_region_held_drew (S := fun W => Blk W p8 31 valZ ∧ Keeps (fun i => i = b) w4 W) (by kernel_rfl) ⟨HB4.out, (Keeps.refl _ w4).drew⟩ (fun hHeld => ?_)
    refine tH (i := 0) (oi := ⟨some 71, _, _, _, _, _⟩) (v := _) rfl (yieldsIf_load_mid (by rfl) _ _ rfl _ _ rfl valZ _ (fun w' h => blk_range h.1) Tryz.underlying31 rfl (by kernel_rfl)) hHeld ?_
    try simp only [pu]
    refine tI 1 72 hHeld ?_
    try simp only [pu]
    refine tI 2 73 hHeld ?_
    try simp only [pu]
    refine tI 3 2 hHeld ?_
    try simp only [pu]
    refine rH 4 none fun K hK => ?_
    refine step_store_whole rfl 31 (.tmp 3) (.tmp 71) rfl valZ rfl rfl HBB.out rfl (by kernel_rfl) HV1.out ?_
    refine gen_KA (fun V => Keeps (fun i => i = b) w4 V ∧ Blk V b 31 valZ) ⟨(Keeps.refl (fun i => i = b) w4).drew.setRow (.inl rfl) _, HBB.out.setRow valZ⟩ ?_
    rintro w5 ⟨k5, b5⟩
    refine hK.out _ _ ⟨k5.blk HB4.out HP8.out.1, k5⟩ (fun hHeld => ?_)
    clear hK K
    try simp only [pu]
    refine tI 5 4 hHeld ?_
    try simp only [pu]
    refine tI 6 5 hHeld ?_
    try simp only [pu]
    refine wpAnyH_done (by kernel_rfl) ?_ _
    have HK5 := Lib.hid k5
    have HB5 := Lib.hid b5
    clear k5 b5 hHeld
    go_wp2
    refine bodyPost_ret (results_tct rfl _ _ rfl HB5.out Tryz.underlying31 rfl (by kernel_rfl)) rfl ⟨?_, ?_⟩
    ·exact (HKW1.out.trans HK4.out (fun _ _ h => h)).trans HK5.out (fun i hi e => by have := HP8.out.2; omega)
    ·rw [HBFL.out]
     rfl
   | inr j =>
    have hfew := buildF_few hbf
    have HR : Hid (Calls Tryz.prog 26 #[.slice L i cl] wr fun e w' => ∃ VV, e = .returned (.tuple #[.agg VV.toArray, .int .i64 0, .int .i64 0]) ∧ Hid (RAt (fun i => wr.heap.size ≤ i) w' VV j) ∧ Hid (Keeps (fun _ => False) wr w')) := Lib.hid (by
     have h1 := HRB.out
     rw [hbf] at h1
     refine h1.mono ?_
     rintro e w' ⟨hk, v, he, hr⟩
     exact ⟨v, he, Lib.hid hr, Lib.hid hk⟩)
    have HN2 : Hid (∀ W, Keeps (fun _ => False) w W → Calls Tryz.prog 17 #[.slice A i c] W fun e w' => ∃ q v, e = .returned (.tuple #[.pointer (some ⟨q, 0, none⟩), .nilIface]) ∧ Hid (TreeAt (fun i => W.heap.size ≤ i) w' q v j) ∧ Hid (Keeps (fun _ => False) W w')) := Lib.hid fun W hW => by
     have h1 := HNB.out W hW
     rw [hbf] at h1
     refine h1.mono ?_
     rintro e w' ⟨hk, q, v, he, ht, _⟩
     exact ⟨q, v, he, Lib.hid ht, Lib.hid hk⟩
    have HBFL := Lib.hid hbf
    have hi6 : decide ((65536 : Int) < (i : Int)) = false := decide_eq_false (by have := HS.out.len; omega)
    clear HRB HNB hbf hfew
    go_upto_region 10 with (first
     | (go_at_call 26; refine HR.out.mono ?_; rintro e w2 ⟨VV, rfl, HV2, HK2⟩)
     | ((with_reducible show wpList _ _ _ (⟨none, Op.store 31 (.tmp 8) _, _, _, _, _⟩ :: _) _ _); refine wpList_store_whole rfl 31 _ _ rfl VV rfl rfl (Blk.new _ 31 valZ) HV2.out.len.symm (by rw [HV2.out.len]; kernel_rfl) HV2.out.one ?_; refine gen_world (fun W => Keeps (fun _ => False) w2 W ∧ Blk W w2.heap.size 31 VV) ⟨((Keeps.refl _ w2).alloc _).setRow (.inr (Nat.le_refl _)) _, (Blk.new w2 31 valZ).setRow VV⟩ ?_; rintro w3 ⟨hk3, hb3⟩; have HK3 := Lib.hid (HK2.out.trans hk3 (fun _ _ h => h)); have HV3 := Lib.hid (HV2.out.stay hk3); have HB3 := Lib.hid hb3; clear hk3 hb3)
     | (go_at_call 17; refine (HN2.out _ (HKW1.out.trans HK3.out (fun _ _ h => h))).mono ?_; rintro e w4 ⟨q, tv, rfl, HT4, HK4'⟩; have HK4 := Lib.hid (HK3.out.trans HK4'.out (fun _ _ h => h)); have HB4 := Lib.hid (HK4'.out.blk HB3.out (fun h => h)); have HV4 := Lib.hid (HV3.out.stay HK4'.out)))
    have HP8 : Hid (w2.heap.size ≠ b ∧ b = w.heap.size ∧ b < wr.heap.size ∧ wr.heap.size ≤ w3.heap.size ∧ w.heap.size ≤ wr.heap.size) := Lib.hid ⟨by have h1 := HB1.out.2.lt; have h2 := HO.out.own.2.1.size; have h3 := HK2.out.size; omega, HBW.out, by have h1 := HB1.out.2.lt; have h2 := HO.out.own.2.1.size; omega, HK3.out.size, HKR.out.size⟩
    obtain ⟨p8, hp8⟩ : ∃ p8, p8 = w2.heap.size := ⟨_, rfl⟩
    rw [← hp8] at HB4 HP8 ⊢
    have HBB : Hid (Blk w4 b 31 valZ) := Lib.hid (HBF.out _ HK4.out)
    have HSIV : Hid ((Tryz.prog.info? 31).map (·.size) = some VV.length) := Lib.hid (by rw [HV2.out.len]; kernel_rfl)
    clear hp8 HB3
    refine wp_region_held_drew (S := fun W => Blk W p8 31 VV ∧ Keeps (fun i => i = b) w4 W) (by kernel_rfl) ⟨HB4.out, (Keeps.refl _ w4).drew⟩ (fun hHeld => ?_)
    refine tI 0 74 hHeld ?_
    try simp only [pu]
    refine tH (i := 1) (oi := ⟨some 75, _, _, _, _, _⟩) (v := _) rfl (yieldsIf_load_mid (by rfl) _ _ rfl _ _ rfl VV _ (fun w' h => blk_range h.1) Tryz.underlying31 rfl HSIV.out) hHeld ?_
    try simp only [pu]
    refine tI 2 76 hHeld ?_
    try simp only [pu]
    refine tI 3 77 hHeld ?_
    try simp only [pu]
    refine tI 4 78 hHeld ?_
    try simp only [pu]
    refine tI 5 79 hHeld ?_
    try simp only [pu]
    refine tI 6 80 hHeld ?_
    try simp only [pu]
    refine tI 7 81 hHeld ?_
    try simp only [pu]
    refine tI 8 2 hHeld ?_
    try simp only [pu]
    refine rH 9 none fun K hK => ?_
    refine step_store_whole rfl 31 (.tmp 3) (.tmp 75) rfl VV rfl rfl HBB.out HV2.out.len.symm HSIV.out HV2.out.one ?_
    refine gen_KA (fun V => Keeps (fun i => i = b) w4 V ∧ Blk V b 31 VV) ⟨(Keeps.refl (fun i => i = b) w4).drew.setRow (.inl rfl) _, HBB.out.setRow VV⟩ ?_
    rintro w5 ⟨k5, b5⟩
    refine hK.out _ _ ⟨k5.blk HB4.out HP8.out.1, k5⟩ (fun hHeld => ?_)
    clear hK K
    try simp only [pu]
    refine tI 10 4 hHeld ?_
    try simp only [pu]
    refine tI 11 5 hHeld ?_
    try simp only [pu]
    refine wpAnyH_done (by kernel_rfl) ?_ _
    have HK5 := Lib.hid k5
    have HB5 := Lib.hid b5
    clear k5 b5 hHeld
    go_wp2
    refine bodyPost_ret (results_tct rfl _ _ rfl HB5.out Tryz.underlying31 rfl HSIV.out) rfl ⟨?_, ?_⟩
    ·exact (HKW1.out.trans HK4.out (fun _ _ h => h)).trans HK5.out (fun i hi e => by have := HP8.out.2.1; omega)
    ·rw [HBFL.out]
     refine ⟨q, tv, VV, rfl, ?_, ?_⟩
     ·exact (HT4.out.keep HK5.out (fun i hi e => by have := HP8.out.2; omega)).mono fun i hi _ => by have := HP8.out.2; omega
     ·exact (HV4.out.keep HK5.out (fun i hi e => by have := HP8.out.2; omega)).mono fun i hi _ => by have := HP8.out.2; omega
end Go.Proofs.YtdmcioghdindfaaGreatDoor
