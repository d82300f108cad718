/-
  Texts put together: MOverW; MBetwW.
-/
import Derived.Test.YtdmcioghdindfaaGreatDoorQ32
import Derived.Test.YtdmcioghdindfaaGreatDoorQ33
import Derived.Test.YtdmcioghdindfaaGreatDoorQ28
import Derived.Test.YtdmcioghdindfaaGreatDoorQ29
import Derived.Test.YtdmcioghdindfaaGreatDoorQ03
set_option linter.unusedSimpArgs false
set_option maxRecDepth 100000
set_option maxHeartbeats 4000000
namespace Go.Proofs.YtdmcioghdindfaaGreatDoor
open Go Go.RowKit Go.Aff Go.Json Go.Rng
attribute [local go_sem] Oper.semAt_some
def OverPost (D : Nat → Prop) (w : World) (r : List ByteArray ⊕ JV) (e : Ending) (w' : World) : Prop := Keeps (fun _ => False) w w' ∧ match r with
 | .inl b => e = .returned (.tuple #[.nilIface, trailE (printB b)])
 | .inr j => ∃ t, e = .returned (.tuple #[t, .nilIface]) ∧ TAt (fun i => D i ∨ w.heap.size ≤ i) w' t j
theorem over_whole_any {D : Nat → Prop} (w : World) (it : Value) (j : JV) (hj : JAt D w it j) (hs : j.sort ≠ 6) (v : Value) (o : Option JV) (A : Option Addr) (n c : Nat) (way : List ByteArray) : Calls Tryz.prog 50 #[v, .iface 150 (.agg #[it]), .slice A n c] w (OverPost D w (j.over o way)) := by
 have HJ := Lib.hid (And.intro hj hs)
 have HA := as_whole_mobj (.agg #[it])
 rw [over_whole j o way hs]
 clear hj hs
 go_enter Tryz.func50, Tryz.ntmps50
 go_wp2
 go_ret2
 exact ⟨Keeps.refl _ _, _, rfl, .whole (HJ.out.1.mono fun i hi _ => .inl hi) HJ.out.2⟩
def KeysP (ks : List ByteArray) : Prop := ∀ s ∈ ks, rightS s = true ∧ s.size ≤ 2097152
structure OverIn (D : Nat → Prop) (w : World) (t v : Value) (y : JV) (o : Option JV) (A : Option Addr) (n : Nat) (way : List ByteArray) : Prop where
 at1 : TAtR D w t y
 at2 : OAtR D w v o
 ok : JOk y
 ok2 : OOk o
 row : Rd w A n (way.map .string)
 len : way.length = n
 room : n + y.deep ≤ 65536
 keys : KeysP way
 max : MaxAt w
 small : y.nodes ≤ 65536 ∧ y.bytes ≤ 2097152
 small2 : ∀ x, o = some x → x.nodes ≤ 65536 ∧ x.bytes ≤ 2097152
theorem over_obj_any {D : Nat → Prop} (w : World) (b : Nat) (kw : List ByteArray) (lw : List JV) (v : Value) (o : Option JV) (A : Option Addr) (n c : Nat) (way : List ByteArray) (h : OverIn D w (.iface 73 (.pointer (some ⟨b, 0, none⟩))) v (.obj kw lw) o A n way) (hD : ∀ i, D i → i < w.heap.size)
  (hkp : KeysP kw ∧ KeysP (mem2 o).1) (hfew : (mem2 o).1.length + kw.length ≤ 1048576) (hslim : ∀ x ∈ (mem2 o).2, Slim x)
  (ih : ∀ y ∈ lw, ∀ (ou : Option JV), (∀ x, ou = some x → x ∈ (mem2 o).2) → ∀ (D' : Nat → Prop) (W : World) (t u : Value) (A' : Option Addr) (n' c' : Nat) (way' : List ByteArray), TAtR D' W t y → OAtR D' W u ou → Rd W A' n' (way'.map .string) → way'.length = n' → n' + y.deep ≤ 65536 → KeysP way' → MaxAt W → Calls Tryz.prog 50 #[u, t, .slice A' n' c'] W (OverPost D' W (y.over ou way'))) :
  Calls Tryz.prog 50 #[v, .iface 73 (.pointer (some ⟨b, 0, none⟩)), .slice A n c] w (OverPost D w ((JV.obj kw lw).over o way)) := by
 obtain ⟨ku, hku⟩ : ∃ ku, ku = (mem2 o).1 := ⟨_, rfl⟩
 obtain ⟨lu, hlu⟩ : ∃ lu, lu = (mem2 o).2 := ⟨_, rfl⟩
 have hm2 := mem2_ok h.ok2
 have hf := h.ok.form
 have HME : Hid (Calls Tryz.prog 31 #[v] w fun e w' => ∃ bu, e = .returned (.pointer (some ⟨bu, 0, none⟩)) ∧ Hid (KidsAt (fun i => (D i ∨ w.heap.size ≤ i) ∧ i < w'.heap.size) w' bu ku lu ∧ Keeps (fun _ => False) w w')) := Lib.hid (by
  refine (membersR_any w v o h.at2).mono ?_
  rintro e w' ⟨bu, he, ht, hk⟩
  rw [← hku, ← hlu] at ht
  exact ⟨bu, he, Lib.hid ⟨ht.mono fun i h1 h2 => ⟨h1, h2⟩, hk⟩⟩)
 rw [← hku] at hkp hfew
 obtain ⟨r, hr⟩ : ∃ r, r = (JV.obj kw lw).over o way := ⟨_, rfl⟩
 rw [← hr]
 have HH := Lib.hid h
 have HD := Lib.hid hD
 have HM2 := Lib.hid hm2
 have HF := Lib.hid hf
 have HKP := Lib.hid hkp
 have HFE := Lib.hid hfew
 have HIH := Lib.hid ih
 have HSL := Lib.hid hslim
 have HM := Lib.hid (And.intro hku hlu)
 have HR := Lib.hid hr
 have HK60 : Hid ((∀ s ∈ kw, rightS s = true ∧ s.size ≤ 1152921504606846976) ∧ ∀ s ∈ ku, rightS s = true ∧ s.size ≤ 1152921504606846976) := Lib.hid ⟨fun s hs => ⟨(hkp.1 s hs).1, Nat.le_trans (hkp.1 s hs).2 (by decide)⟩, fun s hs => ⟨(hkp.2 s hs).1, Nat.le_trans (hkp.2 s hs).2 (by decide)⟩⟩
 have HA := as_mobj_mobj (.pointer (some ⟨b, 0, none⟩))
 have HKU : Hid (ku.length = lu.length ∧ ku.Pairwise ltS) := Lib.hid ⟨by rw [hku, hlu]; exact hm2.1, by rw [hku]; exact hm2.2.1⟩
 clear h hD hkp hfew ih hku hlu hm2 hf hslim hr
 go_enter Tryz.func50, Tryz.ntmps50
 go_upto_region 5 with (go_at_call 31; refine HME.out.mono ?_; rintro e w2 ⟨bu, rfl, H2⟩)
 obtain ⟨p, hpp⟩ : ∃ p, p = w2.heap.size := ⟨_, rfl⟩
 have HS0 : Hid (ObS (fun i => D i ∨ w.heap.size ≤ i) w2 (w2.alloc (.cells #[.nilIface, .slice none 0 0, .slice none 0 0] 84)) p .nilIface none 0 none 0 [] [] []) := Lib.hid (by rw [hpp]; exact ObS.start _ w2)
 rw [← hpp]
 refine gen_codeF (fun W => ObS (fun i => D i ∨ w.heap.size ≤ i) w2 W p .nilIface none 0 none 0 [] [] []) HS0.out ?_
 intro w3 hs3
 have HS3 := Lib.hid hs3
 have HPP := Lib.hid hpp
 clear hs3 HS0 hpp
 have HKO : Hid (Calls Tryz.prog 32 #[.slice (some ⟨w3.heap.size, 0, none⟩) 2 2] (w3.alloc (.cells #[.pointer (some ⟨bu, 0, none⟩), .pointer (some ⟨b, 0, none⟩)] 73)) fun e w' => ∃ (A : Option Addr) (n c : Nat) (cs : List ByteArray), e = .returned (.slice A n c) ∧ n ≤ 1048576 ∧ Hid (cs.length = n ∧ Rd w' A n (cs.map .string) ∧ InB (fun i => w3.heap.size ≤ i) A n ∧ cs.Pairwise ltS ∧ (∀ s, s ∈ cs ↔ s ∈ ku ++ kw) ∧ Keeps (fun _ => False) w3 w')) := Lib.hid (by
  have k3 := HS3.out.keep.alloc (.cells #[.pointer (some ⟨bu, 0, none⟩), .pointer (some ⟨b, 0, none⟩)] 73)
  have hall : allK [(bu, ku), (b, kw)] = ku ++ kw := by simp [allK]
  refine (keysOf_any _ (some ⟨w3.heap.size, 0, none⟩) 2 2 [(bu, ku), (b, kw)] ⟨rfl, fun _ => ⟨_, 0, rfl, fun j _ => by rw [Nat.zero_add]; exact (Blk.new w3 73 [.pointer (some ⟨bu, 0, none⟩), .pointer (some ⟨b, 0, none⟩)]).cell j⟩⟩ (fun q hq => ?_) (fun s hs => ?_) (by rw [hall, List.length_append]; exact HFE.out) (by decide)).mono ?_
  ·simp only [List.mem_cons, List.not_mem_nil, or_false] at hq
   rcases hq with rfl | rfl
   ·exact (H2.out.1.stay k3).keys
   ·exact ((HH.out.at1.stay H2.out.2).stay k3).kids.keys
  ·rw [hall] at hs
   exact (List.mem_append.1 hs).elim (HK60.out.2 s) (HK60.out.1 s)
  ·rintro e w' ⟨A, n, c, cs, he, h1, h2, h3, h4, h5, h6, h7⟩
   rw [hall] at h6
   exact ⟨A, n, c, cs, he, h2, Lib.hid ⟨h1, h3, h4.mono fun i hi => Nat.le_trans (by rw [World.size_alloc]; omega) hi, h5, h6, ((Keeps.refl _ w3).alloc _).trans h7 fun _ _ h => h⟩⟩)
 go_upto_block 0 with (go_at_call 32; refine HKO.out.mono ?_; rintro e w4 ⟨S, m, cc, cs, rfl, hm, H4⟩)
 have HS4 := Lib.hid (LaySt.start (HS3.out.stay H4.out.2.2.2.2.2))
 have HA4 := Lib.hid (Rd.inB H4.out.2.1 H4.out.2.2.1 (C := fun i => w3.heap.size ≤ i ∧ i < w4.heap.size) fun i h1 h2 => ⟨h1, h2⟩)
 have HP3 : Hid (w.heap.size ≤ w2.heap.size ∧ w2.heap.size ≤ p ∧ p < w3.heap.size) := Lib.hid ⟨H2.out.2.size, by rw [HPP.out]; exact Nat.le_refl _, HS3.out.two.blk.lt⟩
 obtain ⟨F, hF⟩ : ∃ F : ByteArray → List ByteArray ⊕ Option JV, F = overF kw lw o way := ⟨_, rfl⟩
 have HFF := Lib.hid hF
 clear hF HKO
 have HLE : Hid (∀ i, (keyed (goodF F) (cs.take i)).length ≤ i) := Lib.hid fun i => Nat.le_trans (keyed_len _ _) (by rw [List.length_take]; omega)
 go_wp2
 go_loopg [36] m (fun gk t wx => ∃ (i : Nat) (B1 : Option Addr) (d1 : Nat) (A1 : Option Addr) (c1 : Nat) (vals : List Value), i ≤ m ∧ t = .int .i64 i ∧ gk = m - i ∧ Hid (LaySt (fun i => D i ∨ w.heap.size ≤ i) w2 w4 wx p B1 d1 A1 c1 (keyed (goodF F) (cs.take i)) vals) ∧ Hid (∀ k ∈ cs.take i, ∃ oo, F k = .inr oo))
 case atStart => exact ⟨0, none, 0, none, 0, [], by omega, rfl, rfl, Lib.hid (by simp only [keyed, List.take_zero, List.filterMap_nil]; exact HS4.out), Lib.hid fun k hk => by simp at hk⟩
 case round =>
  obtain ⟨i, B1, d1, A1, c1, vals, hin, rfl, hgk, HO, HPF⟩ := hrel
  have HGK := Lib.hid hgk
  clear hgk
  by_cases hlt : i < m
  ·obtain ⟨g, o1, key, hA, hky, hck⟩ := textAt (H4.out.2.1.keep HO.out.2.2.2 (HA4.out.out fun q hq e => by have := HP3.out; have := hq.1; have := hq.2; omega)) hlt
   subst hA
   have hkin := (H4.out.2.2.2.2.1 key).1 (List.mem_of_getElem? hky)
   have hkr : rightS key = true ∧ key.size ≤ 2097152 := (List.mem_append.1 hkin).elim (HKP.out.2 key) (HKP.out.1 key)
   have hkok : rightS key = true ∧ key.size ≤ 1152921504606846976 := ⟨hkr.1, Nat.le_trans hkr.2 (by decide)⟩
   have k2 := HO.out.keep
   have HGU : Hid (∀ W, Keeps (fun _ => False) wr W → Calls Tryz.prog 33 #[.pointer (some ⟨bu, 0, none⟩), .string key] W fun e w' => ∃ x, e = .returned x ∧ Hid (OAtR (fun i => (D i ∨ w.heap.size ≤ i) ∧ i < w2.heap.size) w' x (atK ku lu key) ∧ Keeps (fun _ => False) wr w')) := Lib.hid fun W hW => by
    refine (getR_any W bu ku lu (H2.out.1.stay (k2.trans hW fun _ _ h => h)) HKU.out.1 HKU.out.2 HK60.out.2 key hkok (by have := HFE.out; omega)).mono ?_
    rintro e w' ⟨x, he, hx, hk⟩
    exact ⟨x, he, Lib.hid ⟨hx, hW.trans hk fun _ _ h => h⟩⟩
   have HGO : Hid (∀ W, Keeps (fun _ => False) wr W → Calls Tryz.prog 33 #[.pointer (some ⟨b, 0, none⟩), .string key] W fun e w' => ∃ x, e = .returned x ∧ Hid (OAtR (fun i => (D i ∨ w.heap.size ≤ i) ∧ i < w2.heap.size) w' x (atK kw lw key) ∧ Keeps (fun _ => False) wr w' ∧ Keeps (fun _ => False) W w')) := Lib.hid fun W hW => by
    have ht : KidsAt (fun i => (D i ∨ w.heap.size ≤ i) ∧ i < w2.heap.size) W b kw lw := (HH.out.at1.kids.mono (C := fun i => (D i ∨ w.heap.size ≤ i) ∧ i < w2.heap.size) fun i h1 h2 => ⟨.inl h1, Nat.lt_of_lt_of_le h2 H2.out.2.size⟩).stay ((H2.out.2.trans k2 fun _ _ h => h).trans hW fun _ _ h => h)
    refine (getR_any W b kw lw ht (HF.out.2.1 rfl) HF.out.2.2.1 HK60.out.1 key hkok (by have := HFE.out; omega)).mono ?_
    rintro e w' ⟨x, he, hx, hk⟩
    exact ⟨x, he, Lib.hid ⟨hx, hW.trans hk fun _ _ h => h, hk⟩⟩
   have HDE : Hid (∀ W, Keeps (fun _ => False) wr W → Calls Tryz.prog 34 #[.slice A n c, .string key] W fun e w' => ∃ A', e = .returned (.slice A' (n + 1) (n + 1)) ∧ Hid (Rd w' A' (n + 1) ((way ++ [key]).map .string) ∧ Keeps (fun _ => False) wr w' ∧ Keeps (fun _ => False) W w')) := Lib.hid fun W hW => by
    refine (deeper_any W A n c way HH.out.len (HH.out.row.keep ((H2.out.2.trans k2 fun _ _ h => h).trans hW fun _ _ h => h) fun _ _ _ h => h) key (by have := HH.out.room; omega)).mono ?_
    rintro e w' ⟨A', he, hr, _, hk⟩
    exact ⟨A', he, Lib.hid ⟨hr, hW.trans hk fun _ _ h => h, hk⟩⟩
   have HADD : Hid (∀ V t x, Keeps (fun _ => False) wr V → TAt (fun i => ((D i ∨ w.heap.size ≤ i) ∧ i < w2.heap.size) ∨ wr.heap.size ≤ i) V t x → Calls Tryz.prog 35 #[.pointer (some ⟨p, 0, none⟩), .string key, t] V fun e w' => e = .returned (.tuple #[]) ∧ ∃ B d A c vals, Hid (LaySt (fun i => D i ∨ w.heap.size ≤ i) w2 w4 w' p B d A c (keyed (goodF F) (cs.take i) ++ [(key, x)]) vals)) := Lib.hid fun V t x hV ht =>
    HO.out.add (by have := HLE.out i; omega) key V hV t x ht fun q hq => by
     have := HP3.out
     have := HO.out.below
     rcases hq with h | h
     ·exact ⟨h.1, .inl h.2⟩
     ·exact ⟨.inr (by omega), .inr h⟩
   have HKY := Lib.hid (And.intro hky (And.intro hkin hkr))
   have HCK := Lib.hid hck
   have cky := hck
   have HWK : Hid (Keeps (fun _ => False) w wr) := Lib.hid (H2.out.2.trans k2 fun _ _ h => h)
   clear hky hkin hkr hkok hck k2
   have hi63 : (0 : Int) ≤ (i : Int) := by omega
   have hiN : (i : Int) < (m : Int) := by omega
   have tk : True := trivial
   go_upto_block 2 with (first
    | (go_at_call 33; first | (have _t := tk; clear tk; refine (HGU.out _ (Keeps.refl _ _)).mono ?_; rintro e w5 ⟨x, rfl, H5⟩) | (refine (HGO.out _ H5.out.2).mono ?_; rintro e w6 ⟨y, rfl, H6⟩))
    | (go_at_call 34; refine (HDE.out _ H6.out.2.1).mono ?_; rintro e w7 ⟨A7, rfl, H7⟩))
   have HX7 : Hid (OAtR (fun i => (D i ∨ w.heap.size ≤ i) ∧ i < w2.heap.size) w7 x (atK ku lu key)) := Lib.hid ((OAtR.stay H5.out.1 H6.out.2.2).stay H7.out.2.2)
   have HY7 : Hid (OAtR (fun i => (D i ∨ w.heap.size ≤ i) ∧ i < w2.heap.size) w7 y (atK kw lw key)) := Lib.hid (H6.out.1.stay H7.out.2.2)
   have HSN : Hid (∀ oo, F key = .inr oo → (keyed (goodF F) (cs.take (i + 1)) = keyed (goodF F) (cs.take i) ++ (oo.map fun z => (key, z)).toList) ∧ ∀ k ∈ cs.take (i + 1), ∃ oo, F k = .inr oo) := Lib.hid fun oo hoo => by
    have hg : goodF F key = oo := by unfold goodF; rw [hoo]; cases oo <;> rfl
    refine ⟨by rw [keyed_snoc HKY.out.1, hg], fun k hk => ?_⟩
    rw [List.take_add_one, HKY.out.1] at hk
    rcases List.mem_append.1 hk with h | h
    ·exact HPF.out k h
    ·simp at h
     exact ⟨oo, by rw [h]; exact hoo⟩
   have HK7 : Hid (Keeps (fun _ => False) wr w7) := Lib.hid H7.out.2.1
   have HM7 := Lib.hid (HH.out.max.stay (HWK.out.trans HK7.out fun _ _ h => h))
   cases hay : atK kw lw key with
   | none =>
    have hy : y = .nilIface := by have := HY7.out; rw [hay] at this; exact this
    have HNX := Lib.hid (HSN.out (some .null) (by rw [HFF.out]; exact overF_none hay))
    have HNL : Hid (Calls Tryz.prog 87 #[] w7 fun e w' => ∃ t, e = .returned t ∧ Hid (TAt (fun i => ((D i ∨ w.heap.size ≤ i) ∧ i < w2.heap.size) ∨ wr.heap.size ≤ i) w' t .null ∧ Keeps (fun _ => False) wr w')) := Lib.hid (by
     refine (null_any w7).mono ?_
     rintro e w' ⟨t, he, ht, hk⟩
     exact ⟨t, he, Lib.hid ⟨ht.loose.mono fun q hq _ => .inr (Nat.le_trans HK7.out.size hq), HK7.out.trans hk fun _ _ h => h⟩⟩)
    subst hy
    clear hay
    go_wp2_with (first
     | (go_at_call 87; refine HNL.out.mono ?_; rintro e w8 ⟨t8, rfl, H8⟩)
     | (go_at_call 35; refine (HADD.out _ _ _ H8.out.2 H8.out.1).mono ?_; rintro e w9 ⟨rfl, B9, d9, A9, c9, vals9, HO9⟩))
    go_roundg (m - (i + 1))
    case measure => rw [HGK.out]; omega
    case rel => exact ⟨i + 1, B9, d9, A9, c9, vals9, by omega, by go_num, rfl, Lib.hid (by rw [HNX.out.1]; exact HO9.out), Lib.hid HNX.out.2⟩
   | some yj =>
    have hy : TAtR (fun i => (D i ∨ w.heap.size ≤ i) ∧ i < w2.heap.size) w7 y yj := by have := HY7.out; rw [hay] at this; exact this
    obtain ⟨T, yv, hyv⟩ := hy.iface
    subst hyv
    have hym : yj ∈ lw := atK_mem hay
    have hdp : yj.deep + 1 ≤ (JV.obj kw lw).deep := by
     have h4 := maxN_mem (List.mem_map.2 ⟨yj, hym, rfl⟩ : yj.deep ∈ lw.map fun x => x.deep)
     simp only [JV.deep]
     omega
    have HSM : Hid (Calls Tryz.prog 29 #[x, .iface T yv] w7 (SameP w7 (atK ku lu key) (some yj))) := Lib.hid (msame_any w7 x _ _ _ HX7.out hy fun z hz => HSL.out z (by rw [← HM.out.2]; exact atK_mem hz))
    have HNU : Hid (∀ W, Keeps (fun _ => False) w7 W → Calls Tryz.prog 86 #[.iface T yv] W fun e w' => e = .returned (.bool (yj.sort == 1)) ∧ Keeps (fun _ => False) w7 w') := Lib.hid fun W hW => by
     refine (isnull_any W _ yj (hy.stay hW).loose).mono ?_
     rintro e w' ⟨he, hk⟩
     exact ⟨he, hW.trans hk fun _ _ h => h⟩
    have hks : KeysP (way ++ [key]) := fun s hs => (List.mem_append.1 hs).elim (HH.out.keys s) fun h => by rw [List.mem_singleton.1 h]; exact HKY.out.2.2
    have hwl : (way ++ [key]).length = n + 1 := by rw [List.length_append, HH.out.len]; rfl
    have hroom : n + 1 + yj.deep ≤ 65536 := by have := HH.out.room; omega
    have HTR : Hid (∀ W, Keeps (fun _ => False) w7 W → Calls Tryz.prog 88 #[.slice A7 (n + 1) (n + 1)] W fun e w' => e = .returned (trailE (printB (way ++ [key]))) ∧ Keeps (fun _ => False) w7 w') := Lib.hid fun W hW => by
     refine (trail_any W A7 (n + 1) (n + 1) (way ++ [key]) hwl (H7.out.1.keep hW fun _ _ _ h => h) (HM7.out.stay hW) hks (by omega)).mono ?_
     rintro e w' ⟨he, hk⟩
     exact ⟨he, hW.trans hk fun _ _ h => h⟩
    have HOV : Hid (∀ W, Keeps (fun _ => False) w7 W → Calls Tryz.prog 50 #[x, .iface T yv, .slice A7 (n + 1) (n + 1)] W (OverPost (fun i => (D i ∨ w.heap.size ≤ i) ∧ i < w2.heap.size) W (yj.over (atK ku lu key) (way ++ [key])))) := Lib.hid fun W hW =>
     HIH.out yj hym (atK ku lu key) (fun z hz => by rw [← HM.out.2]; exact atK_mem hz) _ W _ x A7 (n + 1) (n + 1) (way ++ [key]) (hy.stay hW) (HX7.out.stay hW) (H7.out.1.keep hW fun _ _ _ h => h) hwl hroom hks (HM7.out.stay hW)
    by_cases hsame : atK ku lu key = some yj
    ·have HNX := Lib.hid (HSN.out none (by rw [HFF.out]; exact overF_same hay (by rw [← HM.out.1, ← HM.out.2]; exact hsame)))
     have hx : TAtR (fun i => (D i ∨ w.heap.size ≤ i) ∧ i < w2.heap.size) w7 x yj := by have := HX7.out; rw [hsame] at this; exact this
     have HSM1 : Hid (Calls Tryz.prog 29 #[x, .iface T yv] w7 fun e w' => e = .returned (.bool true) ∧ Keeps (fun _ => False) w7 w') := Lib.hid (by
      refine HSM.out.mono ?_
      rintro e w' ⟨bb, he, hbb, hk⟩
      exact ⟨by rw [he, hbb.2 hsame], hk⟩)
     obtain ⟨T1, xv, hxv⟩ := hx.iface
     subst hxv
     clear hy hay hym hdp hks hwl hroom hsame hx
     go_wp2_with (go_at_call 29; refine HSM1.out.mono ?_; rintro e w8 ⟨rfl, hk8⟩; have HK8 := Lib.hid hk8; clear hk8)
     go_roundg (m - (i + 1))
     case measure => rw [HGK.out]; omega
     case rel => exact ⟨i + 1, B1, d1, A1, c1, vals, by omega, by go_num, rfl, Lib.hid (by rw [HNX.out.1]; simp only [Option.map_none, Option.toList_none, List.append_nil]; exact (HO.out.stay HK7.out).stay HK8.out), Lib.hid HNX.out.2⟩
    ·have HSM0 : Hid (Calls Tryz.prog 29 #[x, .iface T yv] w7 fun e w' => e = .returned (.bool false) ∧ Keeps (fun _ => False) w7 w') := Lib.hid (by
      refine HSM.out.mono ?_
      rintro e w' ⟨bb, he, hbb, hk⟩
      exact ⟨by rw [he, Bool.eq_false_iff.2 fun h => hsame (hbb.1 h)], hk⟩)
     have hsame2 : ¬ atK (mem2 o).1 (mem2 o).2 key = some yj := by rw [← HM.out.1, ← HM.out.2]; exact hsame
     have hxs : x = .nilIface ∨ ∃ T1 xv, x = .iface T1 xv := by
      have := HX7.out
      cases hxx : atK ku lu key with
      | none => rw [hxx] at this; exact .inl this
      | some xj => rw [hxx] at this; exact .inr (TAtR.iface this)
     have hun : unionK ((mem2 o).1 ++ kw) = cs := unionK_eq H4.out.2.2.2.1 (by rw [← HM.out.1]; exact H4.out.2.2.2.2.1)
     have HINL : Hid (∀ bb, F key = .inl bb → r = .inl bb) := Lib.hid fun bb hbb => by
      rw [HR.out, over_obj, hun, ← HFF.out, overAll_inl HPF.out HKY.out.1 hbb]
     have HW7 := Lib.hid (HWK.out.trans HK7.out fun _ _ h => h)
     by_cases hy1 : yj.sort = 1
     ·have HFB := Lib.hid (HINL.out _ (by rw [HFF.out]; exact overF_null hay hsame2 hy1))
      have hb1 : (yj.sort == 1) = true := by simpa using hy1
      rw [hb1] at HNU
      clear hy hay hym hdp hks hwl hroom hsame hsame2 hun hy1 hb1
      rcases hxs with rfl | ⟨T1, xv, rfl⟩ <;> (
       go_wp2_with (first
        | (go_at_call 29; refine HSM0.out.mono ?_; rintro e w8 ⟨rfl, hk8⟩; have HK8 := Lib.hid hk8; clear hk8)
        | (go_at_call 86; refine (HNU.out _ (by first | exact HK8.out | exact Keeps.refl _ _)).mono ?_; rintro e w9 ⟨rfl, hk9⟩; have HK9 := Lib.hid hk9; clear hk9)
        | (go_at_call 88; refine (HTR.out _ HK9.out).mono ?_; rintro e w10 ⟨rfl, hk10⟩; have HK10 := Lib.hid hk10; clear hk10))
       go_ret2
       refine ⟨HW7.out.trans HK10.out fun _ _ h => h, ?_⟩
       rw [HFB.out]
       rfl)
     ·have hb1 : (yj.sort == 1) = false := by simpa using hy1
      rw [hb1] at HNU
      have hFo := overF_deep (way := way) hay hsame2 hy1
      rw [← HM.out.1, ← HM.out.2, ← HFF.out] at hFo
      cases hov : yj.over (atK ku lu key) (way ++ [key]) with
      | inl bb =>
       rw [hov] at hFo
       have HFB := Lib.hid (HINL.out _ hFo)
       have HOV1 : Hid (∀ W, Keeps (fun _ => False) w7 W → Calls Tryz.prog 50 #[x, .iface T yv, .slice A7 (n + 1) (n + 1)] W fun e w' => e = .returned (.tuple #[.nilIface, .iface 117 (.agg #[.int .i64 180, .string (printB bb)])]) ∧ Keeps (fun _ => False) w7 w') := Lib.hid fun W hW => by
        refine (HOV.out W hW).mono ?_
        rintro e w' ⟨hk, he⟩
        rw [hov] at he
        exact ⟨he, hW.trans hk fun _ _ h => h⟩
       clear hy hay hym hdp hks hwl hroom hsame hsame2 hun hy1 hb1 hov hFo
       rcases hxs with rfl | ⟨T1, xv, rfl⟩ <;> (
        go_wp2_with (first
         | (go_at_call 29; refine HSM0.out.mono ?_; rintro e w8 ⟨rfl, hk8⟩; have HK8 := Lib.hid hk8; clear hk8)
         | (go_at_call 86; refine (HNU.out _ (by first | exact HK8.out | exact Keeps.refl _ _)).mono ?_; rintro e w9 ⟨rfl, hk9⟩; have HK9 := Lib.hid hk9; clear hk9)
         | (go_at_call 50; refine (HOV1.out _ HK9.out).mono ?_; rintro e w10 ⟨rfl, hk10⟩; have HK10 := Lib.hid hk10; clear hk10))
        go_ret2
        refine ⟨HW7.out.trans HK10.out fun _ _ h => h, ?_⟩
        rw [HFB.out]
        rfl)
      | inr z =>
       rw [hov] at hFo
       have HNX := Lib.hid (HSN.out (some z) hFo)
       have HOV1 : Hid (∀ W, Keeps (fun _ => False) w7 W → Calls Tryz.prog 50 #[x, .iface T yv, .slice A7 (n + 1) (n + 1)] W fun e w' => ∃ t, e = .returned (.tuple #[t, .nilIface]) ∧ Hid (TAt (fun i => ((D i ∨ w.heap.size ≤ i) ∧ i < w2.heap.size) ∨ wr.heap.size ≤ i) w' t z ∧ Keeps (fun _ => False) wr w')) := Lib.hid fun W hW => by
        refine (HOV.out W hW).mono ?_
        rintro e w' ⟨hk, he⟩
        rw [hov] at he
        obtain ⟨t, he, ht⟩ := he
        exact ⟨t, he, Lib.hid ⟨ht.mono fun q hq _ => hq.imp id fun h => Nat.le_trans (HK7.out.trans hW fun _ _ h => h).size h, (HK7.out.trans hW fun _ _ h => h).trans hk fun _ _ h => h⟩⟩
       clear hy hay hym hdp hks hwl hroom hsame hsame2 hun hy1 hb1 hov hFo
       rcases hxs with rfl | ⟨T1, xv, rfl⟩ <;> (
        go_wp2_with (first
         | (go_at_call 29; refine HSM0.out.mono ?_; rintro e w8 ⟨rfl, hk8⟩; have HK8 := Lib.hid hk8; clear hk8)
         | (go_at_call 86; refine (HNU.out _ (by first | exact HK8.out | exact Keeps.refl _ _)).mono ?_; rintro e w9 ⟨rfl, hk9⟩; have HK9 := Lib.hid hk9; clear hk9)
         | (go_at_call 50; refine (HOV1.out _ HK9.out).mono ?_; rintro e w10 ⟨t10, rfl, H10⟩)
         | (go_at_call 35; refine (HADD.out _ _ _ H10.out.2 H10.out.1).mono ?_; rintro e w11 ⟨rfl, B9, d9, A9, c9, vals9, HO9⟩))
        go_roundg (m - (i + 1))
        case measure => rw [HGK.out]; omega
        case rel => exact ⟨i + 1, B9, d9, A9, c9, vals9, by omega, by go_num, rfl, Lib.hid (by rw [HNX.out.1]; exact HO9.out), Lib.hid HNX.out.2⟩)
  ·obtain rfl : i = m := by omega
   have hcsl : cs.take i = cs := List.take_of_length_le (by rw [H4.out.1]; exact Nat.le_refl _)
   have hun : unionK ((mem2 o).1 ++ kw) = cs := unionK_eq H4.out.2.2.2.1 (by rw [← HM.out.1]; exact H4.out.2.2.2.2.1)
   have hall : r = .inr (.obj ((keyed (goodF F) cs).map (·.1)) ((keyed (goodF F) cs).map (·.2))) := by
    rw [HR.out, over_obj, hun, ← HFF.out, overAll_inr (by have := HPF.out; rwa [hcsl] at this)]
   have hth := HO.out.thing (fun q h => .inr (Nat.le_trans H2.out.2.size h))
   rw [hcsl] at hth
   have HTH := Lib.hid (And.intro hall hth)
   have HKW := Lib.hid (H2.out.2.trans HO.out.keep fun _ _ h => h)
   clear hth hall hcsl hun
   go_wp2
   go_ret2
   refine ⟨HKW.out, ?_⟩
   rw [HTH.out.1]
   exact ⟨_, rfl, HTH.out.2⟩
theorem slim_of : ∀ (j : JV), JOk j → j.nodes ≤ 1048576 → Slim j := by
 refine JV.by_parts fun j ih hj hn => ?_
 have h3 := items_nodes j
 have h4 := hj.form.1
 refine .mk j (by omega) (by omega) fun x hx => ih x hx (hj.form.2.2.2.2.2 x hx) ?_
 have h5 := sumN_mem (List.mem_map.2 ⟨x, hx, rfl⟩ : x.nodes ∈ j.items.map fun x => x.nodes)
 rw [JV.nodes_eq] at hn
 omega
theorem keysP_of {j : JV} (h1 : j.bytes ≤ 2097152) (h2 : JOk j) : KeysP j.keys := fun s hs => ⟨h2.form.2.2.2.1 s hs, by
 have h3 := sumN_mem (List.mem_map.2 ⟨s, hs, rfl⟩ : s.size ∈ j.keys.map fun k => k.size)
 have h4 := own_eq j
 have h5 := JV.bytes_eq j
 omega⟩
theorem over_any : ∀ (p : JV), JOk p → p.nodes ≤ 65536 → p.bytes ≤ 2097152 → ∀ (o : Option JV), OOk o → (∀ x, o = some x → x.nodes ≤ 65536 ∧ x.bytes ≤ 2097152) → ∀ (D : Nat → Prop) (w : World) (t v : Value) (A : Option Addr) (n c : Nat) (way : List ByteArray), TAtR D w t p → OAtR D w v o → Rd w A n (way.map .string) → way.length = n → n + p.deep ≤ 65536 → KeysP way → MaxAt w → Calls Tryz.prog 50 #[v, t, .slice A n c] w (OverPost D w (p.over o way)) := by
 refine JV.by_parts fun p ih hp hn hb o ho hob D w t v A n c way ht hv hr hl hroom hks hmax => ?_
 rcases ht with ⟨hj, hs⟩ | _
 ·exact over_whole_any w _ p hj hs v o A n c way
 rename_i b A1 B1 c1 d1 vs ks l rf hDb hb2 hrf hk2 hok hr2 hl2 hio
 have hm := mem2_ok ho
 have hf := hp.form
 have hall : TAtR D w (.iface 73 (.pointer (some ⟨b, 0, none⟩))) (.obj ks l) := TAtR.obj hDb hb2 hrf hk2 hok hr2 hl2 hio
 have hnl : ∀ (j : JV), j.nodes ≤ 65536 → JOk j → j.keys.length ≤ 65536 := fun j h1 h2 => by
  have h3 := items_nodes j
  have h4 := h2.form.1
  omega
 have hpart : ∀ (j x : JV), x ∈ j.items → j.nodes ≤ 65536 → j.bytes ≤ 2097152 → x.nodes ≤ 65536 ∧ x.bytes ≤ 2097152 := fun j x hx h1 h2 => by
  have h3 := sumN_mem (List.mem_map.2 ⟨x, hx, rfl⟩ : x.nodes ∈ j.items.map fun x => x.nodes)
  have h4 := sumN_mem (List.mem_map.2 ⟨x, hx, rfl⟩ : x.bytes ∈ j.items.map fun x => x.bytes)
  rw [JV.nodes_eq] at h1
  rw [JV.bytes_eq] at h2
  omega
 have hk2' : KeysP (mem2 o).1 ∧ (mem2 o).1.length ≤ 65536 ∧ ∀ x ∈ (mem2 o).2, x.nodes ≤ 65536 ∧ x.bytes ≤ 2097152 := by
  cases o with
  | none => exact ⟨fun s hs => absurd hs List.not_mem_nil, Nat.zero_le _, fun x hx => absurd hx List.not_mem_nil⟩
  | some j =>
   have h1 := hob j rfl
   have h2 := ho j rfl
   have h3 := keysP_of h1.2 h2
   have h4 := hnl j h1.1 h2
   have h5 := fun x hx => hpart j x hx h1.1 h1.2
   cases j <;> first
    | exact ⟨h3, h4, h5⟩
    | exact ⟨fun s hs => absurd hs List.not_mem_nil, Nat.zero_le _, fun x hx => absurd hx List.not_mem_nil⟩
 refine (over_obj_any (D := fun i => D i ∧ i < w.heap.size) w b ks l v o A n c way ⟨hall.mono fun i h1 h2 => ⟨h1, h2⟩, hv.mono fun i h1 h2 => ⟨h1, h2⟩, hp, ho, hr, hl, hroom, hks, hmax, ⟨hn, hb⟩, hob⟩ (fun i h => h.2) ⟨keysP_of hb hp, hk2'.1⟩ (by have := hnl _ hn hp; have := hk2'.2.1; have h9 : (JV.obj ks l).keys.length = ks.length := rfl; omega) (fun x hx => slim_of x (hm.2.2.2 x hx) (by have := hk2'.2.2 x hx; omega)) ?_).mono ?_
 ·intro y hy ou hou D' W t' u' A' n' c' way' ht' hu' hr' hl' hroom' hks' hmax'
  have hyp := hpart (.obj ks l) y hy hn hb
  exact ih y hy (hf.2.2.2.2.2 y hy) hyp.1 hyp.2 ou (fun x hx => hm.2.2.2 x (hou x hx)) (fun x hx => hk2'.2.2 x (hou x hx)) D' W t' u' A' n' c' way' ht' hu' hr' hl' hroom' hks' hmax'
 ·rintro e w' ⟨hk, he⟩
  refine ⟨hk, ?_⟩
  cases hov : (JV.obj ks l).over o way with
  | inl b => rw [hov] at he; exact he
  | inr j =>
   rw [hov] at he
   obtain ⟨t', he, ht'⟩ := he
   exact ⟨t', he, ht'.mono fun i hi _ => hi.imp (fun h => h.1) id⟩
end Go.Proofs.YtdmcioghdindfaaGreatDoor
namespace Go.Proofs.YtdmcioghdindfaaGreatDoor
open Go Go.RowKit Go.Aff Go.Json
attribute [local go_sem] Oper.semAt_some
theorem over_fit : ∀ (p : JV), p.within → JOk p → ∀ o, OOk o → ∀ way j, p.over o way = .inr j → Fit j := by
 refine JV.by_parts fun p ih hw hp o ho way j hj => ?_
 by_cases hs : p.sort = 6
 ·obtain ⟨kw, lw, rfl⟩ := JOk.obj_of hs
  obtain ⟨_, rfl⟩ := over_form hj
  refine .mk _ (fun h => absurd rfl h) fun _ x hx => ?_
  obtain ⟨q, hq, rfl⟩ := List.mem_map.1 (show x ∈ (keyed (goodF (overF kw lw o way)) (unionK ((mem2 o).1 ++ kw))).map (·.2) from hx)
  rcases over_mem (keyed_mem.1 hq).2 with ⟨_, h⟩ | ⟨y, hy, _, _, hz⟩
  ·rw [h]; exact fit_within _ null_within
  ·have hm := (atK_some_mem hp.form.2.2.1 hy).2
   exact ih y hm (item_within (j := .obj kw lw) hm hw) (hp.form.2.2.2.2.2 y hm) _ (at_ok (mem2_ok ho).2.1 (mem2_ok ho).2.2.2) _ _ hz
 ·rw [over_whole p o way hs] at hj
  injection hj with hj
  rw [← hj]; exact fit_within p hw
theorem null_least (j : JV) : JV.null.nodes ≤ j.nodes ∧ JV.null.bytes ≤ j.bytes := by
 rw [JV.nodes_eq j, JV.bytes_eq j]
 simp [JV.nodes, JV.bytes]
theorem over_small {p : JV} (hp : JOk p) (hw : p.within) {j : JV} (hj : JOk j) (hwj : j.within) {way : List ByteArray} {z : JV} (hz : p.over (some j) way = .inr z) : z.nodes ≤ 131072 ∧ z.bytes ≤ 4194304 := by
 have ho : OOk (some j) := OOk.one hj
 have h1 : z.nodes ≤ p.nodes + j.nodes := over_weight weight_nodes (fun j => (null_least j).1) p hp _ ho way z hz
 have h2 : z.bytes ≤ p.bytes + j.bytes := over_weight weight_bytes (fun j => (null_least j).2) p hp _ ho way z hz
 have := hw.1; have := hw.2.1; have := hwj.1; have := hwj.2.1
 exact ⟨by omega, by omega⟩
def BetwPost (D : Nat → Prop) (w : World) (r : List ByteArray ⊕ JV) (e : Ending) (w' : World) : Prop := match r with
 | .inl b => e = .returned (.tuple #[.pointer none, trailE (printB b)]) ∧ Keeps (fun _ => False) w w'
 | .inr z => MadeTree D w z e w'
theorem between_tree {D : Nat → Prop} (w : World) (q q2 : Nat) (v v2 : Value) (j j2 : JV) (h : TreeAt D w q v j) (h2 : TreeAt D w q2 v2 j2) (hj : JOk j) (hj2 : JOk j2) (hw : j.within) (hw2 : j2.within) (hmax : MaxAt w) :
  Calls Tryz.prog 20 #[.pointer (some ⟨q, 0, none⟩), .pointer (some ⟨q2, 0, none⟩)] w (BetwPost D w (j2.over (some j) [])) := by
 obtain ⟨T, y, hv⟩ := h.2.2.iface
 obtain ⟨T2, y2, hv2⟩ := h2.2.2.iface
 subst hv hv2
 have k1 : Keeps (fun _ => False) w (w.alloc (.cells #[.pointer (some ⟨q, 0, none⟩), .pointer (some ⟨q2, 0, none⟩)] 26)) := (Keeps.refl _ w).alloc _
 have HNO : Hid (Calls Tryz.prog 27 #[.slice (some ⟨w.heap.size, 0, none⟩) 2 2] (w.alloc (.cells #[.pointer (some ⟨q, 0, none⟩), .pointer (some ⟨q2, 0, none⟩)] 26)) fun e w' => e = .returned .nilIface ∧ Keeps (fun _ => False) w w') :=
  Lib.hid ((none_any _ (some ⟨w.heap.size, 0, none⟩) 2 2 [some ⟨q, 0, none⟩, some ⟨q2, 0, none⟩] ⟨rfl, fun _ => ⟨_, 0, rfl, fun j _ => by rw [Nat.zero_add]; exact (Blk.new w 26 [.pointer (some ⟨q, 0, none⟩), .pointer (some ⟨q2, 0, none⟩)]).cell j⟩⟩ (by omega)).mono fun e w' h => ⟨h.1, h.2 ▸ k1⟩)
 have HR1 : Hid (∀ W, Keeps (fun _ => False) w W → Calls Tryz.prog 38 #[.pointer (some ⟨q, 0, none⟩)] W fun e w2 => e = .returned (.agg #[.iface T y]) ∧ Hid (Keeps (fun _ => False) w w2)) := Lib.hid fun W hW => (root_any _ q T y (hW.blk h.2.1 (fun h => h))).mono fun e w' h => ⟨h.1, Lib.hid (hW.trans h.2 fun _ _ h => h)⟩
 have HR2 : Hid (∀ W, Keeps (fun _ => False) w W → Calls Tryz.prog 38 #[.pointer (some ⟨q2, 0, none⟩)] W fun e w2 => e = .returned (.agg #[.iface T2 y2]) ∧ Hid (Keeps (fun _ => False) w w2) ∧ Hid (Keeps (fun _ => False) W w2)) := Lib.hid fun W hW => (root_any _ q2 T2 y2 (hW.blk h2.2.1 (fun h => h))).mono fun e w' h => ⟨h.1, Lib.hid (hW.trans h.2 fun _ _ h => h), Lib.hid h.2⟩
 have hns : j.nodes ≤ 1048576 := Nat.le_trans hw.1 (by decide)
 have hns2 : j2.nodes ≤ 1048576 := Nat.le_trans hw2.1 (by decide)
 have HO1 : Hid (∀ W, Keeps (fun _ => False) w W → Calls Tryz.prog 37 #[.agg #[.iface T y]] W fun e w' => ∃ t, e = .returned t ∧ Hid (TAtR (fun i => D i ∨ w.heap.size ≤ i) w' t j) ∧ Hid (Keeps (fun _ => False) w w')) := Lib.hid fun W hW => (ofR_any j hj hns D W _ (h.2.2.stay hW)).mono fun e w' hh => by
  obtain ⟨t, he, ht, hk⟩ := hh
  exact ⟨t, he, Lib.hid (ht.mono fun i hi _ => hi.imp id fun h => Nat.le_trans hW.size h), Lib.hid (hW.trans hk fun _ _ h => h)⟩
 have HO2 : Hid (∀ W, Keeps (fun _ => False) w W → Calls Tryz.prog 37 #[.agg #[.iface T2 y2]] W fun e w' => ∃ t, e = .returned t ∧ Hid (TAtR (fun i => D i ∨ w.heap.size ≤ i) w' t j2) ∧ Hid (Keeps (fun _ => False) w w') ∧ Hid (Keeps (fun _ => False) W w')) := Lib.hid fun W hW => (ofR_any j2 hj2 hns2 D W _ (h2.2.2.stay hW)).mono fun e w' hh => by
  obtain ⟨t, he, ht, hk⟩ := hh
  exact ⟨t, he, Lib.hid (ht.mono fun i hi _ => hi.imp id fun h => Nat.le_trans hW.size h), Lib.hid (hW.trans hk fun _ _ h => h), Lib.hid hk⟩
 obtain ⟨r, hr⟩ : ∃ r, r = j2.over (some j) [] := ⟨_, rfl⟩
 have HLA : Hid (∀ W t u, Keeps (fun _ => False) w W → TAtR (fun i => D i ∨ w.heap.size ≤ i) W t j2 → TAtR (fun i => D i ∨ w.heap.size ≤ i) W u j → Calls Tryz.prog 50 #[u, t, .slice none 0 0] W (OverPost (fun i => D i ∨ w.heap.size ≤ i) W r)) := Lib.hid fun W t u hW ht hu => by
  rw [hr]
  exact over_any j2 hj2 hw2.1 hw2.2.1 (some j) (OOk.one hj) (fun x hx => by injection hx with hx; rw [← hx]; exact ⟨hw.1, hw.2.1⟩) _ W t u none 0 0 [] ht hu ⟨rfl, fun h => absurd h (Nat.lt_irrefl 0)⟩ rfl (by have := hw2.2.2; omega) (fun s hs => absurd hs List.not_mem_nil) (hmax.stay hW)
 rw [← hr]
 have HSZ : Hid (∀ z, r = .inr z → JOk z ∧ Fit z ∧ z.nodes ≤ 1048576 ∧ z.bytes ≤ 1099511627776) := Lib.hid fun z hz => by
  rw [hr] at hz
  have h3 := over_small hj2 hw2 hj hw hz
  exact ⟨over_ok j2 hj2 _ (OOk.one hj) _ _ hz, over_fit j2 hw2 hj2 _ (OOk.one hj) _ _ hz, Nat.le_trans h3.1 (by decide), Nat.le_trans h3.2 (by decide)⟩
 clear h h2 hj hj2 hw hw2 k1 hns hns2 hr hmax
 have tk : True := trivial
 have tq : True := trivial
 cases r with
 | inl b =>
  have HLB : Hid (∀ W t u, Keeps (fun _ => False) w W → TAtR (fun i => D i ∨ w.heap.size ≤ i) W t j2 → TAtR (fun i => D i ∨ w.heap.size ≤ i) W u j → Calls Tryz.prog 50 #[u, t, .slice none 0 0] W fun e w' => e = .returned (.tuple #[.nilIface, .iface 117 (.agg #[.int .i64 180, .string (printB b)])]) ∧ Hid (Keeps (fun _ => False) w w')) := Lib.hid fun W t u hW ht hu => by
   refine (HLA.out W t u hW ht hu).mono ?_
   rintro e w' ⟨hk, he⟩
   exact ⟨he, Lib.hid (hW.trans hk fun _ _ h => h)⟩
  clear HLA HSZ
  go_enter Tryz.func20, Tryz.ntmps20
  go_wp2_with (first
   | (go_at_call 27; refine HNO.out.mono ?_; rintro e w1 ⟨rfl, hk1⟩; have HK1 := Lib.hid hk1; clear hk1)
   | (go_at_call 38; have _t := tk; clear tk; refine (HR1.out _ (by first | exact HK1.out | exact HK1.out.drew)).mono ?_; rintro e w2 ⟨rfl, HK2⟩)
   | (go_at_call 37; have _t := tq; clear tq; refine (HO1.out _ HK2.out).mono ?_; rintro e w3 ⟨t3, rfl, ht3, HK3⟩)
   | (go_at_call 38; refine (HR2.out _ HK3.out).mono ?_; rintro e w4 ⟨rfl, HK4, HL4⟩)
   | (go_at_call 37; refine (HO2.out _ HK4.out).mono ?_; rintro e w5 ⟨t5, rfl, ht5, HK5, HL5⟩)
   | (go_at_call 50; refine (HLB.out _ _ _ HK5.out ht5.out ((ht3.out.stay HL4.out).stay HL5.out)).mono ?_; rintro e w6 ⟨rfl, HK6⟩))
  go_ret2
  exact ⟨rfl, HK6.out⟩
 | inr z =>
  have HSZ1 := Lib.hid (HSZ.out z rfl)
  have HLB : Hid (∀ W t u, Keeps (fun _ => False) w W → TAtR (fun i => D i ∨ w.heap.size ≤ i) W t j2 → TAtR (fun i => D i ∨ w.heap.size ≤ i) W u j → Calls Tryz.prog 50 #[u, t, .slice none 0 0] W fun e w' => ∃ t, e = .returned (.tuple #[t, .nilIface]) ∧ Hid (TAt (fun i => D i ∨ w.heap.size ≤ i) w' t z) ∧ Hid (Keeps (fun _ => False) w w')) := Lib.hid fun W t u hW ht hu => by
   refine (HLA.out W t u hW ht hu).mono ?_
   rintro e w' ⟨hk, t, he, ht⟩
   exact ⟨t, he, Lib.hid (ht.mono fun i hi _ => hi.elim id fun h => .inr (Nat.le_trans hW.size h)), Lib.hid (hW.trans hk fun _ _ h => h)⟩
  have HTR : Hid (∀ W t, Keeps (fun _ => False) w W → TAt (fun i => D i ∨ w.heap.size ≤ i) W t z → Calls Tryz.prog 36 #[t] W fun e w' => ∃ p x, e = .returned (.tuple #[p, x]) ∧ MadeTree D w z (.returned (.tuple #[p, x])) w') := Lib.hid fun W t hW ht => (tree_any W t _ ht HSZ1.out.1 HSZ1.out.2.1 HSZ1.out.2.2.1 HSZ1.out.2.2.2).mono fun e w' hh => (hh.from_ hW fun i hi => hi).ret
  clear HLA HSZ
  go_enter Tryz.func20, Tryz.ntmps20
  go_wp2_with (first
   | (go_at_call 27; refine HNO.out.mono ?_; rintro e w1 ⟨rfl, hk1⟩; have HK1 := Lib.hid hk1; clear hk1)
   | (go_at_call 38; have _t := tk; clear tk; refine (HR1.out _ (by first | exact HK1.out | exact HK1.out.drew)).mono ?_; rintro e w2 ⟨rfl, HK2⟩)
   | (go_at_call 37; have _t := tq; clear tq; refine (HO1.out _ HK2.out).mono ?_; rintro e w3 ⟨t3, rfl, ht3, HK3⟩)
   | (go_at_call 38; refine (HR2.out _ HK3.out).mono ?_; rintro e w4 ⟨rfl, HK4, HL4⟩)
   | (go_at_call 37; refine (HO2.out _ HK4.out).mono ?_; rintro e w5 ⟨t5, rfl, ht5, HK5, HL5⟩)
   | (go_at_call 50; refine (HLB.out _ _ _ HK5.out ht5.out ((ht3.out.stay HL4.out).stay HL5.out)).mono ?_; rintro e w6 ⟨t6, rfl, ht6, HK6⟩)
   | (go_at_call 36; refine (HTR.out _ _ HK6.out ht6.out).mono ?_; rintro e w7 ⟨p7, x7, rfl, hq⟩))
  go_ret2
  exact hq
end Go.Proofs.YtdmcioghdindfaaGreatDoor
