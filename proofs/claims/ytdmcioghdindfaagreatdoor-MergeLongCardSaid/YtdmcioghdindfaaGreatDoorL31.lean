/- Texts. -/
import Derived.Test.YtdmcioghdindfaaGreatDoorL30
set_option linter.unusedSimpArgs false
set_option maxRecDepth 100000
set_option maxHeartbeats 4000000
namespace Go.Json
noncomputable def layTo (ko : List ByteArray) (lo : List JV) (v : Option JV) (cs : List ByteArray) (i : Nat) : List (ByteArray × JV) := keyed (layF ko lo v) (cs.take i)
theorem keyed_snoc {f : ByteArray → Option JV} {cs : List ByteArray} {i : Nat} {key : ByteArray} (h : cs[i]? = some key) : keyed f (cs.take (i + 1)) = keyed f (cs.take i) ++ ((f key).map fun x => (key, x)).toList := by
 unfold keyed
 rw [List.take_add_one, h, List.filterMap_append]
 cases hh : f key <;> simp [hh]
theorem keyed_len (f : ByteArray → Option JV) (cs : List ByteArray) : (keyed f cs).length ≤ cs.length := List.length_filterMap_le _ _
theorem layTo_snoc {ko : List ByteArray} {lo : List JV} {v : Option JV} {cs : List ByteArray} {i : Nat} {key : ByteArray} (h : cs[i]? = some key) :
  layTo ko lo v cs (i + 1) = layTo ko lo v cs i ++ ((layF ko lo v key).map fun x => (key, x)).toList := keyed_snoc h
theorem layTo_len (ko : List ByteArray) (lo : List JV) (v : Option JV) (cs : List ByteArray) (i : Nat) : (layTo ko lo v cs i).length ≤ i :=
 Nat.le_trans (keyed_len _ _) (by rw [List.length_take]; omega)
theorem layTo_all {ko : List ByteArray} {lo : List JV} {v : Option JV} {cs : List ByteArray} {n : Nat} (hn : cs.length ≤ n) (h1 : cs.Pairwise ltS) (h2 : ∀ s, s ∈ cs ↔ s ∈ (mem2 v).1 ++ ko) : layTo ko lo v cs n = layM ko lo v (unionK ((mem2 v).1 ++ ko)) := by
 unfold layTo
 rw [List.take_of_length_le hn, unionK_eq h1 h2, layM_eq]
theorem atK_mem {α : Type} {ks : List ByteArray} {l : List α} {key : ByteArray} {x : α} (h : atK ks l key = some x) : x ∈ l := by
 unfold atK at h
 cases hf : ks.findIdx? fun k => decide (k = key) with
 | none => rw [hf] at h; cases h
 | some i => rw [hf] at h; exact List.mem_of_getElem? h
theorem atK_none {α : Type} {ks : List ByteArray} {l : List α} {key : ByteArray} (hl : ks.length = l.length) (h : atK ks l key = none) : key ∉ ks := by
 intro hm
 unfold atK at h
 cases hf : ks.findIdx? fun k => decide (k = key) with
 | none =>
  have := List.findIdx?_eq_none_iff.1 hf key hm
  simp at this
 | some i =>
  rw [hf] at h
  obtain ⟨hi, _⟩ := List.findIdx?_eq_some_iff_getElem.1 hf
  have h2 : l[i]? = none := h
  rw [List.getElem?_eq_getElem (by omega)] at h2
  cases h2
end Go.Json
namespace Go.Proofs.YtdmcioghdindfaaGreatDoor
open Go Go.RowKit Go.Aff Go.Json Go.Rng
def LaySt (E : Nat → Prop) (w2 w4 wx : World) (p : Nat) (B : Option Addr) (d : Nat) (A : Option Addr) (c : Nat) (ms : List (ByteArray × JV)) (vals : List Value) : Prop :=
 ObS E w2 wx p .nilIface B d A c (ms.map (·.1)) vals (ms.map (·.2)) ∧ (∀ g, (Value.slice B (ms.map (·.1)).length d).ownBlock = some g → w4.heap.size ≤ g) ∧ (∀ g, (Value.slice A (ms.map (·.1)).length c).ownBlock = some g → w4.heap.size ≤ g) ∧ Keeps (fun i => i = p ∨ w4.heap.size ≤ i) w4 wx
section
variable {E : Nat → Prop} {w2 w4 wx : World} {p : Nat} {B : Option Addr} {d : Nat} {A : Option Addr} {c : Nat} {ms : List (ByteArray × JV)} {vals : List Value}
theorem LaySt.start (h : ObS E w2 w4 p .nilIface none 0 none 0 [] [] []) : LaySt E w2 w4 w4 p none 0 none 0 [] [] :=
 ⟨h, fun g e => by simp [Value.ownBlock] at e, fun g e => by simp [Value.ownBlock] at e, Keeps.refl _ _⟩
theorem LaySt.stay {w' : World} (h : LaySt E w2 w4 wx p B d A c ms vals) (k : Keeps (fun _ => False) wx w') : LaySt E w2 w4 w' p B d A c ms vals :=
 ⟨h.1.stay k, h.2.1, h.2.2.1, h.2.2.2.trans k fun _ _ h => h.elim⟩
theorem LaySt.keep (h : LaySt E w2 w4 wx p B d A c ms vals) : Keeps (fun _ => False) w2 wx := h.1.keep
theorem LaySt.below (h : LaySt E w2 w4 wx p B d A c ms vals) : w2.heap.size ≤ p ∧ p < wx.heap.size := ⟨h.1.two.lo, h.1.two.blk.lt⟩
theorem LaySt.add (h : LaySt E w2 w4 wx p B d A c ms vals) (hn : ms.length ≤ 1048576) (key : ByteArray) (V : World) (hV : Keeps (fun _ => False) wx V) (t : Value) (x : JV) {C : Nat → Prop} (ht : TAt C V t x) (hC : ∀ i, C i → E i ∧ (i < w2.heap.size ∨ wx.heap.size ≤ i)) :
  Calls Tryz.prog 35 #[.pointer (some ⟨p, 0, none⟩), .string key, t] V fun e w' => e = .returned (.tuple #[]) ∧ ∃ B' d' A' c' vals', Hid (LaySt E w2 w4 w' p B' d' A' c' (ms ++ [(key, x)]) vals') := by
 have h1 := h.1.two.two.a
 have h2 := h.1.two.two.b
 have hb := h.below
 have h5 := hV.size
 have h6 := h.2.2.2.size
 refine (add_any w2 V p .nilIface B d A c _ _ _ (h.1.stay hV) (by rw [List.length_map]; exact hn) key t x (ht.mono fun q hq _ => ?_)).mono ?_
 ·obtain ⟨g1, g2⟩ := hC q hq
  refine ⟨g1, fun e => by omega, fun e => ?_, fun e => ?_⟩
  ·have := h1.2.2 q e; have := h1.own_lt e; omega
  have := h2.2.2 q e; have := h2.own_lt e; omega
 rintro e w' ⟨he, ⟨B', d', A', c', vals', ho, hB, hA⟩, hk⟩
 have hm : ms.map (·.1) ++ [key] = (ms ++ [(key, x)]).map (·.1) := by rw [List.map_append]; rfl
 have hm2 : ms.map (·.2) ++ [x] = (ms ++ [(key, x)]).map (·.2) := by rw [List.map_append]; rfl
 rw [hm] at hB hA
 rw [hm, hm2] at ho
 refine ⟨he, B', d', A', c', vals', H_ ⟨ho, fun g e => ?_, fun g e => ?_, ?_⟩⟩
 ·rcases hB g e with (e1 | e1 | e1) | e1
  ·exact absurd (e1 ▸ e) ho.two.na
  ·exact h.2.1 g e1
  ·exact h.2.2.1 g e1
  omega
 ·rcases hA g e with (e1 | e1 | e1) | e1
  ·exact absurd (e1 ▸ e) ho.two.nb
  ·exact h.2.1 g e1
  ·exact h.2.2.1 g e1
  omega
 refine (h.2.2.2.trans hV fun _ _ h => h.elim).trans hk fun i _ e1 => ?_
 rcases e1 with e1 | e1 | e1
 ·exact .inl e1
 ·exact .inr (h.2.1 i e1)
 exact .inr (h.2.2.1 i e1)
theorem LaySt.thing (h : LaySt E w2 w4 wx p B d A c ms vals) (hE : ∀ i, w2.heap.size ≤ i → E i) : TAt E wx (.iface 73 (.pointer (some ⟨p, 0, none⟩))) (.obj (ms.map (·.1)) (ms.map (·.2))) := h.1.thing hE
end
end Go.Proofs.YtdmcioghdindfaaGreatDoor
namespace Go.Proofs.YtdmcioghdindfaaGreatDoor
open Go Go.RowKit Go.Aff Go.Json Go.Rng
attribute [local go_sem] Oper.semAt_some
theorem memJ_eq (o : Option JV) : memJ o = mem2 o := by cases o with | none => rfl | some j => cases j <;> rfl
theorem OAt.stay {D : Nat → Prop} {w w' : World} {v : Value} {o : Option JV} (h : OAt D w v o) (k : Keeps (fun _ => False) w w') : OAt D w' v o := by
 cases o with
 | none => exact h
 | some j => exact TAt.stay h k
theorem OAt.mono {D C : Nat → Prop} {w : World} {v : Value} {o : Option JV} (h : OAt D w v o) (hC : ∀ i, D i → i < w.heap.size → C i) : OAt C w v o := by
 cases o with
 | none => exact h
 | some j => exact TAt.mono h hC
theorem lay_whole_any {D : Nat → Prop} (w : World) (it : Value) (j : JV) (hj : JAt D w it j) (hs : j.sort ≠ 6) (v : Value) (o : Option JV) : Calls Tryz.prog 49 #[.iface 150 (.agg #[it]), v] w (OfPost D w (j.lay o)) := by
 have HJ := H_ (And.intro hj hs)
 have HA := as_whole_mobj (.agg #[it])
 rw [lay_whole j o hs]
 clear hj hs
 go_enter Tryz.func49, Tryz.ntmps49
 go_wp2
 go_ret
 exact ⟨_, rfl, .whole (HJ.out.1.mono fun i hi _ => .inl hi) HJ.out.2, Keeps.refl _ _⟩
def KeysOk (ks : List ByteArray) : Prop := ∀ s ∈ ks, rightS s = true ∧ s.size ≤ 1152921504606846976
theorem TAt.keys {D : Nat → Prop} {w : World} {b : Nat} {ks : List ByteArray} {l : List JV} (h : TAt D w (.iface 73 (.pointer (some ⟨b, 0, none⟩))) (.obj ks l)) : ∃ B d rf a3, Blk w b 84 [rf, .slice B ks.length d, a3] ∧ Rd w B ks.length (ks.map .string) := by
 cases h with
 | @obj b A B c d vs ks l rf hDb hb hrf hk2 hok hr ho hl => exact ⟨_, _, _, _, hb, hk2⟩
theorem lay_obj_any {D : Nat → Prop} (w : World) (b : Nat) (ko : List ByteArray) (lo : List JV) (h : TAt D w (.iface 73 (.pointer (some ⟨b, 0, none⟩))) (.obj ko lo)) (hD : ∀ i, D i → i < w.heap.size) (v : Value) (o : Option JV) (hv : OAt D w v o)
  (hl : ko.length = lo.length) (hl2 : (mem2 o).1.length = (mem2 o).2.length) (hp : ko.Pairwise ltS) (hp2 : (mem2 o).1.Pairwise ltS) (hk : KeysOk ko) (hk2 : KeysOk (mem2 o).1) (hn : (mem2 o).1.length + ko.length ≤ 1048576)
  (ih : ∀ y, y ∈ lo → ∀ (ou : Option JV), (∀ x, ou = some x → x ∈ (mem2 o).2) → ∀ (D' : Nat → Prop) (W : World) (t u : Value), TAt D' W t y → OAt D' W u ou → Calls Tryz.prog 49 #[t, u] W (OfPost D' W (y.lay ou))) :
  Calls Tryz.prog 49 #[.iface 73 (.pointer (some ⟨b, 0, none⟩)), v] w (OfPost D w ((JV.obj ko lo).lay o)) := by
 obtain ⟨ku, hku⟩ : ∃ ku, ku = (mem2 o).1 := ⟨_, rfl⟩
 obtain ⟨lu, hlu⟩ : ∃ lu, lu = (mem2 o).2 := ⟨_, rfl⟩
 rw [lay_obj]
 have HME : Hid (Calls Tryz.prog 31 #[v] w fun e w' => ∃ bu, e = .returned (.pointer (some ⟨bu, 0, none⟩)) ∧ Hid (TAt (fun i => (D i ∨ w.heap.size ≤ i) ∧ i < w'.heap.size) w' (.iface 73 (.pointer (some ⟨bu, 0, none⟩))) (.obj ku lu) ∧ Keeps (fun _ => False) w w')) := H_ (by
  refine (members_any w v o hv).mono ?_
  rintro e w' ⟨bu, he, ht, hk⟩
  rw [memJ_eq, ← hku, ← hlu] at ht
  exact ⟨bu, he, H_ ⟨ht.mono fun i h1 h2 => ⟨h1, h2⟩, hk⟩⟩)
 rw [← hku] at hl2 hp2 hk2 hn
 rw [← hlu] at hl2
 have HH := H_ (And.intro h hD)
 have HL := H_ (And.intro hl hl2)
 have HP := H_ (And.intro hp hp2)
 have HK := H_ (And.intro hk hk2)
 have HN := H_ hn
 have HIH := H_ ih
 have HM := H_ (And.intro hku hlu)
 have HA := as_mobj_mobj (.pointer (some ⟨b, 0, none⟩))
 clear h hD hl hl2 hp hp2 hk hk2 hn ih hku hlu hv
 go_enter Tryz.func49, Tryz.ntmps49
 go_upto_region 5 with (go_at_call 31; refine HME.out.mono ?_; rintro e w2 ⟨bu, rfl, H2⟩)
 obtain ⟨p, hpp⟩ : ∃ p, p = w2.heap.size := ⟨_, rfl⟩
 have HS0 : Hid (ObS (fun i => D i ∨ w.heap.size ≤ i) w2 (w2.alloc (.cells #[.nilIface, .slice none 0 0, .slice none 0 0] 84)) p .nilIface none 0 none 0 [] [] []) := H_ (by rw [hpp]; exact ObS.start _ w2)
 rw [← hpp]
 refine gen_codeF (fun W => ObS (fun i => D i ∨ w.heap.size ≤ i) w2 W p .nilIface none 0 none 0 [] [] []) HS0.out ?_
 intro w3 hs3
 have HS3 := H_ hs3
 have HPP := H_ hpp
 clear hs3 HS0 hpp
 have HKO : Hid (Calls Tryz.prog 32 #[.slice (some ⟨w3.heap.size, 0, none⟩) 2 2] (w3.alloc (.cells #[.pointer (some ⟨bu, 0, none⟩), .pointer (some ⟨b, 0, none⟩)] 73)) fun e w' => ∃ (A : Option Addr) (n c : Nat) (cs : List ByteArray), e = .returned (.slice A n c) ∧ n ≤ 1048576 ∧ Hid (cs.length = n ∧ Rd w' A n (cs.map .string) ∧ InB (fun i => w3.heap.size ≤ i) A n ∧ cs.Pairwise ltS ∧ (∀ s, s ∈ cs ↔ s ∈ ku ++ ko) ∧ Keeps (fun _ => False) w3 w')) := H_ (by
  have k3 := HS3.out.keep.alloc (.cells #[.pointer (some ⟨bu, 0, none⟩), .pointer (some ⟨b, 0, none⟩)] 73)
  have hall : allK [(bu, ku), (b, ko)] = ku ++ ko := by simp [allK]
  refine (keysOf_any _ (some ⟨w3.heap.size, 0, none⟩) 2 2 [(bu, ku), (b, ko)] ⟨rfl, fun _ => ⟨_, 0, rfl, fun j _ => by rw [Nat.zero_add]; exact (Blk.new w3 73 [.pointer (some ⟨bu, 0, none⟩), .pointer (some ⟨b, 0, none⟩)]).cell j⟩⟩ (fun q hq => ?_) (fun s hs => ?_) (by rw [hall, List.length_append]; exact HN.out) (by decide)).mono ?_
  ·simp only [List.mem_cons, List.not_mem_nil, or_false] at hq
   rcases hq with rfl | rfl
   ·exact (H2.out.1.stay k3).keys
   exact ((HH.out.1.stay H2.out.2).stay k3).keys
  ·rw [hall] at hs
   exact (List.mem_append.1 hs).elim (HK.out.2 s) (HK.out.1 s)
  rintro e w' ⟨A, n, c, cs, he, h1, h2, h3, h4, h5, h6, h7⟩
  rw [hall] at h6
  exact ⟨A, n, c, cs, he, h2, H_ ⟨h1, h3, h4.mono fun i hi => Nat.le_trans (by rw [World.size_alloc]; omega) hi, h5, h6, ((Keeps.refl _ w3).alloc _).trans h7 fun _ _ h => h⟩⟩)
 go_upto_block 0 with (go_at_call 32; refine HKO.out.mono ?_; rintro e w4 ⟨A, n, c, cs, rfl, hn, H4⟩)
 have HS4 := H_ (LaySt.start (HS3.out.stay H4.out.2.2.2.2.2))
 have HA4 := H_ (Rd.inB H4.out.2.1 H4.out.2.2.1 (C := fun i => w3.heap.size ≤ i ∧ i < w4.heap.size) fun i h1 h2 => ⟨h1, h2⟩)
 have HP3 : Hid (w.heap.size ≤ w2.heap.size ∧ w2.heap.size ≤ p ∧ p < w3.heap.size) := H_ ⟨H2.out.2.size, by rw [HPP.out]; exact Nat.le_refl _, HS3.out.two.blk.lt⟩
 have HLE : Hid (∀ i, (layTo ko lo o cs i).length ≤ i) := H_ (layTo_len ko lo o cs)
 go_wp2
 go_loopg [30] n (fun gk t wx => ∃ (i : Nat) (B1 : Option Addr) (d1 : Nat) (A1 : Option Addr) (c1 : Nat) (vals : List Value), i ≤ n ∧ t = .int .i64 i ∧ gk = n - i ∧ Hid (LaySt (fun i => D i ∨ w.heap.size ≤ i) w2 w4 wx p B1 d1 A1 c1 (layTo ko lo o cs i) vals))
 case atStart => exact ⟨0, none, 0, none, 0, [], by omega, rfl, rfl, H_ (by simp only [layTo, keyed, List.take_zero, List.filterMap_nil]; exact HS4.out)⟩
 case round =>
  obtain ⟨i, B1, d1, A1, c1, vals, hin, rfl, hgk, HO⟩ := hrel
  have HGK := H_ hgk
  clear hgk
  by_cases hlt : i < n
  ·obtain ⟨g, o1, key, hA, hky, hck⟩ := textAt (H4.out.2.1.keep HO.out.2.2.2 (HA4.out.out fun q hq e => by have := HP3.out; have := hq.1; have := hq.2; omega)) hlt
   subst hA
   have hkin := (H4.out.2.2.2.2.1 key).1 (List.mem_of_getElem? hky)
   have hkok : rightS key = true ∧ key.size ≤ 1152921504606846976 := (List.mem_append.1 hkin).elim (HK.out.2 key) (HK.out.1 key)
   have k2 := HO.out.keep
   have HGU : Hid (∀ W, Keeps (fun _ => False) wr W → Calls Tryz.prog 33 #[.pointer (some ⟨bu, 0, none⟩), .string key] W fun e w' => ∃ x, e = .returned x ∧ Hid (OAt (fun i => (D i ∨ w.heap.size ≤ i) ∧ i < w2.heap.size) w' x (atK ku lu key) ∧ Keeps (fun _ => False) wr w')) := H_ fun W hW => by
    refine (get_any W bu ku lu (H2.out.1.stay (k2.trans hW fun _ _ h => h)) HL.out.2 HP.out.2 HK.out.2 key hkok (by have := HN.out; omega)).mono ?_
    rintro e w' ⟨x, he, hx, _, hk⟩
    exact ⟨x, he, H_ ⟨hx, hW.trans hk fun _ _ h => h⟩⟩
   have HGO : Hid (∀ W, Keeps (fun _ => False) wr W → Calls Tryz.prog 33 #[.pointer (some ⟨b, 0, none⟩), .string key] W fun e w' => ∃ x, e = .returned x ∧ Hid (OAt (fun i => (D i ∨ w.heap.size ≤ i) ∧ i < w2.heap.size) w' x (atK ko lo key) ∧ Keeps (fun _ => False) wr w' ∧ Keeps (fun _ => False) W w')) := H_ fun W hW => by
    have ht : TAt (fun i => (D i ∨ w.heap.size ≤ i) ∧ i < w2.heap.size) W (.iface 73 (.pointer (some ⟨b, 0, none⟩))) (.obj ko lo) := (HH.out.1.mono (C := fun i => (D i ∨ w.heap.size ≤ i) ∧ i < w2.heap.size) fun i h1 h2 => ⟨.inl h1, Nat.lt_of_lt_of_le h2 H2.out.2.size⟩).stay ((H2.out.2.trans k2 fun _ _ h => h).trans hW fun _ _ h => h)
    refine (get_any W b ko lo ht HL.out.1 HP.out.1 HK.out.1 key hkok (by have := HN.out; omega)).mono ?_
    rintro e w' ⟨x, he, hx, _, hk⟩
    exact ⟨x, he, H_ ⟨hx, hW.trans hk fun _ _ h => h, hk⟩⟩
   have HADD : Hid (∀ V t x, Keeps (fun _ => False) wr V → TAt (fun i => ((D i ∨ w.heap.size ≤ i) ∧ i < w2.heap.size) ∨ wr.heap.size ≤ i) V t x → Calls Tryz.prog 35 #[.pointer (some ⟨p, 0, none⟩), .string key, t] V fun e w' => e = .returned (.tuple #[]) ∧ ∃ B d A c vals, Hid (LaySt (fun i => D i ∨ w.heap.size ≤ i) w2 w4 w' p B d A c (layTo ko lo o cs i ++ [(key, x)]) vals)) := H_ fun V t x hV ht =>
    HO.out.add (by have := HLE.out i; omega) key V hV t x ht fun q hq => by
     have := HP3.out
     have := HO.out.below
     rcases hq with h | h
     ·exact ⟨h.1, .inl h.2⟩
     exact ⟨.inr (by omega), .inr h⟩
   have HKY := H_ (And.intro hky (And.intro hkin hkok))
   have HCK := H_ hck
   have cky := hck
   clear hky hkin hkok hck k2
   have hi63 : (0 : Int) ≤ (i : Int) := by omega
   have hiN : (i : Int) < (n : Int) := by omega
   have tk : True := trivial
   go_upto_block 2 with (go_at_call 33; first | (have _t := tk; clear tk; refine (HGU.out _ (Keeps.refl _ _)).mono ?_; rintro e w5 ⟨x, rfl, H5⟩) | (refine (HGO.out _ H5.out.2).mono ?_; rintro e w6 ⟨y, rfl, H6⟩))
   have HX6 : Hid (OAt (fun i => (D i ∨ w.heap.size ≤ i) ∧ i < w2.heap.size) w6 x (atK ku lu key)) := H_ (OAt.stay H5.out.1 H6.out.2.2)
   have HSN := H_ (layTo_snoc (ko := ko) (lo := lo) (v := o) HKY.out.1)
   have HFN : Hid (atK ko lo key = none → layTo ko lo o cs (i + 1) = layTo ko lo o cs i ++ ((atK ku lu key).map fun x => (key, x)).toList) := H_ fun h => by rw [HSN.out, layF_none h, ← HM.out.1, ← HM.out.2]
   have HFS : Hid (∀ y, atK ko lo key = some y → layTo ko lo o cs (i + 1) = layTo ko lo o cs i ++ (if y.sort = 1 then [] else [(key, y.lay (atK ku lu key))])) := H_ fun y h => by
    rw [HSN.out, layF_some h, ← HM.out.1, ← HM.out.2]
    by_cases h1 : y.sort = 1 <;> simp [h1]
   cases hay : atK ko lo key with
   | none =>
    obtain ⟨xj, hxj⟩ : ∃ xj, atK ku lu key = some xj := by
     cases h : atK ku lu key with
     | some x => exact ⟨x, rfl⟩
     | none => exact absurd HKY.out.2.1 fun h2 => (List.mem_append.1 h2).elim (atK_none HL.out.2 h) (atK_none HL.out.1 hay)
    have hy : y = .nilIface := by have := H6.out.1; rw [hay] at this; exact this
    have hx : TAt (fun i => (D i ∨ w.heap.size ≤ i) ∧ i < w2.heap.size) w6 x xj := by have := HX6.out; rw [hxj] at this; exact this
    obtain ⟨T, xv, hxv⟩ := hx.iface
    subst hy hxv
    have HA1 := H_ (HADD.out w6 _ xj H6.out.2.1 (hx.mono fun q hq _ => .inl hq))
    have HNX := H_ (HFN.out hay)
    have HXJ := H_ hxj
    clear hx hay hxj
    go_wp2_with (go_at_call 35; refine HA1.out.mono ?_; rintro e w7 ⟨rfl, B7, d7, A7, c7, vals7, HO7⟩)
    go_roundg (n - (i + 1))
    case measure => rw [HGK.out]; omega
    case rel => exact ⟨i + 1, B7, d7, A7, c7, vals7, by omega, by go_num, rfl, H_ (by rw [HNX.out, HXJ.out]; exact HO7.out)⟩
   | some yj =>
    have hy : TAt (fun i => (D i ∨ w.heap.size ≤ i) ∧ i < w2.heap.size) w6 y yj := by have := H6.out.1; rw [hay] at this; exact this
    obtain ⟨T, yv, hyv⟩ := hy.iface
    subst hyv
    have hym : yj ∈ lo := atK_mem hay
    have HNX := H_ (HFS.out yj hay)
    have HNU : Hid (Calls Tryz.prog 86 #[.iface T yv] w6 fun e w' => e = .returned (.bool (yj.sort == 1)) ∧ Keeps (fun _ => False) w6 w') := H_ (isnull_any w6 _ yj hy)
    by_cases hy1 : yj.sort = 1
    ·have hb1 : (yj.sort == 1) = true := by simpa using hy1
     have HY1 := H_ hy1
     rw [hb1] at HNU
     clear hy hay hb1 hy1 hym
     go_wp2_with (go_at_call 86; refine HNU.out.mono ?_; rintro e w7 ⟨rfl, hk7⟩; have HK7 := H_ hk7; clear hk7)
     go_roundg (n - (i + 1))
     case measure => rw [HGK.out]; omega
     case rel => exact ⟨i + 1, B1, d1, A1, c1, vals, by omega, by go_num, rfl, H_ (by rw [HNX.out, if_pos HY1.out, List.append_nil]; exact (HO.out.stay H6.out.2.1).stay HK7.out)⟩
    have hb1 : (yj.sort == 1) = false := by simpa using hy1
    have HY1 := H_ hy1
    rw [hb1] at HNU
    have HLA : Hid (∀ W, Keeps (fun _ => False) w6 W → Calls Tryz.prog 49 #[.iface T yv, x] W fun e w' => ∃ t, e = .returned t ∧ Hid (TAt (fun i => ((D i ∨ w.heap.size ≤ i) ∧ i < w2.heap.size) ∨ wr.heap.size ≤ i) w' t (yj.lay (atK ku lu key)) ∧ Keeps (fun _ => False) wr w')) := H_ fun W hW => by
     refine (HIH.out yj hym (atK ku lu key) (fun x hx => by rw [← HM.out.2]; exact atK_mem hx) _ W _ x (hy.stay hW) (OAt.stay HX6.out hW)).mono ?_
     rintro e w' ⟨t, he, ht, hk⟩
     exact ⟨t, he, H_ ⟨ht.mono fun q hq _ => hq.imp id fun h => Nat.le_trans (H6.out.2.1.trans hW fun _ _ h => h).size h, (H6.out.2.1.trans hW fun _ _ h => h).trans hk fun _ _ h => h⟩⟩
    clear hy hay hb1 hy1 hym
    go_wp2_with (first
     | (go_at_call 86; refine HNU.out.mono ?_; rintro e w7 ⟨rfl, hk7⟩; have HK7 := H_ hk7; clear hk7)
     | (go_at_call 49; refine (HLA.out _ HK7.out).mono ?_; rintro e w8 ⟨t8, rfl, H8⟩)
     | (go_at_call 35; refine (HADD.out _ _ _ H8.out.2 H8.out.1).mono ?_; rintro e w9 ⟨rfl, B9, d9, A9, c9, vals9, HO9⟩))
    go_roundg (n - (i + 1))
    case measure => rw [HGK.out]; omega
    case rel => exact ⟨i + 1, B9, d9, A9, c9, vals9, by omega, by go_num, rfl, H_ (by rw [HNX.out, if_neg HY1.out]; exact HO9.out)⟩
  obtain rfl : i = n := by omega
  have htk : layTo ko lo o cs i = layM ko lo o (unionK ((mem2 o).1 ++ ko)) := by
   refine layTo_all (by rw [H4.out.1]; exact Nat.le_refl _) H4.out.2.2.2.1 ?_
   rw [← HM.out.1]
   exact H4.out.2.2.2.2.1
  have hth := HO.out.thing (fun q h => .inr (Nat.le_trans H2.out.2.size h))
  rw [htk] at hth
  have HTH := H_ hth
  have HKW := H_ (H2.out.2.trans HO.out.keep fun _ _ h => h)
  clear hth htk
  go_wp2
  go_ret
  exact ⟨_, rfl, HTH.out, HKW.out⟩
theorem lay_any : ∀ (p : JV), JOk p → p.nodes ≤ 65536 → p.bytes ≤ 2097152 → ∀ (o : Option JV), OOk o → (∀ x, o = some x → x.nodes ≤ 65536 ∧ x.bytes ≤ 2097152) → ∀ (D : Nat → Prop) (w : World) (t u : Value), TAt D w t p → OAt D w u o → Calls Tryz.prog 49 #[t, u] w (OfPost D w (p.lay o)) := by
 refine JV.by_parts fun p ih hp hn hb o ho hob D w t u ht hu => ?_
 cases ht with
 | @whole it j hj hs => exact lay_whole_any w it p hj hs u o
 | @obj b A B c d vs ks l rf hDb hb2 hrf hk2 hok hr hio hl =>
  have hm := mem2_ok ho
  have hf := hp.form
  have hall := TAt.obj (D := fun i => D i ∧ i < w.heap.size) ⟨hDb, hb2.lt⟩ hb2 (hrf.imp id fun h => h.mono fun i h1 h2 => ⟨h1, h2⟩) hk2 (Rd.inB hk2 hok fun i h1 h2 => ⟨h1, h2⟩) hr (Rd.inB hr hio fun i h1 h2 => ⟨h1, h2⟩) (fun i v x h1 h2 => (hl i v x h1 h2).mono fun i h1 h2 => ⟨h1, h2⟩)
  have hkb : ∀ (j : JV), j.bytes ≤ 2097152 → JOk j → KeysOk j.keys := fun j h1 h2 s hs => ⟨h2.form.2.2.2.1 s hs, by
   have h3 := sumN_mem (List.mem_map.2 ⟨s, hs, rfl⟩ : s.size ∈ j.keys.map fun k => k.size)
   have h4 := own_eq j
   have h5 := JV.bytes_eq j
   omega⟩
  have hnl : ∀ (j : JV), j.nodes ≤ 65536 → JOk j → j.keys.length ≤ 65536 := fun j h1 h2 => by
   have h3 := items_nodes j
   have h4 := h2.form.1
   omega
  have hpart : ∀ (j x : JV), x ∈ j.items → j.nodes ≤ 65536 → j.bytes ≤ 2097152 → x.nodes ≤ 65536 ∧ x.bytes ≤ 2097152 := fun j x hx h1 h2 => by
   have h3 := sumN_mem (List.mem_map.2 ⟨x, hx, rfl⟩ : x.nodes ∈ j.items.map fun x => x.nodes)
   have h4 := sumN_mem (List.mem_map.2 ⟨x, hx, rfl⟩ : x.bytes ∈ j.items.map fun x => x.bytes)
   rw [JV.nodes_eq] at h1
   rw [JV.bytes_eq] at h2
   omega
  have hk2' : KeysOk (mem2 o).1 ∧ (mem2 o).1.length ≤ 65536 ∧ ∀ x ∈ (mem2 o).2, x.nodes ≤ 65536 ∧ x.bytes ≤ 2097152 := by
   cases o with
   | none => exact ⟨fun s hs => absurd hs List.not_mem_nil, Nat.zero_le _, fun x hx => absurd hx List.not_mem_nil⟩
   | some j =>
    have h1 := hob j rfl
    have h2 := ho j rfl
    have h3 := hkb j h1.2 h2
    have h4 := hnl j h1.1 h2
    have h5 := fun x hx => hpart j x hx h1.1 h1.2
    cases j <;> first
     | exact ⟨h3, h4, h5⟩
     | exact ⟨fun s hs => absurd hs List.not_mem_nil, Nat.zero_le _, fun x hx => absurd hx List.not_mem_nil⟩
  refine (lay_obj_any (D := fun i => D i ∧ i < w.heap.size) w b ks l hall (fun i h => h.2) u o (hu.mono fun i h1 h2 => ⟨h1, h2⟩) (hf.2.1 rfl) hm.1 hf.2.2.1 hm.2.1 (hkb _ hb hp) hk2'.1 (by have := hnl _ hn hp; have := hk2'.2.1; have h9 : (JV.obj ks l).keys.length = ks.length := rfl; omega) ?_).mono ?_
  ·intro y hy ou hou D' W t' u' ht' hu'
   have hyp := hpart (.obj ks l) y hy hn hb
   exact ih y hy (hf.2.2.2.2.2 y hy) hyp.1 hyp.2 ou (fun x hx => hm.2.2.2 x (hou x hx)) (fun x hx => hk2'.2.2 x (hou x hx)) D' W t' u' ht' hu'
  rintro e w' ⟨t', he, ht', hk'⟩
  exact ⟨t', he, ht'.mono fun i hi _ => hi.imp (fun h => h.1) id, hk'⟩
end Go.Proofs.YtdmcioghdindfaaGreatDoor
namespace Go.Proofs.YtdmcioghdindfaaGreatDoor
open Go Go.RowKit Go.Aff Go.Json
attribute [local go_sem] Oper.semAt_some
theorem mem2_within : ∀ {o : Option JV}, (∀ x, o = some x → x.within) → ∀ x ∈ (mem2 o).2, x.within
 | none, _, _, hx => absurd hx List.not_mem_nil
 | some .null, _, _, hx => absurd hx List.not_mem_nil
 | some (.flag _), _, _, hx => absurd hx List.not_mem_nil
 | some (.num _), _, _, hx => absurd hx List.not_mem_nil
 | some (.text _), _, _, hx => absurd hx List.not_mem_nil
 | some (.list _), _, _, hx => absurd hx List.not_mem_nil
 | some (.obj ks l), h, _, hx => item_within (j := .obj ks l) hx (h _ rfl)
theorem lay_fit : ∀ (p : JV), p.within → JOk p → ∀ o, OOk o → (∀ x, o = some x → x.within) → Fit (p.lay o) := by
 refine JV.by_parts fun p ih hw hp o ho how => ?_
 by_cases hs : p.sort = 6
 ·match p, hs, ih, hp, hw with
  | .obj ko lo, _, ih, hp, hw =>
   rw [lay_obj]
   refine .mk _ (fun h => absurd rfl h) fun _ x hx => ?_
   obtain ⟨q, hq, rfl⟩ := List.mem_map.1 (show x ∈ (layM ko lo o (unionK ((mem2 o).1 ++ ko))).map (·.2) from hx)
   have h : layF ko lo o q.1 = some q.2 := (keyed_mem.1 hq).2
   have hm2 := mem2_within how
   cases hy : atK ko lo q.1 with
   | none =>
    rw [layF_none hy] at h
    exact fit_within _ (hm2 _ (atK_some_mem (mem2_ok ho).2.1 h).2)
   | some y =>
    rw [layF_some hy] at h
    have hm := (atK_some_mem hp.form.2.2.1 hy).2
    by_cases h1 : y.sort = 1
    ·rw [if_pos h1] at h; cases h
    rw [if_neg h1] at h
    injection h with h
    rw [← h]
    exact ih y hm (item_within (j := .obj ko lo) hm hw) (hp.form.2.2.2.2.2 y hm) _ (at_ok (mem2_ok ho).2.1 (mem2_ok ho).2.2.2) fun x hx => hm2 x (atK_some_mem (mem2_ok ho).2.1 hx).2
 rw [lay_whole p o hs]; exact fit_within p hw
theorem lay_small {p : JV} (hp : JOk p) (hw : p.within) {j : JV} (hj : JOk j) (hwj : j.within) : (p.lay (some j)).nodes ≤ 131072 ∧ (p.lay (some j)).bytes ≤ 4194304 := by
 have ho : OOk (some j) := fun x hx => by injection hx with hx; rw [← hx]; exact hj
 have h1 : (p.lay (some j)).nodes ≤ p.nodes + j.nodes := lay_weight weight_nodes p hp _ ho
 have h2 : (p.lay (some j)).bytes ≤ p.bytes + j.bytes := lay_weight weight_bytes p hp _ ho
 have := hw.1; have := hw.2.1; have := hwj.1; have := hwj.2.1
 exact ⟨by omega, by omega⟩
theorem OOk.one {j : JV} (h : JOk j) : OOk (some j) := fun x hx => by injection hx with hx; rw [← hx]; exact h
theorem merge_tree {D : Nat → Prop} (w : World) (q q2 : Nat) (v v2 : Value) (j j2 : JV) (h : TreeAt D w q v j) (h2 : TreeAt D w q2 v2 j2) (hj : JOk j) (hj2 : JOk j2) (hw : j.within) (hw2 : j2.within) :
  Calls Tryz.prog 18 #[.pointer (some ⟨q, 0, none⟩), .pointer (some ⟨q2, 0, none⟩)] w (MadeTree D w (j2.lay (some j))) := by
 obtain ⟨T, y, hv⟩ := h.2.2.iface
 obtain ⟨T2, y2, hv2⟩ := h2.2.2.iface
 subst hv hv2
 have k1 : Keeps (fun _ => False) w (w.alloc (.cells #[.pointer (some ⟨q, 0, none⟩), .pointer (some ⟨q2, 0, none⟩)] 26)) := (Keeps.refl _ w).alloc _
 have HNO : Hid (Calls Tryz.prog 27 #[.slice (some ⟨w.heap.size, 0, none⟩) 2 2] (w.alloc (.cells #[.pointer (some ⟨q, 0, none⟩), .pointer (some ⟨q2, 0, none⟩)] 26)) fun e w' => e = .returned .nilIface ∧ Keeps (fun _ => False) w w') :=
  H_ ((none_any _ (some ⟨w.heap.size, 0, none⟩) 2 2 [some ⟨q, 0, none⟩, some ⟨q2, 0, none⟩] ⟨rfl, fun _ => ⟨_, 0, rfl, fun j _ => by rw [Nat.zero_add]; exact (Blk.new w 26 [.pointer (some ⟨q, 0, none⟩), .pointer (some ⟨q2, 0, none⟩)]).cell j⟩⟩ (by omega)).mono fun e w' h => ⟨h.1, h.2 ▸ k1⟩)
 have HR2 : Hid (∀ W, Keeps (fun _ => False) w W → Calls Tryz.prog 38 #[.pointer (some ⟨q2, 0, none⟩)] W fun e w2 => e = .returned (.agg #[.iface T2 y2]) ∧ Hid (Keeps (fun _ => False) w w2)) := H_ fun W hW => (root_any _ q2 T2 y2 (hW.blk h2.2.1 (fun h => h))).mono fun e w' h => ⟨h.1, H_ (hW.trans h.2 fun _ _ h => h)⟩
 have HR1 : Hid (∀ W, Keeps (fun _ => False) w W → Calls Tryz.prog 38 #[.pointer (some ⟨q, 0, none⟩)] W fun e w2 => e = .returned (.agg #[.iface T y]) ∧ Hid (Keeps (fun _ => False) w w2) ∧ Hid (Keeps (fun _ => False) W w2)) := H_ fun W hW => (root_any _ q T y (hW.blk h.2.1 (fun h => h))).mono fun e w' h => ⟨h.1, H_ (hW.trans h.2 fun _ _ h => h), H_ h.2⟩
 have hns : j.nodes ≤ 1048576 := Nat.le_trans hw.1 (by decide)
 have hns2 : j2.nodes ≤ 1048576 := Nat.le_trans hw2.1 (by decide)
 have HO2 : Hid (∀ W, Keeps (fun _ => False) w W → Calls Tryz.prog 37 #[.agg #[.iface T2 y2]] W fun e w' => ∃ t, e = .returned t ∧ Hid (TAt (fun i => D i ∨ w.heap.size ≤ i) w' t j2) ∧ Hid (Keeps (fun _ => False) w w')) := H_ fun W hW => (of_any j2 hj2 hns2 D W _ (h2.2.2.stay hW)).mono fun e w' hh => by
  obtain ⟨t, he, ht, hk⟩ := hh
  exact ⟨t, he, H_ (ht.mono fun i hi _ => hi.imp id fun h => Nat.le_trans hW.size h), H_ (hW.trans hk fun _ _ h => h)⟩
 have HO1 : Hid (∀ W, Keeps (fun _ => False) w W → Calls Tryz.prog 37 #[.agg #[.iface T y]] W fun e w' => ∃ t, e = .returned t ∧ Hid (TAt (fun i => D i ∨ w.heap.size ≤ i) w' t j) ∧ Hid (Keeps (fun _ => False) w w') ∧ Hid (Keeps (fun _ => False) W w')) := H_ fun W hW => (of_any j hj hns D W _ (h.2.2.stay hW)).mono fun e w' hh => by
  obtain ⟨t, he, ht, hk⟩ := hh
  exact ⟨t, he, H_ (ht.mono fun i hi _ => hi.imp id fun h => Nat.le_trans hW.size h), H_ (hW.trans hk fun _ _ h => h), H_ hk⟩
 have HLA : Hid (∀ W t u, Keeps (fun _ => False) w W → TAt (fun i => D i ∨ w.heap.size ≤ i) W t j2 → TAt (fun i => D i ∨ w.heap.size ≤ i) W u j → Calls Tryz.prog 49 #[t, u] W fun e w' => ∃ t, e = .returned t ∧ Hid (TAt (fun i => D i ∨ w.heap.size ≤ i) w' t (j2.lay (some j))) ∧ Hid (Keeps (fun _ => False) w w')) := H_ fun W t u hW ht hu => (lay_any j2 hj2 hw2.1 hw2.2.1 (some j) (OOk.one hj) (fun x hx => by injection hx with hx; rw [← hx]; exact ⟨hw.1, hw.2.1⟩) _ W t u ht hu).mono fun e w' hh => by
  obtain ⟨t, he, ht, hk⟩ := hh
  exact ⟨t, he, H_ (ht.mono fun i hi _ => hi.elim id fun h => .inr (Nat.le_trans hW.size h)), H_ (hW.trans hk fun _ _ h => h)⟩
 have hsm := lay_small hj2 hw2 hj hw
 have HTR : Hid (∀ W t, Keeps (fun _ => False) w W → TAt (fun i => D i ∨ w.heap.size ≤ i) W t (j2.lay (some j)) → Calls Tryz.prog 36 #[t] W fun e w' => ∃ p x, e = .returned (.tuple #[p, x]) ∧ MadeTree D w (j2.lay (some j)) (.returned (.tuple #[p, x])) w') := H_ fun W t hW ht => (tree_any W t _ ht (lay_ok j2 hj2 _ (OOk.one hj)) (lay_fit j2 hw2 hj2 _ (OOk.one hj) (fun x hx => by injection hx with hx; rw [← hx]; exact hw)) (Nat.le_trans hsm.1 (by decide)) (Nat.le_trans hsm.2 (by decide))).mono fun e w' hh => (hh.from_ hW fun i hi => hi).ret
 clear h h2 hj hj2 hw hw2 k1 hns hns2 hsm
 have tk : True := trivial
 have tq : True := trivial
 go_enter Tryz.func18, Tryz.ntmps18
 go_wp2_with (first
  | (go_at_call 27; refine HNO.out.mono ?_; rintro e w1 ⟨rfl, hk1⟩; have HK1 := H_ hk1; clear hk1)
  | (go_at_call 38; have _t := tk; clear tk; refine (HR2.out _ (by first | exact HK1.out | exact HK1.out.drew)).mono ?_; rintro e w2 ⟨rfl, HK2⟩)
  | (go_at_call 37; have _t := tq; clear tq; refine (HO2.out _ HK2.out).mono ?_; rintro e w3 ⟨t3, rfl, ht3, HK3⟩)
  | (go_at_call 38; refine (HR1.out _ HK3.out).mono ?_; rintro e w4 ⟨rfl, HK4, HL4⟩)
  | (go_at_call 37; refine (HO1.out _ HK4.out).mono ?_; rintro e w5 ⟨t5, rfl, ht5, HK5, HL5⟩)
  | (go_at_call 49; refine (HLA.out _ _ _ HK5.out ((ht3.out.stay HL4.out).stay HL5.out) ht5.out).mono ?_; rintro e w6 ⟨t6, rfl, ht6, HK6⟩)
  | (go_at_call 36; refine (HTR.out _ _ HK6.out ht6.out).mono ?_; rintro e w7 ⟨p7, x7, rfl, hq⟩))
 go_ret2
 exact hq
end Go.Proofs.YtdmcioghdindfaaGreatDoor
