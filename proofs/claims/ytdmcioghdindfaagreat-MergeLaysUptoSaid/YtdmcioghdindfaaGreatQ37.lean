/-
  Texts put together: RLayW.
-/
import Derived.Test.YtdmcioghdindfaaGreatQ35
import Derived.Test.YtdmcioghdindfaaGreatQ36
import Derived.Test.YtdmcioghdindfaaGreatQ25
import Derived.Test.YtdmcioghdindfaaGreatQ34
import Derived.Test.YtdmcioghdindfaaGreatQ03
set_option linter.unusedSimpArgs false
namespace Go.Proofs.YtdmcioghdindfaaGreat
open Go Go.RowKit Go.Aff Go.Json
attribute [local go_sem] Oper.semAt_some
structure RlSt (D : Nat → Prop) (w0 w4 wx : World) (p : Nat) (B : Option Addr) (d : Nat) (A : Option Addr) (c : Nat) (ms : List (ByteArray × JV)) (css : List (List Value)) : Prop where
 rb : RbS D w0 wx p B d A c (ms.map (·.1)) css (ms.map (·.2))
 ob : ∀ g, (Value.slice B (ms.map (·.1)).length d).ownBlock = some g → w4.heap.size ≤ g
 oa : ∀ g, (Value.slice A (ms.map (·.1)).length c).ownBlock = some g → w4.heap.size ≤ g
 keep : Keeps (fun i => i = p ∨ w4.heap.size ≤ i) w4 wx
theorem RlSt.stay {D : Nat → Prop} {w0 w4 wx w' : World} {p : Nat} {B : Option Addr} {d : Nat} {A : Option Addr} {c : Nat} {ms : List (ByteArray × JV)} {css : List (List Value)} (h : RlSt D w0 w4 wx p B d A c ms css) (k : Keeps (fun _ => False) wx w') : RlSt D w0 w4 w' p B d A c ms css :=
 ⟨h.rb.stay k, h.ob, h.oa, h.keep.trans k fun _ _ h => h.elim⟩
theorem RlSt.start {D : Nat → Prop} {w0 w4 : World} {p : Nat} (h : RbS D w0 w4 p none 0 none 0 [] [] []) : RlSt D w0 w4 w4 p none 0 none 0 [] [] :=
 ⟨h, fun g e => by simp [Value.ownBlock] at e, fun g e => by simp [Value.ownBlock] at e, Keeps.refl _ _⟩
theorem rl_more {D : Nat → Prop} {w0 w4 W w10 : World} {b n : Nat} {B : Option Addr} {d : Nat} {A : Option Addr} {c : Nat} {ms : List (ByteArray × JV)} {css : List (List Value)} (h : RlSt D w0 w4 W b B d A c ms css) (hn : n = (ms.map (·.1)).length)
  {ky : ByteArray} {cs : List Value} {x : JV} (hx : RAt (Rb_ D b (.slice B n d) (.slice A n c)) W cs x) (hS : Keeps (fun i => (Value.slice B n d).ownBlock = some i ∨ (Value.slice A n c).ownBlock = some i) W w10)
  {B8 : Option Addr} {d8 : Nat} {A10 : Option Addr} {c10 : Nat}
  (hT : BoxTwo w0 w10 b 29 [.int .i64 6, .bool false, .int .u64 0, .string .empty, .slice A n c, .slice B n d] 9 1 B8 (n + 1) d8 ((ms.map (·.1)).map .string ++ [.string ky]) 29 6 A10 (n + 1) c10 (css.flatten ++ cs))
  (hB : ∀ g, (Value.slice B8 (n + 1) d8).ownBlock = some g → (Value.slice B n d).ownBlock = some g ∨ W.heap.size ≤ g) (hA : ∀ g, (Value.slice A10 (n + 1) c10).ownBlock = some g → (Value.slice A n c).ownBlock = some g ∨ W.heap.size ≤ g) :
  RlSt D w0 w4 ((w10.setCell ⟨b, 5, none⟩ (.slice B8 (n + 1) d8)).setCell ⟨b, 4, none⟩ (.slice A10 (n + 1) c10)) b B8 d8 A10 c10 (ms ++ [(ky, x)]) (css ++ [cs]) := by
 subst hn
 have hT22 := (hT.set 5 (.slice B8 ((ms.map (·.1)).length + 1) d8)).set 4 (.slice A10 ((ms.map (·.1)).length + 1) c10)
 have kset : Keeps (fun i => i = b) w10 ((w10.setCell ⟨b, 5, none⟩ (.slice B8 ((ms.map (·.1)).length + 1) d8)).setCell ⟨b, 4, none⟩ (.slice A10 ((ms.map (·.1)).length + 1) c10)) :=
  ((Keeps.refl (fun i => i = b) w10).setCell (p := ⟨b, 5, none⟩) (.inl rfl) _).setCell (p := ⟨b, 4, none⟩) (.inl rfl) _
 have kF : Keeps (fun i => i = b ∨ (Value.slice B (ms.map (·.1)).length d).ownBlock = some i ∨ (Value.slice A (ms.map (·.1)).length c).ownBlock = some i) W ((w10.setCell ⟨b, 5, none⟩ (.slice B8 ((ms.map (·.1)).length + 1) d8)).setCell ⟨b, 4, none⟩ (.slice A10 ((ms.map (·.1)).length + 1) c10)) := (hS.mono (fun _ _ h => .inr h)).trans kset (fun _ _ e => .inl e)
 have hk1 : (ms ++ [(ky, x)]).map (·.1) = ms.map (·.1) ++ [ky] := by rw [List.map_append]; rfl
 have hk2 : (ms ++ [(ky, x)]).map (·.2) = ms.map (·.2) ++ [x] := by rw [List.map_append]; rfl
 have hpl : (ms.map (·.1) ++ [ky]).length = (ms.map (·.1)).length + 1 := by rw [List.length_append]; rfl
 have hmove : ∀ val y, RAt (Rb_ D b (.slice B (ms.map (·.1)).length d) (.slice A (ms.map (·.1)).length c)) W val y → RAt (Rb_ D b (.slice B8 ((ms.map (·.1)).length + 1) d8) (.slice A10 ((ms.map (·.1)).length + 1) c10)) ((w10.setCell ⟨b, 5, none⟩ (.slice B8 ((ms.map (·.1)).length + 1) d8)).setCell ⟨b, 4, none⟩ (.slice A10 ((ms.map (·.1)).length + 1) c10)) val y := fun val y h4 => by
  refine ((h4.mono (C := fun k => Rb_ D b (.slice B (ms.map (·.1)).length d) (.slice A (ms.map (·.1)).length c) k ∧ k < W.heap.size) fun k h5 h6 => ⟨h5, h6⟩).keep kF (fun k hk e => ?_)).mono fun k hk _ => ⟨hk.1.1, hk.1.2.1, fun e => ?_, fun e => ?_⟩
  ·rcases e with e | e | e
   ·exact hk.1.2.1 e
   ·exact hk.1.2.2.1 e
   ·exact hk.1.2.2.2 e
  ·rcases hB k e with h5 | h5
   ·exact hk.1.2.2.1 h5
   ·have := hk.2; omega
  ·rcases hA k e with h5 | h5
   ·exact hk.1.2.2.2 h5
   ·have := hk.2; omega
 have hW := h.keep.size
 refine ⟨⟨?_, ?_, ?_⟩, fun g e => ?_, fun g e => ?_, ?_⟩
 ·rw [hk1, hpl, List.map_append, List.flatten_append]
  simp only [List.map_cons, List.map_nil, List.flatten_cons, List.flatten_nil, List.append_nil]
  exact hT22
 ·rw [hk1, hk2, hpl]
  exact RList.app ⟨h.rb.lst.1, fun i cs y h1 h2 => hmove _ _ (h.rb.lst.2 i cs y h1 h2)⟩ (RList.one (hmove _ _ hx))
 ·rw [hk1, hk2, hpl, List.length_append, h.rb.len]; rfl
 ·rw [hk1, hpl] at e
  rcases hB g e with h5 | h5
  ·exact h.ob g h5
  ·omega
 ·rw [hk1, hpl] at e
  rcases hA g e with h5 | h5
  ·exact h.oa g h5
  ·omega
 ·refine h.keep.trans kF fun i _ e => ?_
  rcases e with e | e | e
  ·exact .inl e
  ·exact .inr (h.ob i e)
  ·exact .inr (h.oa i e)
structure TwoV (w W : World) (p8 p9 : Nat) (X Y : List Value) : Prop where
 keep : Keeps (fun _ => False) w W
 b8 : Blk W p8 29 X
 b9 : Blk W p9 29 Y
 ne : p8 ≠ p9
 lo8 : w.heap.size ≤ p8
 lo9 : w.heap.size ≤ p9
theorem blk_rngL {w : World} {p : Nat} {ty : TypeId} {cs : List Value} (h : Blk w p ty cs) : w.rangeAt p 0 cs := fun j v hv => by rw [Nat.zero_add, h.cell]; exact hv
theorem infoV {v : List Value} (h : v.length = 6) : (Tryz.prog.info? 29).map (·.size) = some v.length := by rw [h]; kernel_rfl
theorem rl_fin {D : Nat → Prop} {w w1 wr : World} {b2 p : Nat} {B : Option Addr} {d : Nat} {A : Option Addr} {c : Nat} {ks : List ByteArray} {css : List (List Value)} {js : List JV} {TV : TypeId} {zs : List Value} (h : RbS (fun i => D i ∨ w1.heap.size ≤ i) w1 wr p B d A c ks css js) (hD : ∀ i, D i → i < w.heap.size) (h1 : Keeps (fun _ => False) w w1)
  (hlo : w.heap.size ≤ b2) (hhi : b2 < w1.heap.size) (hbb : Blk wr b2 TV zs) :
  Blk (wr.setRow b2 #[.int .i64 6, .bool false, .int .u64 0, .string .empty, .slice A ks.length c, .slice B ks.length d]) b2 TV [.int .i64 6, .bool false, .int .u64 0, .string .empty, .slice A ks.length c, .slice B ks.length d] ∧
  MadePost D w (.obj ks js) (.returned (.agg #[.int .i64 6, .bool false, .int .u64 0, .string .empty, .slice A ks.length c, .slice B ks.length d])) (wr.setRow b2 #[.int .i64 6, .bool false, .int .u64 0, .string .empty, .slice A ks.length c, .slice B ks.length d]) := by
 have hk := setRow_keep wr b2 #[.int .i64 6, .bool false, .int .u64 0, .string .empty, .slice A ks.length c, .slice B ks.length d]
 have hwr := h1.trans h.two.hold (fun _ _ h => h)
 have hr : RAt (fun i => D i ∨ w1.heap.size ≤ i) wr (refC (.obj ks js) A c B d) (.obj ks js) := by
  have hA := MineS.rdS h.two.two.b
  have hA2 := MineS.inB h.two.two.b
  rw [← h.len] at hA hA2
  exact RAt.of (.obj ks js) (h.lst.mono fun i hi _ => hi.1) hA (hA2.mono fun i hi => .inr hi) (MineS.rd h.two.two.a) ((MineS.inB h.two.two.a).mono fun i hi => .inr hi)
 have hcs : refC (.obj ks js) A c B d = [.int .i64 6, .bool false, .int .u64 0, .string .empty, .slice A ks.length c, .slice B ks.length d] := by
  show [Value.int .i64 6, .bool false, .int .u64 0, .string .empty, .slice A js.length c, .slice B ks.length d] = _
  rw [h.len]
 rw [hcs] at hr
 refine ⟨hbb.setRow _, _, rfl, (hr.keep hk fun i hi e => ?_).mono fun i hi _ => hi.imp id fun h => Nat.le_trans h1.size h, hwr.trans hk fun i hi e => by omega⟩
 rcases hi with h2 | h2
 ·have := hD i h2; omega
 ·omega
structure LayIn (D : Nat → Prop) (w : World) (v u : List Value) (ko : List ByteArray) (lo : List JV) (o : Option JV) : Prop where
 at1 : RAt D w v (.obj ko lo)
 at2 : ORAt D w u o
 low : ∀ i, D i → i < w.heap.size
 ok : JOk (.obj ko lo)
 ok2 : OOk o
 few : (mem2 o).1.length + ko.length ≤ 1048576
 right : ∀ s ∈ (mem2 o).1 ++ ko, rightS s = true ∧ s.size ≤ 1099511627776
set_option maxHeartbeats 4000000 in
set_option maxRecDepth 100000 in
theorem rlay_obj {D : Nat → Prop} (w : World) (v u : List Value) (ko : List ByteArray) (lo : List JV) (o : Option JV) (h : LayIn D w v u ko lo o)
  (ih : ∀ y ∈ lo, ∀ (ou : Option JV), (∀ x, ou = some x → x ∈ (mem2 o).2) → ∀ (D' : Nat → Prop) (W : World) (t s : List Value), RAt D' W t y → ORAt D' W s ou → Calls Tryz.prog 10 #[.agg t.toArray, .agg s.toArray] W (MadePost D' W (y.lay ou))) :
  Calls Tryz.prog 10 #[.agg v.toArray, .agg u.toArray] w (MadePost D w ((JV.obj ko lo).lay o)) := by
 rw [lay_obj]
 have HH := Lib.hid h
 have HIH := Lib.hid ih
 have HL6 : Hid (v.length = 6 ∧ u.length = 6) := Lib.hid ⟨h.at1.len, h.at2.len⟩
 have HSV := Lib.hid (infoV HL6.out.1)
 have HSU := Lib.hid (infoV HL6.out.2)
 have hb1 := ((Blk.new w 29 v).alloc (.cells u.toArray 29)).alloc (.cells #[.int .i64 0, .bool false, .int .u64 0, .string .empty, .slice none 0 0, .slice none 0 0] 29)
 have hb2 := (Blk.new (w.alloc (.cells v.toArray 29)) 29 u).alloc (.cells #[.int .i64 0, .bool false, .int .u64 0, .string .empty, .slice none 0 0, .slice none 0 0] 29)
 have hb3 := Blk.new ((w.alloc (.cells v.toArray 29)).alloc (.cells u.toArray 29)) 29 [.int .i64 0, .bool false, .int .u64 0, .string .empty, .slice none 0 0, .slice none 0 0]
 have hk3 := (((Keeps.refl (fun _ => False) w).alloc (.cells v.toArray 29)).alloc (.cells u.toArray 29)).alloc (.cells #[.int .i64 0, .bool false, .int .u64 0, .string .empty, .slice none 0 0, .slice none 0 0] 29)
 simp only [World.size_alloc] at hb2 hb3
 obtain ⟨b1, hq1⟩ : ∃ b, b = w.heap.size := ⟨_, rfl⟩
 obtain ⟨b2, hq2⟩ : ∃ b, b = w.heap.size + 1 := ⟨_, rfl⟩
 obtain ⟨b3, hq3⟩ : ∃ b, b = w.heap.size + 1 + 1 := ⟨_, rfl⟩
 have HW3 := Lib.hid (And.intro hk3 (And.intro hb1 (And.intro hb2 hb3)))
 clear h ih hb1 hb2 hb3 hk3
 go_enter Tryz.func10, Tryz.ntmps10
 go_upto_region 1 with fail
 rw [← hq3, ← hq2, ← hq1] at HW3
 rw [← hq3, ← hq2, ← hq1]
 refine gen_codeF (fun W => Keeps (fun _ => False) w W ∧ Blk W b1 29 v ∧ Blk W b2 29 u ∧ Blk W b3 29 [.int .i64 0, .bool false, .int .u64 0, .string .empty, .slice none 0 0, .slice none 0 0]) HW3.out ?_
 rintro w1 ⟨k1, g1, g2, g3⟩
 have H1 := Lib.hid (And.intro k1 (And.intro g1 (And.intro g2 (And.intro g3 (And.intro hq1 (And.intro hq2 hq3))))))
 have c0 : w1.cell? ⟨b1, 0, none⟩ = some (.int .i64 6) := by
  obtain ⟨A', c', B', d', cs', hv', _⟩ := HH.out.at1.form
  rw [g1.cell 0, hv']; rfl
 have hz := Blk.new w1 29 [.int .i64 0, .bool false, .int .u64 0, .string .empty, .slice none 0 0, .slice none 0 0]
 have f0 := hz.frozen 0
 have f1 := hz.frozen 1
 have f2 := hz.frozen 2
 have f3 := hz.frozen 3
 have f4 := hz.frozen 4
 have f5 := hz.frozen 5
 clear k1 g1 g2 g3 hq1 hq2 hq3 HW3 hz
 go_upto_region 4 with fail
 obtain ⟨p, hp⟩ : ∃ p, p = w1.heap.size := ⟨_, rfl⟩
 have HS0 : Hid (RbS (fun i => D i ∨ w1.heap.size ≤ i) w1 (w1.alloc (.cells #[.int .i64 6, .bool false, .int .u64 0, .string .empty, .slice none 0 0, .slice none 0 0] 29)) p none 0 none 0 [] [] []) := Lib.hid ⟨by rw [hp]; exact BoxTwo.start w1 29 9 29 1 6 (Keeps.refl _ w1) [.int .i64 6, .bool false, .int .u64 0, .string .empty, .slice none 0 0, .slice none 0 0], RList.nil _ _, rfl⟩
 rw [← hp]
 refine gen_codeF (fun W => RbS (fun i => D i ∨ w1.heap.size ≤ i) w1 W p none 0 none 0 [] [] []) HS0.out ?_
 intro w2 hs2
 have HS2 := Lib.hid hs2
 have HPP := Lib.hid hp
 clear HS0 hs2 hp c0 f0 f1 f2 f3 f4 f5
 have HBU := Lib.hid (HS2.out.two.hold.blk H1.out.2.2.1 (fun h => h))
 have HBV := Lib.hid (HS2.out.two.hold.blk H1.out.2.1 (fun h => h))
 have HKO : Hid (Calls Tryz.prog 22 #[.slice (some ⟨w2.heap.size, 0, none⟩) 2 2] (w2.alloc (.cells (u ++ v).toArray 29)) fun e w' => ∃ (A : Option Addr) (n c : Nat) (cs : List ByteArray), e = .returned (.slice A n c) ∧ n ≤ 1048576 ∧ Hid (cs.length = n ∧ Rd w' A n (cs.map .string) ∧ InB (fun i => w2.heap.size ≤ i) A n ∧ cs.Pairwise ltS ∧ (∀ s, s ∈ cs ↔ s ∈ (mem2 o).1 ++ ko) ∧ Keeps (fun _ => False) w2 w')) := Lib.hid (by
  have hk2 := (H1.out.1.trans HS2.out.two.hold fun _ _ h => h).alloc (.cells (u ++ v).toArray 29)
  have hall : keysTo [o, some (.obj ko lo)] 2 = (mem2 o).1 ++ ko := by simp [keysTo]; rfl
  refine (rkeysof_any (D := D) _ (some ⟨w2.heap.size, 0, none⟩) 2 2 [u, v] [o, some (.obj ko lo)] (by
   have := RdS.blk (n := 2) (s := 6) (Blk.new w2 29 (u ++ v)) (by rw [List.length_append, HL6.out.1, HL6.out.2])
   simpa using this) rfl rfl ?_ (by rw [hall, List.length_append]; exact HH.out.few) (by rw [hall]; exact HH.out.right) (by decide)).mono ?_
  ·intro i cs o' h1 h2
   match i, h1, h2 with
   | 0, h1, h2 => injection h1 with h1; injection h2 with h2; subst h1 h2; exact HH.out.at2.stay hk2
   | 1, h1, h2 => injection h1 with h1; injection h2 with h2; subst h1 h2; exact RAt.stay HH.out.at1 hk2
   | i + 2, h1, h2 => simp at h1
  ·rintro e w' ⟨A, n, c, cs, he, h1, h2, h3, h4, h5, h6, h7⟩
   rw [hall] at h6
   exact ⟨A, n, c, cs, he, h2, Lib.hid ⟨h1, h3, h4.mono fun i hi => Nat.le_trans (by rw [World.size_alloc]; omega) hi, h5, h6, ((Keeps.refl _ w2).alloc _).trans h7 fun _ _ h => h⟩⟩)
 go_upto_block 0 with (first
  | ((with_reducible show wpList _ _ _ (⟨some 15, _, _, _, _, _⟩ :: _) _ _); refine wpList_load_whole rfl 29 _ rfl _ rfl HBU.out Tryz.underlying29 rfl HSU.out ?_)
  | ((with_reducible show wpList _ _ _ (⟨some 16, _, _, _, _, _⟩ :: _) _ _); refine wpList_load_whole rfl 29 _ rfl _ rfl HBV.out Tryz.underlying29 rfl HSV.out ?_)
  | ((with_reducible show wpList _ _ _ (⟨some 17, _, _, _, _, _⟩ :: _) _ _); refine wpList_box2_S _ rfl 26 29 (.tmp 15) (.tmp 16) rfl (.agg #[.int .i64 0, .bool false, .int .u64 0, .string .empty, .slice none 0 0, .slice none 0 0]) 6 Tryz.underlying26 (by kernel_rfl) (by decide) (by decide) u v HL6.out.2 HL6.out.1 rfl rfl ?_)
  | (go_at_call 22; refine HKO.out.mono ?_; rintro e w4 ⟨A, n, c, cs, rfl, hn, H4⟩))
 have HS4 := Lib.hid (RlSt.start (HS2.out.stay H4.out.2.2.2.2.2))
 have HA4 := Lib.hid (Rd.inB H4.out.2.1 H4.out.2.2.1 (C := fun i => w2.heap.size ≤ i ∧ i < w4.heap.size) fun i h1 h2 => ⟨h1, h2⟩)
 have HP3 : Hid (w.heap.size ≤ w1.heap.size ∧ w1.heap.size ≤ p ∧ p < w2.heap.size ∧ w2.heap.size ≤ w4.heap.size) := Lib.hid ⟨H1.out.1.size, by rw [HPP.out]; exact Nat.le_refl _, HS2.out.two.blk.lt, H4.out.2.2.2.2.2.size⟩
 have HLE : Hid (∀ i, (layTo ko lo o cs i).length ≤ i) := Lib.hid (layTo_len ko lo o cs)
 clear HKO HBU HBV
 go_wp2
 go_loopg [7] n (fun gk t wx => ∃ (i : Nat) (B1 : Option Addr) (d1 : Nat) (A1 : Option Addr) (c1 : Nat) (css : List (List Value)), i ≤ n ∧ t = .int .i64 i ∧ gk = n - i ∧ Hid (RlSt (fun i => D i ∨ w1.heap.size ≤ i) w1 w4 wx p B1 d1 A1 c1 (layTo ko lo o cs i) css))
 case atStart => exact ⟨0, none, 0, none, 0, [], by omega, rfl, rfl, Lib.hid (by simp only [layTo, keyed, List.take_zero, List.filterMap_nil]; exact HS4.out)⟩
 case round =>
  obtain ⟨i, B1, d1, A1, c1, css, hin, rfl, hgk, HO⟩ := hrel
  have HGK := Lib.hid hgk
  clear hgk
  have HK1 : Hid (Keeps (fun _ => False) w1 wr ∧ Keeps (fun _ => False) w wr) := Lib.hid ⟨HO.out.rb.two.hold, H1.out.1.trans HO.out.rb.two.hold fun _ _ h => h⟩
  by_cases hlt : i < n
  ·obtain ⟨g, o1, key, hA, hky, hck⟩ := textAt (H4.out.2.1.keep HO.out.keep (HA4.out.out fun q hq e => by have := HP3.out; have := hq.1; have := hq.2; omega)) hlt
   subst hA
   have hkin := (H4.out.2.2.2.2.1 key).1 (List.mem_of_getElem? hky)
   have HBU := Lib.hid (HK1.out.1.blk H1.out.2.2.1 (fun h => h))
   have HBV := Lib.hid (HK1.out.1.blk H1.out.2.1 (fun h => h))
   have hm2 := mem2_ok HH.out.ok2
   have hf := HH.out.ok.form
   have HG5 : Hid (∀ V, Keeps (fun _ => False) wr V → Calls Tryz.prog 23 #[.agg u.toArray, .string key] V (ORPost D V (atK (mem2 o).1 (mem2 o).2 key))) := Lib.hid fun V hV => rget_any V u o (HH.out.at2.stay (HK1.out.2.trans hV fun _ _ h => h)) hm2.1 (by have := HH.out.few; omega) key
   have HG11 : Hid (∀ V, Keeps (fun _ => False) wr V → Calls Tryz.prog 23 #[.agg v.toArray, .string key] V (ORPost D V (atK ko lo key))) := Lib.hid fun V hV => rget_any V v (some (.obj ko lo)) (RAt.stay HH.out.at1 (HK1.out.2.trans hV fun _ _ h => h)) (hf.2.1 rfl) (by have := HH.out.few; show ko.length ≤ _; omega) key
   have HKY := Lib.hid (And.intro hky hkin)
   have HCK := Lib.hid hck
   have HML := Lib.hid (And.intro hm2 hf)
   obtain ⟨ou, hou⟩ : ∃ ou, ou = atK (mem2 o).1 (mem2 o).2 key := ⟨_, rfl⟩
   obtain ⟨oy, hoy⟩ : ∃ oy, oy = atK ko lo key := ⟨_, rfl⟩
   rw [← hou] at HG5
   rw [← hoy] at HG11
   have HOU := Lib.hid hou
   have HOY := Lib.hid hoy
   have HLW : Hid (∀ q, D q → q < wr.heap.size) := Lib.hid fun q hq => Nat.lt_of_lt_of_le (HH.out.low q hq) HK1.out.2.size
   have hi63 : (0 : Int) ≤ (i : Int) := by omega
   have hiN : (i : Int) < (n : Int) := by omega
   unfold ORPost at HG5 HG11
   clear hky hkin hck hm2 hf hou hoy
   go_upto_region 8 with fail
   go_cut [8, 9] (fun t s wx => ∃ (p8 p9 : Nat) (X Y : List Value), t = .pointer (some ⟨p8, 0, none⟩) ∧ s = .pointer (some ⟨p9, 0, none⟩) ∧ Hid (TwoV wr wx p8 p9 X Y ∧ ORAt D wx X ou ∧ ORAt D wx Y oy))
   case first =>
    refine wp_region_held_drew (S := Keeps (fun _ => False) wr) (by kernel_rfl) (Keeps.refl _ _).drew (fun hHeld => ?_)
    refine tH (i := 0) (oi := ⟨some 25, _, _, _, _, _⟩) (v := _) rfl (yieldsIf_load_mid (by rfl) _ _ rfl _ _ rfl u _ (fun w' h => blk_rngL (h.blk HBU.out (fun h => h))) Tryz.underlying29 rfl HSU.out) hHeld ?_
    try simp only [pu]
    refine tH (i := 1) (oi := ⟨some 26, _, _, _, _, _⟩) (v := ?_) rfl (Or.inl ⟨by rfl, ?_⟩) hHeld ?_
    rotate_left
    ·intro w' hSw
     go_simp
     first | done | rfl
    try simp only [pu]
    refine tH (i := 2) (oi := ⟨some 27, _, _, _, _, _⟩) (v := ?_) rfl (Or.inl ⟨by rfl, ?_⟩) hHeld ?_
    rotate_left
    ·intro w' hSw
     go_simp
     first | done | rfl
    try simp only [pu]
    refine tH (i := 3) (oi := ⟨some 28, _, _, _, _, _⟩) (v := ?_) rfl (Or.inl ⟨by rfl, ?_⟩) hHeld ?_
    rotate_left
    ·intro w' hSw
     go_simp
     first | done | rfl
    try simp only [pu]
    refine tH (i := 4) (oi := ⟨some 29, _, _, _, _, _⟩) (v := ?_) rfl (Or.inl ⟨by rfl, ?_⟩) hHeld ?_
    rotate_left
    ·intro w' hSw
     have cv := cell_keep hSw HCK.out
     go_simp
     first | done | rfl
    try simp only [pu]
    refine tH (i := 6) (oi := ⟨some 31, _, _, _, _, _⟩) (v := _) rfl (yieldsIf_load_mid (by rfl) _ _ rfl _ _ rfl v _ (fun w' h => blk_rngL (h.blk HBV.out (fun h => h))) Tryz.underlying29 rfl HSV.out) hHeld ?_
    try simp only [pu]
    refine tH (i := 7) (oi := ⟨some 32, _, _, _, _, _⟩) (v := ?_) rfl (Or.inl ⟨by rfl, ?_⟩) hHeld ?_
    rotate_left
    ·intro w' hSw
     go_simp
     first | done | rfl
    try simp only [pu]
    refine tH (i := 8) (oi := ⟨some 33, _, _, _, _, _⟩) (v := ?_) rfl (Or.inl ⟨by rfl, ?_⟩) hHeld ?_
    rotate_left
    ·intro w' hSw
     go_simp
     first | done | rfl
    try simp only [pu]
    refine tH (i := 9) (oi := ⟨some 34, _, _, _, _, _⟩) (v := ?_) rfl (Or.inl ⟨by rfl, ?_⟩) hHeld ?_
    rotate_left
    ·intro w' hSw
     go_simp
     first | done | rfl
    try simp only [pu]
    refine tH (i := 10) (oi := ⟨some 35, _, _, _, _, _⟩) (v := ?_) rfl (Or.inl ⟨by rfl, ?_⟩) hHeld ?_
    rotate_left
    ·intro w' hSw
     have cv := cell_keep hSw HCK.out
     go_simp
     first | done | rfl
    try simp only [pu]
    refine wpAnyH_ready (rs := [5, 12, 13]) (by kernel_rfl) (by simp) ?_
    refine (AllReadyH.cons (o := ⟨some 30, _, _, _, _, _⟩) rfl (fun K hK => ?_) (AllReadyH.cons (o := ⟨some 8, _, _, _, _, _⟩) rfl (fun K hK => ?_) (AllReadyH.cons (o := ⟨some 9, _, _, _, _, _⟩) rfl (fun K hK => ?_) AllReadyH.nil)))
    ·go_simp
     refine (HG5.out _ hHeld).mono ?_
     rintro e v5 ⟨X5, rfl, hx5, k5⟩
     have h5 := hHeld.trans k5 (fun _ _ h => h)
     refine hK.out _ _ h5 (fun hHeld => ?_)
     clear hK K
     try simp only [pu]
     refine wpAnyH_ready (rs := [11, 12, 13]) (by kernel_rfl) (by simp) ?_
     refine (AllReadyH.cons (o := ⟨some 36, _, _, _, _, _⟩) rfl (fun K hK => ?_) (AllReadyH.cons (o := ⟨some 8, _, _, _, _, _⟩) rfl (fun K hK => ?_) (AllReadyH.cons (o := ⟨some 9, _, _, _, _, _⟩) rfl (fun K hK => ?_) AllReadyH.nil)))
     ·go_simp
      refine (HG11.out _ hHeld).mono ?_
      rintro e v5_11 ⟨X11, rfl, hx11, k5_11⟩
      replace hx5 := hx5.stay k5_11
      have h5_11 := hHeld.trans k5_11 (fun _ _ h => h)
      refine hK.out _ _ h5_11 (fun hHeld => ?_)
      clear hK K
      try simp only [pu]
      refine wpAnyH_ready (rs := [12, 13]) (by kernel_rfl) (by simp) ?_
      refine (AllReadyH.cons (o := ⟨some 8, _, _, _, _, _⟩) rfl (fun K hK => ?_) (AllReadyH.cons (o := ⟨some 9, _, _, _, _, _⟩) rfl (fun K hK => ?_) AllReadyH.nil))
      ·go_simp
       refine gen_KA (fun V => Keeps (fun _ => False) v5_11 V ∧ Blk V v5_11.heap.size 29 [Value.int .i64 0, .bool false, .int .u64 0, .string .empty, .slice none 0 0, .slice none 0 0]) ⟨(Keeps.refl _ _).alloc _, Blk.new _ _ _⟩ ?_
       rintro v5_11_12 ⟨k5_11_12, b12⟩
       have lo12 := hHeld.size
       replace hx5 := hx5.stay k5_11_12
       replace hx11 := hx11.stay k5_11_12
       have h5_11_12 := hHeld.trans k5_11_12 (fun _ _ h => h)
       refine hK.out _ _ h5_11_12 (fun hHeld => ?_)
       clear hK K
       try simp only [pu]
       refine wpAnyH_ready (rs := [13]) (by kernel_rfl) (by simp) ?_
       refine (AllReadyH.cons (o := ⟨some 9, _, _, _, _, _⟩) rfl (fun K hK => ?_) AllReadyH.nil)
       go_simp
       refine gen_KA (fun V => Keeps (fun _ => False) v5_11_12 V ∧ Blk V v5_11_12.heap.size 29 [Value.int .i64 0, .bool false, .int .u64 0, .string .empty, .slice none 0 0, .slice none 0 0]) ⟨(Keeps.refl _ _).alloc _, Blk.new _ _ _⟩ ?_
       rintro v5_11_12_13 ⟨k5_11_12_13, b13⟩
       have lo13 := hHeld.size
       have hne := Nat.ne_of_lt b12.lt
       replace b12 := k5_11_12_13.blk b12 (fun h => h)
       replace hx5 := hx5.stay k5_11_12_13
       replace hx11 := hx11.stay k5_11_12_13
       have h5_11_12_13 := hHeld.trans k5_11_12_13 (fun _ _ h => h)
       refine hK.out _ _ h5_11_12_13 (fun hHeld => ?_)
       clear hK K
       try simp only [pu]
       refine wpAnyH_ready (rs := [14]) (by kernel_rfl) (by simp) ?_
       refine (AllReadyH.cons (o := ⟨none, _, _, _, _, _⟩) rfl (fun K hK => ?_) AllReadyH.nil)
       skip
       refine step_store_whole rfl 29 (.tmp 8) (.tmp 30) rfl X5 rfl rfl b12 (by rw [hx5.len]; rfl) (infoV hx5.len) hx5.one ?_
       refine gen_KA (fun V => Keeps (fun i => i = v5_11.heap.size) v5_11_12_13 V ∧ Blk V v5_11.heap.size 29 X5) ⟨setRow_keep _ _ _, b12.setRow _⟩ ?_
       rintro v5_11_12_13_14 ⟨k5_11_12_13_14, b12⟩
       replace b13 := k5_11_12_13_14.blk b13 (fun e => hne e.symm)
       replace hx5 := hx5.keep k5_11_12_13_14 (fun q hq e => by have h1 := HLW.out q hq; have h2 : wr.heap.size ≤ v5_11.heap.size := lo12; omega)
       replace hx11 := hx11.keep k5_11_12_13_14 (fun q hq e => by have h1 := HLW.out q hq; have h2 : wr.heap.size ≤ v5_11.heap.size := lo12; omega)
       have h5_11_12_13_14 := hHeld.trans k5_11_12_13_14 (fun i hi e => by have h2 : wr.heap.size ≤ v5_11.heap.size := lo12; omega)
       refine hK.out _ _ h5_11_12_13_14 (fun hHeld => ?_)
       clear hK K
       try simp only [pu]
       refine wpAnyH_ready (rs := [15]) (by kernel_rfl) (by simp) ?_
       refine (AllReadyH.cons (o := ⟨none, _, _, _, _, _⟩) rfl (fun K hK => ?_) AllReadyH.nil)
       skip
       refine step_store_whole rfl 29 (.tmp 9) (.tmp 36) rfl X11 rfl rfl b13 (by rw [hx11.len]; rfl) (infoV hx11.len) hx11.one ?_
       refine gen_KA (fun V => Keeps (fun i => i = v5_11_12.heap.size) v5_11_12_13_14 V ∧ Blk V v5_11_12.heap.size 29 X11) ⟨setRow_keep _ _ _, b13.setRow _⟩ ?_
       rintro v5_11_12_13_14_15 ⟨k5_11_12_13_14_15, b13⟩
       replace b12 := k5_11_12_13_14_15.blk b12 (hne)
       replace hx5 := hx5.keep k5_11_12_13_14_15 (fun q hq e => by have h1 := HLW.out q hq; have h2 : wr.heap.size ≤ v5_11_12.heap.size := lo13; omega)
       replace hx11 := hx11.keep k5_11_12_13_14_15 (fun q hq e => by have h1 := HLW.out q hq; have h2 : wr.heap.size ≤ v5_11_12.heap.size := lo13; omega)
       have h5_11_12_13_14_15 := hHeld.trans k5_11_12_13_14_15 (fun i hi e => by have h2 : wr.heap.size ≤ v5_11_12.heap.size := lo13; omega)
       refine hK.out _ _ h5_11_12_13_14_15 (fun hHeld => ?_)
       clear hK K
       try simp only [pu]
       refine wpAnyH_done (by kernel_rfl) ?_ _
       go_wp2
       go_meet
       exact ⟨_, _, _, _, rfl, rfl, Lib.hid ⟨⟨hHeld, b12, b13, hne, lo12, lo13⟩, hx5, hx11⟩⟩
      ·go_simp
       refine gen_KA (fun V => Keeps (fun _ => False) v5_11 V ∧ Blk V v5_11.heap.size 29 [Value.int .i64 0, .bool false, .int .u64 0, .string .empty, .slice none 0 0, .slice none 0 0]) ⟨(Keeps.refl _ _).alloc _, Blk.new _ _ _⟩ ?_
       rintro v5_11_13 ⟨k5_11_13, b13⟩
       have lo13 := hHeld.size
       replace hx5 := hx5.stay k5_11_13
       replace hx11 := hx11.stay k5_11_13
       have h5_11_13 := hHeld.trans k5_11_13 (fun _ _ h => h)
       refine hK.out _ _ h5_11_13 (fun hHeld => ?_)
       clear hK K
       try simp only [pu]
       refine wpAnyH_ready (rs := [12]) (by kernel_rfl) (by simp) ?_
       refine (AllReadyH.cons (o := ⟨some 8, _, _, _, _, _⟩) rfl (fun K hK => ?_) AllReadyH.nil)
       go_simp
       refine gen_KA (fun V => Keeps (fun _ => False) v5_11_13 V ∧ Blk V v5_11_13.heap.size 29 [Value.int .i64 0, .bool false, .int .u64 0, .string .empty, .slice none 0 0, .slice none 0 0]) ⟨(Keeps.refl _ _).alloc _, Blk.new _ _ _⟩ ?_
       rintro v5_11_13_12 ⟨k5_11_13_12, b12⟩
       have lo12 := hHeld.size
       have hne := Nat.ne_of_lt b13.lt
       replace b13 := k5_11_13_12.blk b13 (fun h => h)
       replace hx5 := hx5.stay k5_11_13_12
       replace hx11 := hx11.stay k5_11_13_12
       have h5_11_13_12 := hHeld.trans k5_11_13_12 (fun _ _ h => h)
       refine hK.out _ _ h5_11_13_12 (fun hHeld => ?_)
       clear hK K
       try simp only [pu]
       refine wpAnyH_ready (rs := [14]) (by kernel_rfl) (by simp) ?_
       refine (AllReadyH.cons (o := ⟨none, _, _, _, _, _⟩) rfl (fun K hK => ?_) AllReadyH.nil)
       skip
       refine step_store_whole rfl 29 (.tmp 8) (.tmp 30) rfl X5 rfl rfl b12 (by rw [hx5.len]; rfl) (infoV hx5.len) hx5.one ?_
       refine gen_KA (fun V => Keeps (fun i => i = v5_11_13.heap.size) v5_11_13_12 V ∧ Blk V v5_11_13.heap.size 29 X5) ⟨setRow_keep _ _ _, b12.setRow _⟩ ?_
       rintro v5_11_13_12_14 ⟨k5_11_13_12_14, b12⟩
       replace b13 := k5_11_13_12_14.blk b13 (hne)
       replace hx5 := hx5.keep k5_11_13_12_14 (fun q hq e => by have h1 := HLW.out q hq; have h2 : wr.heap.size ≤ v5_11_13.heap.size := lo12; omega)
       replace hx11 := hx11.keep k5_11_13_12_14 (fun q hq e => by have h1 := HLW.out q hq; have h2 : wr.heap.size ≤ v5_11_13.heap.size := lo12; omega)
       have h5_11_13_12_14 := hHeld.trans k5_11_13_12_14 (fun i hi e => by have h2 : wr.heap.size ≤ v5_11_13.heap.size := lo12; omega)
       refine hK.out _ _ h5_11_13_12_14 (fun hHeld => ?_)
       clear hK K
       try simp only [pu]
       refine wpAnyH_ready (rs := [15]) (by kernel_rfl) (by simp) ?_
       refine (AllReadyH.cons (o := ⟨none, _, _, _, _, _⟩) rfl (fun K hK => ?_) AllReadyH.nil)
       skip
       refine step_store_whole rfl 29 (.tmp 9) (.tmp 36) rfl X11 rfl rfl b13 (by rw [hx11.len]; rfl) (infoV hx11.len) hx11.one ?_
       refine gen_KA (fun V => Keeps (fun i => i = v5_11.heap.size) v5_11_13_12_14 V ∧ Blk V v5_11.heap.size 29 X11) ⟨setRow_keep _ _ _, b13.setRow _⟩ ?_
       rintro v5_11_13_12_14_15 ⟨k5_11_13_12_14_15, b13⟩
       replace b12 := k5_11_13_12_14_15.blk b12 (fun e => hne e.symm)
       replace hx5 := hx5.keep k5_11_13_12_14_15 (fun q hq e => by have h1 := HLW.out q hq; have h2 : wr.heap.size ≤ v5_11.heap.size := lo13; omega)
       replace hx11 := hx11.keep k5_11_13_12_14_15 (fun q hq e => by have h1 := HLW.out q hq; have h2 : wr.heap.size ≤ v5_11.heap.size := lo13; omega)
       have h5_11_13_12_14_15 := hHeld.trans k5_11_13_12_14_15 (fun i hi e => by have h2 : wr.heap.size ≤ v5_11.heap.size := lo13; omega)
       refine hK.out _ _ h5_11_13_12_14_15 (fun hHeld => ?_)
       clear hK K
       try simp only [pu]
       refine wpAnyH_done (by kernel_rfl) ?_ _
       go_wp2
       go_meet
       exact ⟨_, _, _, _, rfl, rfl, Lib.hid ⟨⟨hHeld, b12, b13, fun e => hne e.symm, lo12, lo13⟩, hx5, hx11⟩⟩
     ·go_simp
      refine gen_KA (fun V => Keeps (fun _ => False) v5 V ∧ Blk V v5.heap.size 29 [Value.int .i64 0, .bool false, .int .u64 0, .string .empty, .slice none 0 0, .slice none 0 0]) ⟨(Keeps.refl _ _).alloc _, Blk.new _ _ _⟩ ?_
      rintro v5_12 ⟨k5_12, b12⟩
      have lo12 := hHeld.size
      replace hx5 := hx5.stay k5_12
      have h5_12 := hHeld.trans k5_12 (fun _ _ h => h)
      refine hK.out _ _ h5_12 (fun hHeld => ?_)
      clear hK K
      try simp only [pu]
      refine wpAnyH_ready (rs := [11, 13]) (by kernel_rfl) (by simp) ?_
      refine (AllReadyH.cons (o := ⟨some 36, _, _, _, _, _⟩) rfl (fun K hK => ?_) (AllReadyH.cons (o := ⟨some 9, _, _, _, _, _⟩) rfl (fun K hK => ?_) AllReadyH.nil))
      ·go_simp
       refine (HG11.out _ hHeld).mono ?_
       rintro e v5_12_11 ⟨X11, rfl, hx11, k5_12_11⟩
       replace b12 := k5_12_11.blk b12 (fun h => h)
       replace hx5 := hx5.stay k5_12_11
       have h5_12_11 := hHeld.trans k5_12_11 (fun _ _ h => h)
       refine hK.out _ _ h5_12_11 (fun hHeld => ?_)
       clear hK K
       try simp only [pu]
       refine wpAnyH_ready (rs := [13]) (by kernel_rfl) (by simp) ?_
       refine (AllReadyH.cons (o := ⟨some 9, _, _, _, _, _⟩) rfl (fun K hK => ?_) AllReadyH.nil)
       go_simp
       refine gen_KA (fun V => Keeps (fun _ => False) v5_12_11 V ∧ Blk V v5_12_11.heap.size 29 [Value.int .i64 0, .bool false, .int .u64 0, .string .empty, .slice none 0 0, .slice none 0 0]) ⟨(Keeps.refl _ _).alloc _, Blk.new _ _ _⟩ ?_
       rintro v5_12_11_13 ⟨k5_12_11_13, b13⟩
       have lo13 := hHeld.size
       have hne := Nat.ne_of_lt b12.lt
       replace b12 := k5_12_11_13.blk b12 (fun h => h)
       replace hx5 := hx5.stay k5_12_11_13
       replace hx11 := hx11.stay k5_12_11_13
       have h5_12_11_13 := hHeld.trans k5_12_11_13 (fun _ _ h => h)
       refine hK.out _ _ h5_12_11_13 (fun hHeld => ?_)
       clear hK K
       try simp only [pu]
       refine wpAnyH_ready (rs := [14]) (by kernel_rfl) (by simp) ?_
       refine (AllReadyH.cons (o := ⟨none, _, _, _, _, _⟩) rfl (fun K hK => ?_) AllReadyH.nil)
       skip
       refine step_store_whole rfl 29 (.tmp 8) (.tmp 30) rfl X5 rfl rfl b12 (by rw [hx5.len]; rfl) (infoV hx5.len) hx5.one ?_
       refine gen_KA (fun V => Keeps (fun i => i = v5.heap.size) v5_12_11_13 V ∧ Blk V v5.heap.size 29 X5) ⟨setRow_keep _ _ _, b12.setRow _⟩ ?_
       rintro v5_12_11_13_14 ⟨k5_12_11_13_14, b12⟩
       replace b13 := k5_12_11_13_14.blk b13 (fun e => hne e.symm)
       replace hx5 := hx5.keep k5_12_11_13_14 (fun q hq e => by have h1 := HLW.out q hq; have h2 : wr.heap.size ≤ v5.heap.size := lo12; omega)
       replace hx11 := hx11.keep k5_12_11_13_14 (fun q hq e => by have h1 := HLW.out q hq; have h2 : wr.heap.size ≤ v5.heap.size := lo12; omega)
       have h5_12_11_13_14 := hHeld.trans k5_12_11_13_14 (fun i hi e => by have h2 : wr.heap.size ≤ v5.heap.size := lo12; omega)
       refine hK.out _ _ h5_12_11_13_14 (fun hHeld => ?_)
       clear hK K
       try simp only [pu]
       refine wpAnyH_ready (rs := [15]) (by kernel_rfl) (by simp) ?_
       refine (AllReadyH.cons (o := ⟨none, _, _, _, _, _⟩) rfl (fun K hK => ?_) AllReadyH.nil)
       skip
       refine step_store_whole rfl 29 (.tmp 9) (.tmp 36) rfl X11 rfl rfl b13 (by rw [hx11.len]; rfl) (infoV hx11.len) hx11.one ?_
       refine gen_KA (fun V => Keeps (fun i => i = v5_12_11.heap.size) v5_12_11_13_14 V ∧ Blk V v5_12_11.heap.size 29 X11) ⟨setRow_keep _ _ _, b13.setRow _⟩ ?_
       rintro v5_12_11_13_14_15 ⟨k5_12_11_13_14_15, b13⟩
       replace b12 := k5_12_11_13_14_15.blk b12 (hne)
       replace hx5 := hx5.keep k5_12_11_13_14_15 (fun q hq e => by have h1 := HLW.out q hq; have h2 : wr.heap.size ≤ v5_12_11.heap.size := lo13; omega)
       replace hx11 := hx11.keep k5_12_11_13_14_15 (fun q hq e => by have h1 := HLW.out q hq; have h2 : wr.heap.size ≤ v5_12_11.heap.size := lo13; omega)
       have h5_12_11_13_14_15 := hHeld.trans k5_12_11_13_14_15 (fun i hi e => by have h2 : wr.heap.size ≤ v5_12_11.heap.size := lo13; omega)
       refine hK.out _ _ h5_12_11_13_14_15 (fun hHeld => ?_)
       clear hK K
       try simp only [pu]
       refine wpAnyH_done (by kernel_rfl) ?_ _
       go_wp2
       go_meet
       exact ⟨_, _, _, _, rfl, rfl, Lib.hid ⟨⟨hHeld, b12, b13, hne, lo12, lo13⟩, hx5, hx11⟩⟩
      ·go_simp
       refine gen_KA (fun V => Keeps (fun _ => False) v5_12 V ∧ Blk V v5_12.heap.size 29 [Value.int .i64 0, .bool false, .int .u64 0, .string .empty, .slice none 0 0, .slice none 0 0]) ⟨(Keeps.refl _ _).alloc _, Blk.new _ _ _⟩ ?_
       rintro v5_12_13 ⟨k5_12_13, b13⟩
       have lo13 := hHeld.size
       have hne := Nat.ne_of_lt b12.lt
       replace b12 := k5_12_13.blk b12 (fun h => h)
       replace hx5 := hx5.stay k5_12_13
       have h5_12_13 := hHeld.trans k5_12_13 (fun _ _ h => h)
       refine hK.out _ _ h5_12_13 (fun hHeld => ?_)
       clear hK K
       try simp only [pu]
       refine wpAnyH_ready (rs := [11]) (by kernel_rfl) (by simp) ?_
       refine (AllReadyH.cons (o := ⟨some 36, _, _, _, _, _⟩) rfl (fun K hK => ?_) AllReadyH.nil)
       go_simp
       refine (HG11.out _ hHeld).mono ?_
       rintro e v5_12_13_11 ⟨X11, rfl, hx11, k5_12_13_11⟩
       replace b12 := k5_12_13_11.blk b12 (fun h => h)
       replace b13 := k5_12_13_11.blk b13 (fun h => h)
       replace hx5 := hx5.stay k5_12_13_11
       have h5_12_13_11 := hHeld.trans k5_12_13_11 (fun _ _ h => h)
       refine hK.out _ _ h5_12_13_11 (fun hHeld => ?_)
       clear hK K
       try simp only [pu]
       refine wpAnyH_ready (rs := [14]) (by kernel_rfl) (by simp) ?_
       refine (AllReadyH.cons (o := ⟨none, _, _, _, _, _⟩) rfl (fun K hK => ?_) AllReadyH.nil)
       skip
       refine step_store_whole rfl 29 (.tmp 8) (.tmp 30) rfl X5 rfl rfl b12 (by rw [hx5.len]; rfl) (infoV hx5.len) hx5.one ?_
       refine gen_KA (fun V => Keeps (fun i => i = v5.heap.size) v5_12_13_11 V ∧ Blk V v5.heap.size 29 X5) ⟨setRow_keep _ _ _, b12.setRow _⟩ ?_
       rintro v5_12_13_11_14 ⟨k5_12_13_11_14, b12⟩
       replace b13 := k5_12_13_11_14.blk b13 (fun e => hne e.symm)
       replace hx5 := hx5.keep k5_12_13_11_14 (fun q hq e => by have h1 := HLW.out q hq; have h2 : wr.heap.size ≤ v5.heap.size := lo12; omega)
       replace hx11 := hx11.keep k5_12_13_11_14 (fun q hq e => by have h1 := HLW.out q hq; have h2 : wr.heap.size ≤ v5.heap.size := lo12; omega)
       have h5_12_13_11_14 := hHeld.trans k5_12_13_11_14 (fun i hi e => by have h2 : wr.heap.size ≤ v5.heap.size := lo12; omega)
       refine hK.out _ _ h5_12_13_11_14 (fun hHeld => ?_)
       clear hK K
       try simp only [pu]
       refine wpAnyH_ready (rs := [15]) (by kernel_rfl) (by simp) ?_
       refine (AllReadyH.cons (o := ⟨none, _, _, _, _, _⟩) rfl (fun K hK => ?_) AllReadyH.nil)
       skip
       refine step_store_whole rfl 29 (.tmp 9) (.tmp 36) rfl X11 rfl rfl b13 (by rw [hx11.len]; rfl) (infoV hx11.len) hx11.one ?_
       refine gen_KA (fun V => Keeps (fun i => i = v5_12.heap.size) v5_12_13_11_14 V ∧ Blk V v5_12.heap.size 29 X11) ⟨setRow_keep _ _ _, b13.setRow _⟩ ?_
       rintro v5_12_13_11_14_15 ⟨k5_12_13_11_14_15, b13⟩
       replace b12 := k5_12_13_11_14_15.blk b12 (hne)
       replace hx5 := hx5.keep k5_12_13_11_14_15 (fun q hq e => by have h1 := HLW.out q hq; have h2 : wr.heap.size ≤ v5_12.heap.size := lo13; omega)
       replace hx11 := hx11.keep k5_12_13_11_14_15 (fun q hq e => by have h1 := HLW.out q hq; have h2 : wr.heap.size ≤ v5_12.heap.size := lo13; omega)
       have h5_12_13_11_14_15 := hHeld.trans k5_12_13_11_14_15 (fun i hi e => by have h2 : wr.heap.size ≤ v5_12.heap.size := lo13; omega)
       refine hK.out _ _ h5_12_13_11_14_15 (fun hHeld => ?_)
       clear hK K
       try simp only [pu]
       refine wpAnyH_done (by kernel_rfl) ?_ _
       go_wp2
       go_meet
       exact ⟨_, _, _, _, rfl, rfl, Lib.hid ⟨⟨hHeld, b12, b13, hne, lo12, lo13⟩, hx5, hx11⟩⟩
     ·go_simp
      refine gen_KA (fun V => Keeps (fun _ => False) v5 V ∧ Blk V v5.heap.size 29 [Value.int .i64 0, .bool false, .int .u64 0, .string .empty, .slice none 0 0, .slice none 0 0]) ⟨(Keeps.refl _ _).alloc _, Blk.new _ _ _⟩ ?_
      rintro v5_13 ⟨k5_13, b13⟩
      have lo13 := hHeld.size
      replace hx5 := hx5.stay k5_13
      have h5_13 := hHeld.trans k5_13 (fun _ _ h => h)
      refine hK.out _ _ h5_13 (fun hHeld => ?_)
      clear hK K
      try simp only [pu]
      refine wpAnyH_ready (rs := [11, 12]) (by kernel_rfl) (by simp) ?_
      refine (AllReadyH.cons (o := ⟨some 36, _, _, _, _, _⟩) rfl (fun K hK => ?_) (AllReadyH.cons (o := ⟨some 8, _, _, _, _, _⟩) rfl (fun K hK => ?_) AllReadyH.nil))
      ·go_simp
       refine (HG11.out _ hHeld).mono ?_
       rintro e v5_13_11 ⟨X11, rfl, hx11, k5_13_11⟩
       replace b13 := k5_13_11.blk b13 (fun h => h)
       replace hx5 := hx5.stay k5_13_11
       have h5_13_11 := hHeld.trans k5_13_11 (fun _ _ h => h)
       refine hK.out _ _ h5_13_11 (fun hHeld => ?_)
       clear hK K
       try simp only [pu]
       refine wpAnyH_ready (rs := [12]) (by kernel_rfl) (by simp) ?_
       refine (AllReadyH.cons (o := ⟨some 8, _, _, _, _, _⟩) rfl (fun K hK => ?_) AllReadyH.nil)
       go_simp
       refine gen_KA (fun V => Keeps (fun _ => False) v5_13_11 V ∧ Blk V v5_13_11.heap.size 29 [Value.int .i64 0, .bool false, .int .u64 0, .string .empty, .slice none 0 0, .slice none 0 0]) ⟨(Keeps.refl _ _).alloc _, Blk.new _ _ _⟩ ?_
       rintro v5_13_11_12 ⟨k5_13_11_12, b12⟩
       have lo12 := hHeld.size
       have hne := Nat.ne_of_lt b13.lt
       replace b13 := k5_13_11_12.blk b13 (fun h => h)
       replace hx5 := hx5.stay k5_13_11_12
       replace hx11 := hx11.stay k5_13_11_12
       have h5_13_11_12 := hHeld.trans k5_13_11_12 (fun _ _ h => h)
       refine hK.out _ _ h5_13_11_12 (fun hHeld => ?_)
       clear hK K
       try simp only [pu]
       refine wpAnyH_ready (rs := [14]) (by kernel_rfl) (by simp) ?_
       refine (AllReadyH.cons (o := ⟨none, _, _, _, _, _⟩) rfl (fun K hK => ?_) AllReadyH.nil)
       skip
       refine step_store_whole rfl 29 (.tmp 8) (.tmp 30) rfl X5 rfl rfl b12 (by rw [hx5.len]; rfl) (infoV hx5.len) hx5.one ?_
       refine gen_KA (fun V => Keeps (fun i => i = v5_13_11.heap.size) v5_13_11_12 V ∧ Blk V v5_13_11.heap.size 29 X5) ⟨setRow_keep _ _ _, b12.setRow _⟩ ?_
       rintro v5_13_11_12_14 ⟨k5_13_11_12_14, b12⟩
       replace b13 := k5_13_11_12_14.blk b13 (hne)
       replace hx5 := hx5.keep k5_13_11_12_14 (fun q hq e => by have h1 := HLW.out q hq; have h2 : wr.heap.size ≤ v5_13_11.heap.size := lo12; omega)
       replace hx11 := hx11.keep k5_13_11_12_14 (fun q hq e => by have h1 := HLW.out q hq; have h2 : wr.heap.size ≤ v5_13_11.heap.size := lo12; omega)
       have h5_13_11_12_14 := hHeld.trans k5_13_11_12_14 (fun i hi e => by have h2 : wr.heap.size ≤ v5_13_11.heap.size := lo12; omega)
       refine hK.out _ _ h5_13_11_12_14 (fun hHeld => ?_)
       clear hK K
       try simp only [pu]
       refine wpAnyH_ready (rs := [15]) (by kernel_rfl) (by simp) ?_
       refine (AllReadyH.cons (o := ⟨none, _, _, _, _, _⟩) rfl (fun K hK => ?_) AllReadyH.nil)
       skip
       refine step_store_whole rfl 29 (.tmp 9) (.tmp 36) rfl X11 rfl rfl b13 (by rw [hx11.len]; rfl) (infoV hx11.len) hx11.one ?_
       refine gen_KA (fun V => Keeps (fun i => i = v5.heap.size) v5_13_11_12_14 V ∧ Blk V v5.heap.size 29 X11) ⟨setRow_keep _ _ _, b13.setRow _⟩ ?_
       rintro v5_13_11_12_14_15 ⟨k5_13_11_12_14_15, b13⟩
       replace b12 := k5_13_11_12_14_15.blk b12 (fun e => hne e.symm)
       replace hx5 := hx5.keep k5_13_11_12_14_15 (fun q hq e => by have h1 := HLW.out q hq; have h2 : wr.heap.size ≤ v5.heap.size := lo13; omega)
       replace hx11 := hx11.keep k5_13_11_12_14_15 (fun q hq e => by have h1 := HLW.out q hq; have h2 : wr.heap.size ≤ v5.heap.size := lo13; omega)
       have h5_13_11_12_14_15 := hHeld.trans k5_13_11_12_14_15 (fun i hi e => by have h2 : wr.heap.size ≤ v5.heap.size := lo13; omega)
       refine hK.out _ _ h5_13_11_12_14_15 (fun hHeld => ?_)
       clear hK K
       try simp only [pu]
       refine wpAnyH_done (by kernel_rfl) ?_ _
       go_wp2
       go_meet
       exact ⟨_, _, _, _, rfl, rfl, Lib.hid ⟨⟨hHeld, b12, b13, fun e => hne e.symm, lo12, lo13⟩, hx5, hx11⟩⟩
      ·go_simp
       refine gen_KA (fun V => Keeps (fun _ => False) v5_13 V ∧ Blk V v5_13.heap.size 29 [Value.int .i64 0, .bool false, .int .u64 0, .string .empty, .slice none 0 0, .slice none 0 0]) ⟨(Keeps.refl _ _).alloc _, Blk.new _ _ _⟩ ?_
       rintro v5_13_12 ⟨k5_13_12, b12⟩
       have lo12 := hHeld.size
       have hne := Nat.ne_of_lt b13.lt
       replace b13 := k5_13_12.blk b13 (fun h => h)
       replace hx5 := hx5.stay k5_13_12
       have h5_13_12 := hHeld.trans k5_13_12 (fun _ _ h => h)
       refine hK.out _ _ h5_13_12 (fun hHeld => ?_)
       clear hK K
       try simp only [pu]
       refine wpAnyH_ready (rs := [11]) (by kernel_rfl) (by simp) ?_
       refine (AllReadyH.cons (o := ⟨some 36, _, _, _, _, _⟩) rfl (fun K hK => ?_) AllReadyH.nil)
       go_simp
       refine (HG11.out _ hHeld).mono ?_
       rintro e v5_13_12_11 ⟨X11, rfl, hx11, k5_13_12_11⟩
       replace b12 := k5_13_12_11.blk b12 (fun h => h)
       replace b13 := k5_13_12_11.blk b13 (fun h => h)
       replace hx5 := hx5.stay k5_13_12_11
       have h5_13_12_11 := hHeld.trans k5_13_12_11 (fun _ _ h => h)
       refine hK.out _ _ h5_13_12_11 (fun hHeld => ?_)
       clear hK K
       try simp only [pu]
       refine wpAnyH_ready (rs := [14]) (by kernel_rfl) (by simp) ?_
       refine (AllReadyH.cons (o := ⟨none, _, _, _, _, _⟩) rfl (fun K hK => ?_) AllReadyH.nil)
       skip
       refine step_store_whole rfl 29 (.tmp 8) (.tmp 30) rfl X5 rfl rfl b12 (by rw [hx5.len]; rfl) (infoV hx5.len) hx5.one ?_
       refine gen_KA (fun V => Keeps (fun i => i = v5_13.heap.size) v5_13_12_11 V ∧ Blk V v5_13.heap.size 29 X5) ⟨setRow_keep _ _ _, b12.setRow _⟩ ?_
       rintro v5_13_12_11_14 ⟨k5_13_12_11_14, b12⟩
       replace b13 := k5_13_12_11_14.blk b13 (hne)
       replace hx5 := hx5.keep k5_13_12_11_14 (fun q hq e => by have h1 := HLW.out q hq; have h2 : wr.heap.size ≤ v5_13.heap.size := lo12; omega)
       replace hx11 := hx11.keep k5_13_12_11_14 (fun q hq e => by have h1 := HLW.out q hq; have h2 : wr.heap.size ≤ v5_13.heap.size := lo12; omega)
       have h5_13_12_11_14 := hHeld.trans k5_13_12_11_14 (fun i hi e => by have h2 : wr.heap.size ≤ v5_13.heap.size := lo12; omega)
       refine hK.out _ _ h5_13_12_11_14 (fun hHeld => ?_)
       clear hK K
       try simp only [pu]
       refine wpAnyH_ready (rs := [15]) (by kernel_rfl) (by simp) ?_
       refine (AllReadyH.cons (o := ⟨none, _, _, _, _, _⟩) rfl (fun K hK => ?_) AllReadyH.nil)
       skip
       refine step_store_whole rfl 29 (.tmp 9) (.tmp 36) rfl X11 rfl rfl b13 (by rw [hx11.len]; rfl) (infoV hx11.len) hx11.one ?_
       refine gen_KA (fun V => Keeps (fun i => i = v5.heap.size) v5_13_12_11_14 V ∧ Blk V v5.heap.size 29 X11) ⟨setRow_keep _ _ _, b13.setRow _⟩ ?_
       rintro v5_13_12_11_14_15 ⟨k5_13_12_11_14_15, b13⟩
       replace b12 := k5_13_12_11_14_15.blk b12 (fun e => hne e.symm)
       replace hx5 := hx5.keep k5_13_12_11_14_15 (fun q hq e => by have h1 := HLW.out q hq; have h2 : wr.heap.size ≤ v5.heap.size := lo13; omega)
       replace hx11 := hx11.keep k5_13_12_11_14_15 (fun q hq e => by have h1 := HLW.out q hq; have h2 : wr.heap.size ≤ v5.heap.size := lo13; omega)
       have h5_13_12_11_14_15 := hHeld.trans k5_13_12_11_14_15 (fun i hi e => by have h2 : wr.heap.size ≤ v5.heap.size := lo13; omega)
       refine hK.out _ _ h5_13_12_11_14_15 (fun hHeld => ?_)
       clear hK K
       try simp only [pu]
       refine wpAnyH_done (by kernel_rfl) ?_ _
       go_wp2
       go_meet
       exact ⟨_, _, _, _, rfl, rfl, Lib.hid ⟨⟨hHeld, b12, b13, fun e => hne e.symm, lo12, lo13⟩, hx5, hx11⟩⟩
    ·go_simp
     refine gen_KA (fun V => Keeps (fun _ => False) wr.drew V ∧ Blk V wr.drew.heap.size 29 [Value.int .i64 0, .bool false, .int .u64 0, .string .empty, .slice none 0 0, .slice none 0 0]) ⟨(Keeps.refl _ _).alloc _, Blk.new _ _ _⟩ ?_
     rintro v12 ⟨k12, b12⟩
     have lo12 := hHeld.size
     have h12 := hHeld.trans k12 (fun _ _ h => h)
     refine hK.out _ _ h12 (fun hHeld => ?_)
     clear hK K
     try simp only [pu]
     refine wpAnyH_ready (rs := [5, 13]) (by kernel_rfl) (by simp) ?_
     refine (AllReadyH.cons (o := ⟨some 30, _, _, _, _, _⟩) rfl (fun K hK => ?_) (AllReadyH.cons (o := ⟨some 9, _, _, _, _, _⟩) rfl (fun K hK => ?_) AllReadyH.nil))
     ·go_simp
      refine (HG5.out _ hHeld).mono ?_
      rintro e v12_5 ⟨X5, rfl, hx5, k12_5⟩
      replace b12 := k12_5.blk b12 (fun h => h)
      have h12_5 := hHeld.trans k12_5 (fun _ _ h => h)
      refine hK.out _ _ h12_5 (fun hHeld => ?_)
      clear hK K
      try simp only [pu]
      refine wpAnyH_ready (rs := [11, 13]) (by kernel_rfl) (by simp) ?_
      refine (AllReadyH.cons (o := ⟨some 36, _, _, _, _, _⟩) rfl (fun K hK => ?_) (AllReadyH.cons (o := ⟨some 9, _, _, _, _, _⟩) rfl (fun K hK => ?_) AllReadyH.nil))
      ·go_simp
       refine (HG11.out _ hHeld).mono ?_
       rintro e v12_5_11 ⟨X11, rfl, hx11, k12_5_11⟩
       replace b12 := k12_5_11.blk b12 (fun h => h)
       replace hx5 := hx5.stay k12_5_11
       have h12_5_11 := hHeld.trans k12_5_11 (fun _ _ h => h)
       refine hK.out _ _ h12_5_11 (fun hHeld => ?_)
       clear hK K
       try simp only [pu]
       refine wpAnyH_ready (rs := [13]) (by kernel_rfl) (by simp) ?_
       refine (AllReadyH.cons (o := ⟨some 9, _, _, _, _, _⟩) rfl (fun K hK => ?_) AllReadyH.nil)
       go_simp
       refine gen_KA (fun V => Keeps (fun _ => False) v12_5_11 V ∧ Blk V v12_5_11.heap.size 29 [Value.int .i64 0, .bool false, .int .u64 0, .string .empty, .slice none 0 0, .slice none 0 0]) ⟨(Keeps.refl _ _).alloc _, Blk.new _ _ _⟩ ?_
       rintro v12_5_11_13 ⟨k12_5_11_13, b13⟩
       have lo13 := hHeld.size
       have hne := Nat.ne_of_lt b12.lt
       replace b12 := k12_5_11_13.blk b12 (fun h => h)
       replace hx5 := hx5.stay k12_5_11_13
       replace hx11 := hx11.stay k12_5_11_13
       have h12_5_11_13 := hHeld.trans k12_5_11_13 (fun _ _ h => h)
       refine hK.out _ _ h12_5_11_13 (fun hHeld => ?_)
       clear hK K
       try simp only [pu]
       refine wpAnyH_ready (rs := [14]) (by kernel_rfl) (by simp) ?_
       refine (AllReadyH.cons (o := ⟨none, _, _, _, _, _⟩) rfl (fun K hK => ?_) AllReadyH.nil)
       skip
       refine step_store_whole rfl 29 (.tmp 8) (.tmp 30) rfl X5 rfl rfl b12 (by rw [hx5.len]; rfl) (infoV hx5.len) hx5.one ?_
       refine gen_KA (fun V => Keeps (fun i => i = wr.drew.heap.size) v12_5_11_13 V ∧ Blk V wr.drew.heap.size 29 X5) ⟨setRow_keep _ _ _, b12.setRow _⟩ ?_
       rintro v12_5_11_13_14 ⟨k12_5_11_13_14, b12⟩
       replace b13 := k12_5_11_13_14.blk b13 (fun e => hne e.symm)
       replace hx5 := hx5.keep k12_5_11_13_14 (fun q hq e => by have h1 := HLW.out q hq; have h2 : wr.heap.size ≤ wr.drew.heap.size := lo12; omega)
       replace hx11 := hx11.keep k12_5_11_13_14 (fun q hq e => by have h1 := HLW.out q hq; have h2 : wr.heap.size ≤ wr.drew.heap.size := lo12; omega)
       have h12_5_11_13_14 := hHeld.trans k12_5_11_13_14 (fun i hi e => by have h2 : wr.heap.size ≤ wr.drew.heap.size := lo12; omega)
       refine hK.out _ _ h12_5_11_13_14 (fun hHeld => ?_)
       clear hK K
       try simp only [pu]
       refine wpAnyH_ready (rs := [15]) (by kernel_rfl) (by simp) ?_
       refine (AllReadyH.cons (o := ⟨none, _, _, _, _, _⟩) rfl (fun K hK => ?_) AllReadyH.nil)
       skip
       refine step_store_whole rfl 29 (.tmp 9) (.tmp 36) rfl X11 rfl rfl b13 (by rw [hx11.len]; rfl) (infoV hx11.len) hx11.one ?_
       refine gen_KA (fun V => Keeps (fun i => i = v12_5_11.heap.size) v12_5_11_13_14 V ∧ Blk V v12_5_11.heap.size 29 X11) ⟨setRow_keep _ _ _, b13.setRow _⟩ ?_
       rintro v12_5_11_13_14_15 ⟨k12_5_11_13_14_15, b13⟩
       replace b12 := k12_5_11_13_14_15.blk b12 (hne)
       replace hx5 := hx5.keep k12_5_11_13_14_15 (fun q hq e => by have h1 := HLW.out q hq; have h2 : wr.heap.size ≤ v12_5_11.heap.size := lo13; omega)
       replace hx11 := hx11.keep k12_5_11_13_14_15 (fun q hq e => by have h1 := HLW.out q hq; have h2 : wr.heap.size ≤ v12_5_11.heap.size := lo13; omega)
       have h12_5_11_13_14_15 := hHeld.trans k12_5_11_13_14_15 (fun i hi e => by have h2 : wr.heap.size ≤ v12_5_11.heap.size := lo13; omega)
       refine hK.out _ _ h12_5_11_13_14_15 (fun hHeld => ?_)
       clear hK K
       try simp only [pu]
       refine wpAnyH_done (by kernel_rfl) ?_ _
       go_wp2
       go_meet
       exact ⟨_, _, _, _, rfl, rfl, Lib.hid ⟨⟨hHeld, b12, b13, hne, lo12, lo13⟩, hx5, hx11⟩⟩
      ·go_simp
       refine gen_KA (fun V => Keeps (fun _ => False) v12_5 V ∧ Blk V v12_5.heap.size 29 [Value.int .i64 0, .bool false, .int .u64 0, .string .empty, .slice none 0 0, .slice none 0 0]) ⟨(Keeps.refl _ _).alloc _, Blk.new _ _ _⟩ ?_
       rintro v12_5_13 ⟨k12_5_13, b13⟩
       have lo13 := hHeld.size
       have hne := Nat.ne_of_lt b12.lt
       replace b12 := k12_5_13.blk b12 (fun h => h)
       replace hx5 := hx5.stay k12_5_13
       have h12_5_13 := hHeld.trans k12_5_13 (fun _ _ h => h)
       refine hK.out _ _ h12_5_13 (fun hHeld => ?_)
       clear hK K
       try simp only [pu]
       refine wpAnyH_ready (rs := [11]) (by kernel_rfl) (by simp) ?_
       refine (AllReadyH.cons (o := ⟨some 36, _, _, _, _, _⟩) rfl (fun K hK => ?_) AllReadyH.nil)
       go_simp
       refine (HG11.out _ hHeld).mono ?_
       rintro e v12_5_13_11 ⟨X11, rfl, hx11, k12_5_13_11⟩
       replace b12 := k12_5_13_11.blk b12 (fun h => h)
       replace b13 := k12_5_13_11.blk b13 (fun h => h)
       replace hx5 := hx5.stay k12_5_13_11
       have h12_5_13_11 := hHeld.trans k12_5_13_11 (fun _ _ h => h)
       refine hK.out _ _ h12_5_13_11 (fun hHeld => ?_)
       clear hK K
       try simp only [pu]
       refine wpAnyH_ready (rs := [14]) (by kernel_rfl) (by simp) ?_
       refine (AllReadyH.cons (o := ⟨none, _, _, _, _, _⟩) rfl (fun K hK => ?_) AllReadyH.nil)
       skip
       refine step_store_whole rfl 29 (.tmp 8) (.tmp 30) rfl X5 rfl rfl b12 (by rw [hx5.len]; rfl) (infoV hx5.len) hx5.one ?_
       refine gen_KA (fun V => Keeps (fun i => i = wr.drew.heap.size) v12_5_13_11 V ∧ Blk V wr.drew.heap.size 29 X5) ⟨setRow_keep _ _ _, b12.setRow _⟩ ?_
       rintro v12_5_13_11_14 ⟨k12_5_13_11_14, b12⟩
       replace b13 := k12_5_13_11_14.blk b13 (fun e => hne e.symm)
       replace hx5 := hx5.keep k12_5_13_11_14 (fun q hq e => by have h1 := HLW.out q hq; have h2 : wr.heap.size ≤ wr.drew.heap.size := lo12; omega)
       replace hx11 := hx11.keep k12_5_13_11_14 (fun q hq e => by have h1 := HLW.out q hq; have h2 : wr.heap.size ≤ wr.drew.heap.size := lo12; omega)
       have h12_5_13_11_14 := hHeld.trans k12_5_13_11_14 (fun i hi e => by have h2 : wr.heap.size ≤ wr.drew.heap.size := lo12; omega)
       refine hK.out _ _ h12_5_13_11_14 (fun hHeld => ?_)
       clear hK K
       try simp only [pu]
       refine wpAnyH_ready (rs := [15]) (by kernel_rfl) (by simp) ?_
       refine (AllReadyH.cons (o := ⟨none, _, _, _, _, _⟩) rfl (fun K hK => ?_) AllReadyH.nil)
       skip
       refine step_store_whole rfl 29 (.tmp 9) (.tmp 36) rfl X11 rfl rfl b13 (by rw [hx11.len]; rfl) (infoV hx11.len) hx11.one ?_
       refine gen_KA (fun V => Keeps (fun i => i = v12_5.heap.size) v12_5_13_11_14 V ∧ Blk V v12_5.heap.size 29 X11) ⟨setRow_keep _ _ _, b13.setRow _⟩ ?_
       rintro v12_5_13_11_14_15 ⟨k12_5_13_11_14_15, b13⟩
       replace b12 := k12_5_13_11_14_15.blk b12 (hne)
       replace hx5 := hx5.keep k12_5_13_11_14_15 (fun q hq e => by have h1 := HLW.out q hq; have h2 : wr.heap.size ≤ v12_5.heap.size := lo13; omega)
       replace hx11 := hx11.keep k12_5_13_11_14_15 (fun q hq e => by have h1 := HLW.out q hq; have h2 : wr.heap.size ≤ v12_5.heap.size := lo13; omega)
       have h12_5_13_11_14_15 := hHeld.trans k12_5_13_11_14_15 (fun i hi e => by have h2 : wr.heap.size ≤ v12_5.heap.size := lo13; omega)
       refine hK.out _ _ h12_5_13_11_14_15 (fun hHeld => ?_)
       clear hK K
       try simp only [pu]
       refine wpAnyH_done (by kernel_rfl) ?_ _
       go_wp2
       go_meet
       exact ⟨_, _, _, _, rfl, rfl, Lib.hid ⟨⟨hHeld, b12, b13, hne, lo12, lo13⟩, hx5, hx11⟩⟩
     ·go_simp
      refine gen_KA (fun V => Keeps (fun _ => False) v12 V ∧ Blk V v12.heap.size 29 [Value.int .i64 0, .bool false, .int .u64 0, .string .empty, .slice none 0 0, .slice none 0 0]) ⟨(Keeps.refl _ _).alloc _, Blk.new _ _ _⟩ ?_
      rintro v12_13 ⟨k12_13, b13⟩
      have lo13 := hHeld.size
      have hne := Nat.ne_of_lt b12.lt
      replace b12 := k12_13.blk b12 (fun h => h)
      have h12_13 := hHeld.trans k12_13 (fun _ _ h => h)
      refine hK.out _ _ h12_13 (fun hHeld => ?_)
      clear hK K
      try simp only [pu]
      refine wpAnyH_ready (rs := [5]) (by kernel_rfl) (by simp) ?_
      refine (AllReadyH.cons (o := ⟨some 30, _, _, _, _, _⟩) rfl (fun K hK => ?_) AllReadyH.nil)
      go_simp
      refine (HG5.out _ hHeld).mono ?_
      rintro e v12_13_5 ⟨X5, rfl, hx5, k12_13_5⟩
      replace b12 := k12_13_5.blk b12 (fun h => h)
      replace b13 := k12_13_5.blk b13 (fun h => h)
      have h12_13_5 := hHeld.trans k12_13_5 (fun _ _ h => h)
      refine hK.out _ _ h12_13_5 (fun hHeld => ?_)
      clear hK K
      try simp only [pu]
      refine wpAnyH_ready (rs := [11]) (by kernel_rfl) (by simp) ?_
      refine (AllReadyH.cons (o := ⟨some 36, _, _, _, _, _⟩) rfl (fun K hK => ?_) AllReadyH.nil)
      go_simp
      refine (HG11.out _ hHeld).mono ?_
      rintro e v12_13_5_11 ⟨X11, rfl, hx11, k12_13_5_11⟩
      replace b12 := k12_13_5_11.blk b12 (fun h => h)
      replace b13 := k12_13_5_11.blk b13 (fun h => h)
      replace hx5 := hx5.stay k12_13_5_11
      have h12_13_5_11 := hHeld.trans k12_13_5_11 (fun _ _ h => h)
      refine hK.out _ _ h12_13_5_11 (fun hHeld => ?_)
      clear hK K
      try simp only [pu]
      refine wpAnyH_ready (rs := [14]) (by kernel_rfl) (by simp) ?_
      refine (AllReadyH.cons (o := ⟨none, _, _, _, _, _⟩) rfl (fun K hK => ?_) AllReadyH.nil)
      skip
      refine step_store_whole rfl 29 (.tmp 8) (.tmp 30) rfl X5 rfl rfl b12 (by rw [hx5.len]; rfl) (infoV hx5.len) hx5.one ?_
      refine gen_KA (fun V => Keeps (fun i => i = wr.drew.heap.size) v12_13_5_11 V ∧ Blk V wr.drew.heap.size 29 X5) ⟨setRow_keep _ _ _, b12.setRow _⟩ ?_
      rintro v12_13_5_11_14 ⟨k12_13_5_11_14, b12⟩
      replace b13 := k12_13_5_11_14.blk b13 (fun e => hne e.symm)
      replace hx5 := hx5.keep k12_13_5_11_14 (fun q hq e => by have h1 := HLW.out q hq; have h2 : wr.heap.size ≤ wr.drew.heap.size := lo12; omega)
      replace hx11 := hx11.keep k12_13_5_11_14 (fun q hq e => by have h1 := HLW.out q hq; have h2 : wr.heap.size ≤ wr.drew.heap.size := lo12; omega)
      have h12_13_5_11_14 := hHeld.trans k12_13_5_11_14 (fun i hi e => by have h2 : wr.heap.size ≤ wr.drew.heap.size := lo12; omega)
      refine hK.out _ _ h12_13_5_11_14 (fun hHeld => ?_)
      clear hK K
      try simp only [pu]
      refine wpAnyH_ready (rs := [15]) (by kernel_rfl) (by simp) ?_
      refine (AllReadyH.cons (o := ⟨none, _, _, _, _, _⟩) rfl (fun K hK => ?_) AllReadyH.nil)
      skip
      refine step_store_whole rfl 29 (.tmp 9) (.tmp 36) rfl X11 rfl rfl b13 (by rw [hx11.len]; rfl) (infoV hx11.len) hx11.one ?_
      refine gen_KA (fun V => Keeps (fun i => i = v12.heap.size) v12_13_5_11_14 V ∧ Blk V v12.heap.size 29 X11) ⟨setRow_keep _ _ _, b13.setRow _⟩ ?_
      rintro v12_13_5_11_14_15 ⟨k12_13_5_11_14_15, b13⟩
      replace b12 := k12_13_5_11_14_15.blk b12 (hne)
      replace hx5 := hx5.keep k12_13_5_11_14_15 (fun q hq e => by have h1 := HLW.out q hq; have h2 : wr.heap.size ≤ v12.heap.size := lo13; omega)
      replace hx11 := hx11.keep k12_13_5_11_14_15 (fun q hq e => by have h1 := HLW.out q hq; have h2 : wr.heap.size ≤ v12.heap.size := lo13; omega)
      have h12_13_5_11_14_15 := hHeld.trans k12_13_5_11_14_15 (fun i hi e => by have h2 : wr.heap.size ≤ v12.heap.size := lo13; omega)
      refine hK.out _ _ h12_13_5_11_14_15 (fun hHeld => ?_)
      clear hK K
      try simp only [pu]
      refine wpAnyH_done (by kernel_rfl) ?_ _
      go_wp2
      go_meet
      exact ⟨_, _, _, _, rfl, rfl, Lib.hid ⟨⟨hHeld, b12, b13, hne, lo12, lo13⟩, hx5, hx11⟩⟩
    ·go_simp
     refine gen_KA (fun V => Keeps (fun _ => False) wr.drew V ∧ Blk V wr.drew.heap.size 29 [Value.int .i64 0, .bool false, .int .u64 0, .string .empty, .slice none 0 0, .slice none 0 0]) ⟨(Keeps.refl _ _).alloc _, Blk.new _ _ _⟩ ?_
     rintro v13 ⟨k13, b13⟩
     have lo13 := hHeld.size
     have h13 := hHeld.trans k13 (fun _ _ h => h)
     refine hK.out _ _ h13 (fun hHeld => ?_)
     clear hK K
     try simp only [pu]
     refine wpAnyH_ready (rs := [5, 12]) (by kernel_rfl) (by simp) ?_
     refine (AllReadyH.cons (o := ⟨some 30, _, _, _, _, _⟩) rfl (fun K hK => ?_) (AllReadyH.cons (o := ⟨some 8, _, _, _, _, _⟩) rfl (fun K hK => ?_) AllReadyH.nil))
     ·go_simp
      refine (HG5.out _ hHeld).mono ?_
      rintro e v13_5 ⟨X5, rfl, hx5, k13_5⟩
      replace b13 := k13_5.blk b13 (fun h => h)
      have h13_5 := hHeld.trans k13_5 (fun _ _ h => h)
      refine hK.out _ _ h13_5 (fun hHeld => ?_)
      clear hK K
      try simp only [pu]
      refine wpAnyH_ready (rs := [11, 12]) (by kernel_rfl) (by simp) ?_
      refine (AllReadyH.cons (o := ⟨some 36, _, _, _, _, _⟩) rfl (fun K hK => ?_) (AllReadyH.cons (o := ⟨some 8, _, _, _, _, _⟩) rfl (fun K hK => ?_) AllReadyH.nil))
      ·go_simp
       refine (HG11.out _ hHeld).mono ?_
       rintro e v13_5_11 ⟨X11, rfl, hx11, k13_5_11⟩
       replace b13 := k13_5_11.blk b13 (fun h => h)
       replace hx5 := hx5.stay k13_5_11
       have h13_5_11 := hHeld.trans k13_5_11 (fun _ _ h => h)
       refine hK.out _ _ h13_5_11 (fun hHeld => ?_)
       clear hK K
       try simp only [pu]
       refine wpAnyH_ready (rs := [12]) (by kernel_rfl) (by simp) ?_
       refine (AllReadyH.cons (o := ⟨some 8, _, _, _, _, _⟩) rfl (fun K hK => ?_) AllReadyH.nil)
       go_simp
       refine gen_KA (fun V => Keeps (fun _ => False) v13_5_11 V ∧ Blk V v13_5_11.heap.size 29 [Value.int .i64 0, .bool false, .int .u64 0, .string .empty, .slice none 0 0, .slice none 0 0]) ⟨(Keeps.refl _ _).alloc _, Blk.new _ _ _⟩ ?_
       rintro v13_5_11_12 ⟨k13_5_11_12, b12⟩
       have lo12 := hHeld.size
       have hne := Nat.ne_of_lt b13.lt
       replace b13 := k13_5_11_12.blk b13 (fun h => h)
       replace hx5 := hx5.stay k13_5_11_12
       replace hx11 := hx11.stay k13_5_11_12
       have h13_5_11_12 := hHeld.trans k13_5_11_12 (fun _ _ h => h)
       refine hK.out _ _ h13_5_11_12 (fun hHeld => ?_)
       clear hK K
       try simp only [pu]
       refine wpAnyH_ready (rs := [14]) (by kernel_rfl) (by simp) ?_
       refine (AllReadyH.cons (o := ⟨none, _, _, _, _, _⟩) rfl (fun K hK => ?_) AllReadyH.nil)
       skip
       refine step_store_whole rfl 29 (.tmp 8) (.tmp 30) rfl X5 rfl rfl b12 (by rw [hx5.len]; rfl) (infoV hx5.len) hx5.one ?_
       refine gen_KA (fun V => Keeps (fun i => i = v13_5_11.heap.size) v13_5_11_12 V ∧ Blk V v13_5_11.heap.size 29 X5) ⟨setRow_keep _ _ _, b12.setRow _⟩ ?_
       rintro v13_5_11_12_14 ⟨k13_5_11_12_14, b12⟩
       replace b13 := k13_5_11_12_14.blk b13 (hne)
       replace hx5 := hx5.keep k13_5_11_12_14 (fun q hq e => by have h1 := HLW.out q hq; have h2 : wr.heap.size ≤ v13_5_11.heap.size := lo12; omega)
       replace hx11 := hx11.keep k13_5_11_12_14 (fun q hq e => by have h1 := HLW.out q hq; have h2 : wr.heap.size ≤ v13_5_11.heap.size := lo12; omega)
       have h13_5_11_12_14 := hHeld.trans k13_5_11_12_14 (fun i hi e => by have h2 : wr.heap.size ≤ v13_5_11.heap.size := lo12; omega)
       refine hK.out _ _ h13_5_11_12_14 (fun hHeld => ?_)
       clear hK K
       try simp only [pu]
       refine wpAnyH_ready (rs := [15]) (by kernel_rfl) (by simp) ?_
       refine (AllReadyH.cons (o := ⟨none, _, _, _, _, _⟩) rfl (fun K hK => ?_) AllReadyH.nil)
       skip
       refine step_store_whole rfl 29 (.tmp 9) (.tmp 36) rfl X11 rfl rfl b13 (by rw [hx11.len]; rfl) (infoV hx11.len) hx11.one ?_
       refine gen_KA (fun V => Keeps (fun i => i = wr.drew.heap.size) v13_5_11_12_14 V ∧ Blk V wr.drew.heap.size 29 X11) ⟨setRow_keep _ _ _, b13.setRow _⟩ ?_
       rintro v13_5_11_12_14_15 ⟨k13_5_11_12_14_15, b13⟩
       replace b12 := k13_5_11_12_14_15.blk b12 (fun e => hne e.symm)
       replace hx5 := hx5.keep k13_5_11_12_14_15 (fun q hq e => by have h1 := HLW.out q hq; have h2 : wr.heap.size ≤ wr.drew.heap.size := lo13; omega)
       replace hx11 := hx11.keep k13_5_11_12_14_15 (fun q hq e => by have h1 := HLW.out q hq; have h2 : wr.heap.size ≤ wr.drew.heap.size := lo13; omega)
       have h13_5_11_12_14_15 := hHeld.trans k13_5_11_12_14_15 (fun i hi e => by have h2 : wr.heap.size ≤ wr.drew.heap.size := lo13; omega)
       refine hK.out _ _ h13_5_11_12_14_15 (fun hHeld => ?_)
       clear hK K
       try simp only [pu]
       refine wpAnyH_done (by kernel_rfl) ?_ _
       go_wp2
       go_meet
       exact ⟨_, _, _, _, rfl, rfl, Lib.hid ⟨⟨hHeld, b12, b13, fun e => hne e.symm, lo12, lo13⟩, hx5, hx11⟩⟩
      ·go_simp
       refine gen_KA (fun V => Keeps (fun _ => False) v13_5 V ∧ Blk V v13_5.heap.size 29 [Value.int .i64 0, .bool false, .int .u64 0, .string .empty, .slice none 0 0, .slice none 0 0]) ⟨(Keeps.refl _ _).alloc _, Blk.new _ _ _⟩ ?_
       rintro v13_5_12 ⟨k13_5_12, b12⟩
       have lo12 := hHeld.size
       have hne := Nat.ne_of_lt b13.lt
       replace b13 := k13_5_12.blk b13 (fun h => h)
       replace hx5 := hx5.stay k13_5_12
       have h13_5_12 := hHeld.trans k13_5_12 (fun _ _ h => h)
       refine hK.out _ _ h13_5_12 (fun hHeld => ?_)
       clear hK K
       try simp only [pu]
       refine wpAnyH_ready (rs := [11]) (by kernel_rfl) (by simp) ?_
       refine (AllReadyH.cons (o := ⟨some 36, _, _, _, _, _⟩) rfl (fun K hK => ?_) AllReadyH.nil)
       go_simp
       refine (HG11.out _ hHeld).mono ?_
       rintro e v13_5_12_11 ⟨X11, rfl, hx11, k13_5_12_11⟩
       replace b12 := k13_5_12_11.blk b12 (fun h => h)
       replace b13 := k13_5_12_11.blk b13 (fun h => h)
       replace hx5 := hx5.stay k13_5_12_11
       have h13_5_12_11 := hHeld.trans k13_5_12_11 (fun _ _ h => h)
       refine hK.out _ _ h13_5_12_11 (fun hHeld => ?_)
       clear hK K
       try simp only [pu]
       refine wpAnyH_ready (rs := [14]) (by kernel_rfl) (by simp) ?_
       refine (AllReadyH.cons (o := ⟨none, _, _, _, _, _⟩) rfl (fun K hK => ?_) AllReadyH.nil)
       skip
       refine step_store_whole rfl 29 (.tmp 8) (.tmp 30) rfl X5 rfl rfl b12 (by rw [hx5.len]; rfl) (infoV hx5.len) hx5.one ?_
       refine gen_KA (fun V => Keeps (fun i => i = v13_5.heap.size) v13_5_12_11 V ∧ Blk V v13_5.heap.size 29 X5) ⟨setRow_keep _ _ _, b12.setRow _⟩ ?_
       rintro v13_5_12_11_14 ⟨k13_5_12_11_14, b12⟩
       replace b13 := k13_5_12_11_14.blk b13 (hne)
       replace hx5 := hx5.keep k13_5_12_11_14 (fun q hq e => by have h1 := HLW.out q hq; have h2 : wr.heap.size ≤ v13_5.heap.size := lo12; omega)
       replace hx11 := hx11.keep k13_5_12_11_14 (fun q hq e => by have h1 := HLW.out q hq; have h2 : wr.heap.size ≤ v13_5.heap.size := lo12; omega)
       have h13_5_12_11_14 := hHeld.trans k13_5_12_11_14 (fun i hi e => by have h2 : wr.heap.size ≤ v13_5.heap.size := lo12; omega)
       refine hK.out _ _ h13_5_12_11_14 (fun hHeld => ?_)
       clear hK K
       try simp only [pu]
       refine wpAnyH_ready (rs := [15]) (by kernel_rfl) (by simp) ?_
       refine (AllReadyH.cons (o := ⟨none, _, _, _, _, _⟩) rfl (fun K hK => ?_) AllReadyH.nil)
       skip
       refine step_store_whole rfl 29 (.tmp 9) (.tmp 36) rfl X11 rfl rfl b13 (by rw [hx11.len]; rfl) (infoV hx11.len) hx11.one ?_
       refine gen_KA (fun V => Keeps (fun i => i = wr.drew.heap.size) v13_5_12_11_14 V ∧ Blk V wr.drew.heap.size 29 X11) ⟨setRow_keep _ _ _, b13.setRow _⟩ ?_
       rintro v13_5_12_11_14_15 ⟨k13_5_12_11_14_15, b13⟩
       replace b12 := k13_5_12_11_14_15.blk b12 (fun e => hne e.symm)
       replace hx5 := hx5.keep k13_5_12_11_14_15 (fun q hq e => by have h1 := HLW.out q hq; have h2 : wr.heap.size ≤ wr.drew.heap.size := lo13; omega)
       replace hx11 := hx11.keep k13_5_12_11_14_15 (fun q hq e => by have h1 := HLW.out q hq; have h2 : wr.heap.size ≤ wr.drew.heap.size := lo13; omega)
       have h13_5_12_11_14_15 := hHeld.trans k13_5_12_11_14_15 (fun i hi e => by have h2 : wr.heap.size ≤ wr.drew.heap.size := lo13; omega)
       refine hK.out _ _ h13_5_12_11_14_15 (fun hHeld => ?_)
       clear hK K
       try simp only [pu]
       refine wpAnyH_done (by kernel_rfl) ?_ _
       go_wp2
       go_meet
       exact ⟨_, _, _, _, rfl, rfl, Lib.hid ⟨⟨hHeld, b12, b13, fun e => hne e.symm, lo12, lo13⟩, hx5, hx11⟩⟩
     ·go_simp
      refine gen_KA (fun V => Keeps (fun _ => False) v13 V ∧ Blk V v13.heap.size 29 [Value.int .i64 0, .bool false, .int .u64 0, .string .empty, .slice none 0 0, .slice none 0 0]) ⟨(Keeps.refl _ _).alloc _, Blk.new _ _ _⟩ ?_
      rintro v13_12 ⟨k13_12, b12⟩
      have lo12 := hHeld.size
      have hne := Nat.ne_of_lt b13.lt
      replace b13 := k13_12.blk b13 (fun h => h)
      have h13_12 := hHeld.trans k13_12 (fun _ _ h => h)
      refine hK.out _ _ h13_12 (fun hHeld => ?_)
      clear hK K
      try simp only [pu]
      refine wpAnyH_ready (rs := [5]) (by kernel_rfl) (by simp) ?_
      refine (AllReadyH.cons (o := ⟨some 30, _, _, _, _, _⟩) rfl (fun K hK => ?_) AllReadyH.nil)
      go_simp
      refine (HG5.out _ hHeld).mono ?_
      rintro e v13_12_5 ⟨X5, rfl, hx5, k13_12_5⟩
      replace b12 := k13_12_5.blk b12 (fun h => h)
      replace b13 := k13_12_5.blk b13 (fun h => h)
      have h13_12_5 := hHeld.trans k13_12_5 (fun _ _ h => h)
      refine hK.out _ _ h13_12_5 (fun hHeld => ?_)
      clear hK K
      try simp only [pu]
      refine wpAnyH_ready (rs := [11]) (by kernel_rfl) (by simp) ?_
      refine (AllReadyH.cons (o := ⟨some 36, _, _, _, _, _⟩) rfl (fun K hK => ?_) AllReadyH.nil)
      go_simp
      refine (HG11.out _ hHeld).mono ?_
      rintro e v13_12_5_11 ⟨X11, rfl, hx11, k13_12_5_11⟩
      replace b12 := k13_12_5_11.blk b12 (fun h => h)
      replace b13 := k13_12_5_11.blk b13 (fun h => h)
      replace hx5 := hx5.stay k13_12_5_11
      have h13_12_5_11 := hHeld.trans k13_12_5_11 (fun _ _ h => h)
      refine hK.out _ _ h13_12_5_11 (fun hHeld => ?_)
      clear hK K
      try simp only [pu]
      refine wpAnyH_ready (rs := [14]) (by kernel_rfl) (by simp) ?_
      refine (AllReadyH.cons (o := ⟨none, _, _, _, _, _⟩) rfl (fun K hK => ?_) AllReadyH.nil)
      skip
      refine step_store_whole rfl 29 (.tmp 8) (.tmp 30) rfl X5 rfl rfl b12 (by rw [hx5.len]; rfl) (infoV hx5.len) hx5.one ?_
      refine gen_KA (fun V => Keeps (fun i => i = v13.heap.size) v13_12_5_11 V ∧ Blk V v13.heap.size 29 X5) ⟨setRow_keep _ _ _, b12.setRow _⟩ ?_
      rintro v13_12_5_11_14 ⟨k13_12_5_11_14, b12⟩
      replace b13 := k13_12_5_11_14.blk b13 (hne)
      replace hx5 := hx5.keep k13_12_5_11_14 (fun q hq e => by have h1 := HLW.out q hq; have h2 : wr.heap.size ≤ v13.heap.size := lo12; omega)
      replace hx11 := hx11.keep k13_12_5_11_14 (fun q hq e => by have h1 := HLW.out q hq; have h2 : wr.heap.size ≤ v13.heap.size := lo12; omega)
      have h13_12_5_11_14 := hHeld.trans k13_12_5_11_14 (fun i hi e => by have h2 : wr.heap.size ≤ v13.heap.size := lo12; omega)
      refine hK.out _ _ h13_12_5_11_14 (fun hHeld => ?_)
      clear hK K
      try simp only [pu]
      refine wpAnyH_ready (rs := [15]) (by kernel_rfl) (by simp) ?_
      refine (AllReadyH.cons (o := ⟨none, _, _, _, _, _⟩) rfl (fun K hK => ?_) AllReadyH.nil)
      skip
      refine step_store_whole rfl 29 (.tmp 9) (.tmp 36) rfl X11 rfl rfl b13 (by rw [hx11.len]; rfl) (infoV hx11.len) hx11.one ?_
      refine gen_KA (fun V => Keeps (fun i => i = wr.drew.heap.size) v13_12_5_11_14 V ∧ Blk V wr.drew.heap.size 29 X11) ⟨setRow_keep _ _ _, b13.setRow _⟩ ?_
      rintro v13_12_5_11_14_15 ⟨k13_12_5_11_14_15, b13⟩
      replace b12 := k13_12_5_11_14_15.blk b12 (fun e => hne e.symm)
      replace hx5 := hx5.keep k13_12_5_11_14_15 (fun q hq e => by have h1 := HLW.out q hq; have h2 : wr.heap.size ≤ wr.drew.heap.size := lo13; omega)
      replace hx11 := hx11.keep k13_12_5_11_14_15 (fun q hq e => by have h1 := HLW.out q hq; have h2 : wr.heap.size ≤ wr.drew.heap.size := lo13; omega)
      have h13_12_5_11_14_15 := hHeld.trans k13_12_5_11_14_15 (fun i hi e => by have h2 : wr.heap.size ≤ wr.drew.heap.size := lo13; omega)
      refine hK.out _ _ h13_12_5_11_14_15 (fun hHeld => ?_)
      clear hK K
      try simp only [pu]
      refine wpAnyH_done (by kernel_rfl) ?_ _
      go_wp2
      go_meet
      exact ⟨_, _, _, _, rfl, rfl, Lib.hid ⟨⟨hHeld, b12, b13, fun e => hne e.symm, lo12, lo13⟩, hx5, hx11⟩⟩
   case rest =>
    obtain ⟨p8, p9, X, Y, rfl, rfl, HT9⟩ := hcut
    obtain ⟨w5, hw5⟩ : ∃ w5, w5 = wc := ⟨_, rfl⟩
    subst hw5
    obtain ⟨ht5, hx5, hy5⟩ := HT9.out
    obtain ⟨so, hso⟩ : ∃ so, so = osort oy := ⟨_, rfl⟩
    have y0 : w5.cell? ⟨p9, 0, none⟩ = some (.int .i64 so) := by
     obtain ⟨u1, u2, u3, A', na, c', B', nb, d', hv'⟩ := hy5.six
     rw [ht5.b9.cell 0, hv', hso]; rfl
    have HT5 := Lib.hid (And.intro ht5 (And.intro hx5 hy5))
    have HXL : Hid (X.length = 6 ∧ Y.length = 6) := Lib.hid ⟨hx5.len, hy5.len⟩
    have HSX := Lib.hid (infoV HXL.out.1)
    have HSY := Lib.hid (infoV HXL.out.2)
    have HSO := Lib.hid hso
    have HSN : Hid (layTo ko lo o cs (i + 1) = layTo ko lo o cs i ++ ((layF ko lo o key).map fun x => (key, x)).toList) := Lib.hid (layTo_snoc HKY.out.1)
    have HW5 : Hid (Keeps (fun _ => False) wr w5) := Lib.hid ht5.keep
    clear HT9 ht5 hx5 hy5
    by_cases h1 : so = 1
    ·have he1 : (so == 1) = true := by rw [h1]; rfl
     have HNX : Hid (layTo ko lo o cs (i + 1) = layTo ko lo o cs i) := Lib.hid (by
      rw [HSN.out]
      cases hy : atK ko lo key with
      | none => rw [HSO.out, HOY.out, hy] at h1; cases h1
      | some y =>
       have h2 : y.sort = 1 := by rw [HSO.out, HOY.out, hy] at h1; exact h1
       rw [layF_some hy, if_pos h2]; simp)
     clear h1 hso
     go_wp2
     go_roundg (n - (i + 1))
     case measure => rw [HGK.out]; omega
     case rel => exact ⟨i + 1, B1, d1, A1, c1, css, by omega, by go_num, rfl, Lib.hid (by rw [HNX.out]; exact HO.out.stay HW5.out)⟩
    ·have he1 : (so == 1) = false := by simpa using h1
     have HZ : Hid (∃ z, layF ko lo o key = some z ∧ ((so = 0 ∧ ou = some z) ∨ (so ≠ 0 ∧ ∃ y, oy = some y ∧ y ∈ lo ∧ z = y.lay ou))) := Lib.hid (by
      cases hy : atK ko lo key with
      | none =>
       obtain ⟨z, hz⟩ : ∃ z, atK (mem2 o).1 (mem2 o).2 key = some z := by
        cases h : atK (mem2 o).1 (mem2 o).2 key with
        | some x => exact ⟨x, rfl⟩
        | none => exact absurd HKY.out.2 fun h2 => (List.mem_append.1 h2).elim (atK_none HML.out.1.1 h) (atK_none (HML.out.2.2.1 rfl) hy)
       exact ⟨z, by rw [layF_none hy, hz], .inl ⟨by rw [hso, HOY.out, hy]; rfl, by rw [HOU.out, hz]⟩⟩
      | some y =>
       have h2 : y.sort ≠ 1 := fun e => h1 (by rw [hso, HOY.out, hy]; exact e)
       have h3 : so ≠ 0 := by
        rw [hso, HOY.out, hy]
        show y.sort ≠ 0
        cases y <;> simp [JV.sort]
       exact ⟨_, by rw [layF_some hy, if_neg h2], .inr ⟨h3, y, by rw [HOY.out, hy], atK_mem hy, by rw [HOU.out]⟩⟩)
     clear h1 hso
     go_upto_if 42 with fail
     go_cut [43] (fun t wx => ∃ (Z : List Value) (z : JV), Hid (layF ko lo o key = some z ∧ Blk wx p8 29 Z ∧ RAt (fun q => D q ∨ w5.heap.size ≤ q) wx Z z ∧ Keeps (fun q => q = p8) w5 wx))
     case first =>
      obtain ⟨z, hz, ⟨h0, hou⟩ | ⟨h0, y, hoy, hyl, hzy⟩⟩ := HZ.out
      ·have hne : (so != 0) = false := by rw [h0]; rfl
       have HEND : Hid (Hid (layF ko lo o key = some z ∧ Blk w5 p8 29 X ∧ RAt (fun q => D q ∨ w5.heap.size ≤ q) w5 X z ∧ Keeps (fun q => q = p8) w5 w5)) := Lib.hid (Lib.hid ⟨hz, HT5.out.1.b8, by have h2 := HT5.out.2.1; rw [hou] at h2; exact RAt.mono h2 fun q hq _ => .inl hq, Keeps.refl _ _⟩)
       clear hz h0 hou HZ
       go_wp2
       go_meet
       exact ⟨X, z, HEND.out⟩
      ·have hne : (so != 0) = true := by simpa using h0
       have HLA : Hid (Calls Tryz.prog 10 #[.agg Y.toArray, .agg X.toArray] w5 fun e w' => ∃ v', e = .returned (.agg v'.toArray) ∧ Hid (RAt (fun q => D q ∨ w5.heap.size ≤ q) w' v' z ∧ Keeps (fun _ => False) w5 w')) := Lib.hid ((HIH.out y hyl ou (fun x hx => atK_mem (by rw [← HOU.out]; exact hx)) D w5 Y X (by have h2 := HT5.out.2.2; rw [hoy] at h2; exact h2) HT5.out.2.1).mono fun e w' h => by
        obtain ⟨v', he, hr, hk⟩ := h
        exact ⟨v', he, Lib.hid ⟨by rw [hzy]; exact hr, hk⟩⟩)
       have HZZ := Lib.hid hz
       clear hz h0 hoy hyl hzy HZ
       go_wp2_with (first
        | ((with_reducible show wpList _ _ _ (⟨some 43, _, _, _, _, _⟩ :: _) _ _); refine wpList_load_whole rfl 29 _ rfl _ rfl HT5.out.1.b9 Tryz.underlying29 rfl HSY.out ?_)
        | ((with_reducible show wpList _ _ _ (⟨some 44, _, _, _, _, _⟩ :: _) _ _); refine wpList_load_whole rfl 29 _ rfl _ rfl HT5.out.1.b8 Tryz.underlying29 rfl HSX.out ?_)
        | (go_at_call 10; refine HLA.out.mono ?_; rintro e w6 ⟨v6, rfl, H6⟩)
        | ((with_reducible show wpList _ _ _ (⟨none, Op.store _ _ _, _, _, _, _⟩ :: _) _ _); refine wpList_store_whole rfl 29 _ _ rfl v6 rfl rfl (H6.out.2.blk HT5.out.1.b8 (fun h => h)) (by rw [HXL.out.1, H6.out.1.len]) (infoV H6.out.1.len) H6.out.1.one ?_))
       go_meet
       exact ⟨v6, z, Lib.hid ⟨HZZ.out, (H6.out.2.blk HT5.out.1.b8 (fun h => h)).setRow _, H6.out.1.keep (setRow_keep _ _ _) fun q hq e => by
        have h1 := HT5.out.1.b8.lt
        have h2 := HT5.out.1.lo8
        rcases hq with h | h
        ·have := HLW.out q h; omega
        ·omega, (H6.out.2.mono fun _ _ h => h.elim).trans (setRow_keep _ _ _) fun _ _ h => h⟩⟩
     case rest =>
      obtain ⟨Z, z, HR6⟩ := hcut
      obtain ⟨m, hm⟩ : ∃ m, m = ((layTo ko lo o cs i).map (·.1)).length := ⟨_, rfl⟩
      have hmi : m ≤ i := by rw [hm, List.length_map]; exact HLE.out i
      have HM := Lib.hid hm
      have hp8 : wr.heap.size ≤ p8 := HT5.out.1.lo8
      have hkc : Keeps (fun _ => False) wr wc := ((HW5.out.mono (G := fun q => q = p8) fun _ _ h => h.elim).trans HR6.out.2.2.2 fun _ _ h => h).mono fun q hq e => by omega
      have hO6 := HO.out.stay hkc
      have HO6 := Lib.hid hO6
      have HT0 : Hid (BoxTwo w1 wc p 29 [.int .i64 6, .bool false, .int .u64 0, .string .empty, .slice A1 m c1, .slice B1 m d1] 9 1 B1 m d1 (((layTo ko lo o cs i).map (·.1)).map .string) 29 6 A1 m c1 css.flatten) := Lib.hid (by rw [hm]; exact hO6.rb.two)
      have HNF : Hid (∀ q, ((Value.slice B1 m d1).ownBlock = some q ∨ (Value.slice A1 m c1).ownBlock = some q) → w4.heap.size ≤ q ∧ q < wr.heap.size) := Lib.hid fun q e => by
       rw [hm] at e
       exact e.elim (fun e => ⟨HO.out.ob q e, HO.out.rb.two.two.a.own_lt e⟩) (fun e => ⟨HO.out.oa q e, HO.out.rb.two.two.b.own_lt e⟩)
      have HCE : Hid (∀ V, Keeps (fun q => (Value.slice B1 m d1).ownBlock = some q ∨ (Value.slice A1 m c1).ownBlock = some q) wc V → V.cell? ⟨p, 5, none⟩ = some (.slice B1 m d1) ∧ V.cell? ⟨p, 4, none⟩ = some (.slice A1 m c1) ∧ V.cell? ⟨g, o1 + i, none⟩ = some (.string key) ∧ Blk V p8 29 Z) := Lib.hid fun V hV => by
       have h1 := hV.blk HT0.out.blk (fun e => e.elim HT0.out.na HT0.out.nb)
       have hcw := cell_keep hkc HCK.out
       have hg4 : g < w4.heap.size := (HA4.out (by omega) _ rfl).2
       exact ⟨h1.cell 5, h1.cell 4, (hV.cell (World.block_lt_of_cell? _ _ hcw) (fun e => by have h3 := (HNF.out _ e).1; have h4 : w4.heap.size ≤ g := h3; omega)).trans hcw, hV.blk HR6.out.2.1 (fun e => by have h3 := (HNF.out _ e).2; omega)⟩
      have HZ6 : Hid (Z.length = 6) := Lib.hid HR6.out.2.2.1.len
      have HZ1 : Hid (∀ u ∈ Z, u.oneCell' = true) := Lib.hid HR6.out.2.2.1.one
      have HSZ := Lib.hid (infoV HZ6.out)
      have HRB : Hid (RAt (Rb_ (fun i => D i ∨ w1.heap.size ≤ i) p (.slice B1 m d1) (.slice A1 m c1)) wc Z z) := Lib.hid (HR6.out.2.2.1.mono fun q hq _ => by
       have h1 := HP3.out
       have h2 := HW5.out.size
       have h3 := HO.out.rb.two.blk.lt
       have h4 := HK1.out.1.size
       have h5 := HO.out.keep.size
       rcases hq with h | h
       ·have h6 := HH.out.low q h
        exact ⟨.inl h, fun e => by omega, fun e => by have := (HNF.out q (.inl e)).1; omega, fun e => by have := (HNF.out q (.inr e)).1; omega⟩
       ·exact ⟨.inr (by omega), fun e => by omega, fun e => by have := (HNF.out q (.inl e)).2; omega, fun e => by have := (HNF.out q (.inr e)).2; omega⟩)
      clear hm hkc hp8 hO6
      go_upto_region 12 with fail
      refine wp_region_tail (S := (fun V => Keeps (fun q => (Value.slice B1 m d1).ownBlock = some q ∨ (Value.slice A1 m c1).ownBlock = some q) wc V)) 14 (by kernel_rfl) (Keeps.refl _ _).drew (fun hHeld => ?_)
      refine tP (i := 0) (oi := ⟨some 46, _, _, _, _, _⟩) (v := ?_) rfl (Or.inl ⟨by rfl, ?_⟩) ?_
      rotate_left
      ·intro w' hSw
       go_simp
       first | done | rfl
      try simp only [pu]
      refine tT [1] (i := 1) (oi := ⟨some 47, _, _, _, _, _⟩) (v := ?_) rfl (Or.inl ⟨by rfl, ?_⟩) hHeld ?_
      rotate_left
      ·intro w' hSw
       have cv := (HCE.out _ hSw).1
       go_simp
       first | done | rfl
      try simp only [pu]
      refine tP (i := 2) (oi := ⟨some 48, _, _, _, _, _⟩) (v := ?_) rfl (Or.inl ⟨by rfl, ?_⟩) ?_
      rotate_left
      ·intro w' hSw
       go_simp
       first | done | rfl
      try simp only [pu]
      refine tP (i := 3) (oi := ⟨some 49, _, _, _, _, _⟩) (v := ?_) rfl (Or.inl ⟨by rfl, ?_⟩) ?_
      rotate_left
      ·intro w' hSw
       go_simp
       first | done | rfl
      try simp only [pu]
      refine tP (i := 4) (oi := ⟨some 50, _, _, _, _, _⟩) (v := ?_) rfl (Or.inl ⟨by rfl, ?_⟩) ?_
      rotate_left
      ·intro w' hSw
       go_simp
       first | done | rfl
      try simp only [pu]
      refine tT [5] (i := 5) (oi := ⟨some 51, _, _, _, _, _⟩) (v := ?_) rfl (Or.inl ⟨by rfl, ?_⟩) hHeld ?_
      rotate_left
      ·intro w' hSw
       have cv := (HCE.out _ hSw).2.2.1
       go_simp
       first | done | rfl
      try simp only [pu]
      refine tP (i := 8) (oi := ⟨some 54, _, _, _, _, _⟩) (v := ?_) rfl (Or.inl ⟨by rfl, ?_⟩) ?_
      rotate_left
      ·intro w' hSw
       go_simp
       first | done | rfl
      try simp only [pu]
      refine tT [9] (i := 9) (oi := ⟨some 55, _, _, _, _, _⟩) (v := ?_) rfl (Or.inl ⟨by rfl, ?_⟩) hHeld ?_
      rotate_left
      ·intro w' hSw
       have cv := (HCE.out _ hSw).2.1
       go_simp
       first | done | rfl
      try simp only [pu]
      refine tT [10, 11, 12] (i := 10) (oi := ⟨some 56, _, _, _, _, _⟩) (v := _) rfl (yieldsIf_load_mid (by rfl) _ _ rfl _ _ rfl Z _ (fun w' h => blk_rngL (HCE.out _ h).2.2.2) Tryz.underlying29 rfl HSZ.out) hHeld ?_
      try simp only [pu]
      refine wpAnyT_two (i := 6) (j := 11) (oi := ⟨some 52, _, _, _, _, _⟩) (oj := ⟨some 57, _, _, _, _, _⟩) (by kernel_rfl) rfl rfl (fun K hK => ?_) (fun K hK => ?_)
      ·go_simp
       refine gen_KA (fun V => Keeps (fun _ => False) wc.drew V ∧ Blk V wc.drew.heap.size 9 [.string key]) ⟨(Keeps.refl _ _).alloc _, Blk.new _ _ _⟩ ?_
       rintro v6 ⟨k6, b6⟩
       have h6 := hHeld.trans k6 (fun _ _ h => h.elim)
       refine hK.out _ _ h6 (fun hHeld => ?_)
       clear hK K
       try simp only [pu]
       refine wpAnyT_two (i := 7) (j := 11) (oi := ⟨some 53, _, _, _, _, _⟩) (oj := ⟨some 57, _, _, _, _, _⟩) (by kernel_rfl) rfl rfl (fun K hK => ?_) (fun K hK => ?_)
       ·refine step_append_own rfl (.tmp 47) (.tmp 52) 27 rfl 9 (.string .empty) 1 16 Tryz.underlying27 (by kernel_rfl) rfl (by decide) B1 m d1 _ rfl (HT0.out.keep (((Keeps.refl (fun _ => False) wc).drew).trans k6 (fun _ _ h => h))).two.a.1 ⟨wc.drew.heap.size, 0, none⟩ 1 1 [.string key] rfl rfl (fun j u hu => by rw [add_at, Nat.zero_add, b6.cell]; exact hu) (by intro u hu; rw [List.mem_singleton.1 hu]; rfl) (by simp only [maxLen]; omega) (by omega) ?_
        intro B7 d7 v6_7 ho7 hg7 hb7
        have HT7 := Lib.hid ((HT0.out.keep (((Keeps.refl (fun _ => False) wc).drew).trans k6 (fun _ _ h => h))).app ho7 hg7 hb7)
        have hB7 : ∀ g, (Value.slice B7 (m + 1) d7).ownBlock = some g → (Value.slice B1 m d1).ownBlock = some g ∨ wc.heap.size ≤ g := fun g e => hb7.elim (fun h1 => .inl (h1 ▸ e)) (fun h1 => .inr (by rw [h1] at e; injection e with e; rw [← e]; exact hHeld.size))
        have hS7 := hHeld.grown hg7 (fun g e => .inl (.inl e))
        refine hK.out _ _ hS7 (fun hHeld => ?_)
        clear hK K
        try simp only [pu]
        refine tP (i := 13) (oi := ⟨some 59, _, _, _, _, _⟩) (v := ?_) rfl (Or.inl ⟨by rfl, ?_⟩) ?_
        rotate_left
        ·intro w' hSw
         go_simp
         first | done | rfl
        try simp only [pu]
        refine wpAnyT_step (i := 11) (o := ⟨some 57, _, _, _, _, _⟩) (by kernel_rfl) rfl (fun K hK => ?_)
        refine step_box_S rfl 26 29 (.tmp 56) rfl (.agg #[.int .i64 0, .bool false, .int .u64 0, .string .empty, .slice none 0 0, .slice none 0 0]) 6 Tryz.underlying26 (by kernel_rfl) (by decide) (by decide) Z HZ6.out rfl ?_
        refine gen_KA (fun V => Keeps (fun _ => False) v6_7 V ∧ Blk V v6_7.heap.size 29 Z) ⟨(Keeps.refl _ _).alloc _, Blk.new _ _ _⟩ ?_
        rintro v6_7_11 ⟨k6_7_11, b11⟩
        have h6_7_11 := hHeld.trans k6_7_11 (fun _ _ h => h.elim)
        refine hK.out _ _ h6_7_11 (fun hHeld => ?_)
        clear hK K
        try simp only [pu]
        refine wpAnyT_step (i := 12) (o := ⟨some 58, _, _, _, _, _⟩) (by kernel_rfl) rfl (fun K hK => ?_)
        refine step_append_own rfl (.tmp 55) (.tmp 57) 26 rfl 29 (.agg #[.int .i64 0, .bool false, .int .u64 0, .string .empty, .slice none 0 0, .slice none 0 0]) 6 88 Tryz.underlying26 (by kernel_rfl) rfl (by decide) A1 m c1 _ rfl (HT7.out.swap.keep ((Keeps.refl (fun _ => False) _).trans k6_7_11 (fun _ _ h => h))).two.a.1 ⟨v6_7.heap.size, 0, none⟩ 1 1 Z rfl (by rw [HZ6.out]) (fun j u hu => by rw [add_at, Nat.zero_add, b11.cell]; exact hu) HZ1.out (by simp only [maxLen]; omega) (by omega) ?_
        intro A12 c12 v12 ho12 hg12 hb12
        have HT12 := Lib.hid (((HT7.out.swap.keep ((Keeps.refl (fun _ => False) _).trans k6_7_11 (fun _ _ h => h))).app ho12 hg12 hb12).swap)
        have hA12 : ∀ g, (Value.slice A12 (m + 1) c12).ownBlock = some g → (Value.slice A1 m c1).ownBlock = some g ∨ wc.heap.size ≤ g := fun g e => hb12.elim (fun h1 => .inl (h1 ▸ e)) (fun h1 => .inr (by rw [h1] at e; injection e with e; rw [← e]; exact hHeld.size))
        have hS12 := hHeld.grown hg12 (fun g e => .inl (.inr e))
        refine hK.out _ _ hS12 (fun hHeld => ?_)
        clear hK K
        try simp only [pu]
        refine wpAnyT_tail (i := 14) (o := ⟨none, _, _, _, _, _⟩) (by kernel_rfl) (by kernel_rfl) rfl (fun K hK => ?_)
        have cv1 := HT12.out.blk.cell 5
        have fz1 := HT12.out.blk.frozen 5
        go_simp
        have HT14 := Lib.hid (HT12.out.set 5 (.slice B7 (m + 1) d7))
        refine hK.out _ _ ?_
        clear hK K
        try simp only [pu]
        refine wpAnyT_tail (i := 15) (o := ⟨some 60, _, _, _, _, _⟩) (by kernel_rfl) (by kernel_rfl) rfl (fun K hK => ?_)
        go_simp
        refine hK.out _ _ ?_
        clear hK K
        try simp only [pu]
        refine wpAnyT_tail (i := 16) (o := ⟨none, _, _, _, _, _⟩) (by kernel_rfl) (by kernel_rfl) rfl (fun K hK => ?_)
        have cv2 := HT14.out.blk.cell 4
        have fz2 := HT14.out.blk.frozen 4
        go_simp
        refine hK.out _ _ ?_
        clear hK K
        try simp only [pu]
        refine wpAnyT_done (by kernel_rfl) ?_
        have HEND := Lib.hid (rl_more HO6.out HM.out HRB.out hS12 HT12.out hB7 hA12)
        obtain ⟨w22, hw22⟩ : ∃ w22, w22 = (v12.setCell ⟨p, 5, none⟩ (.slice B7 (m + 1) d7)).setCell ⟨p, 4, none⟩ (.slice A12 (m + 1) c12) := ⟨_, rfl⟩
        rw [← hw22] at HEND ⊢
        clear hw22 cv1 fz1 cv2 fz2 hS12 hB7 hA12
        go_wp2
        go_roundg (n - (i + 1))
        case measure => rw [HGK.out]; omega
        case rel => exact ⟨i + 1, B7, d7, A12, c12, _, by omega, by go_num, rfl, Lib.hid (by rw [HSN.out, HR6.out.1]; exact HEND.out)⟩
       ·refine step_box_S rfl 26 29 (.tmp 56) rfl (.agg #[.int .i64 0, .bool false, .int .u64 0, .string .empty, .slice none 0 0, .slice none 0 0]) 6 Tryz.underlying26 (by kernel_rfl) (by decide) (by decide) Z HZ6.out rfl ?_
        refine gen_KA (fun V => Keeps (fun _ => False) v6 V ∧ Blk V v6.heap.size 29 Z) ⟨(Keeps.refl _ _).alloc _, Blk.new _ _ _⟩ ?_
        rintro v6_11 ⟨k6_11, b11⟩
        replace b6 := k6_11.blk b6 (fun h => h)
        have h6_11 := hHeld.trans k6_11 (fun _ _ h => h.elim)
        refine hK.out _ _ h6_11 (fun hHeld => ?_)
        clear hK K
        try simp only [pu]
        refine wpAnyT_step (i := 7) (o := ⟨some 53, _, _, _, _, _⟩) (by kernel_rfl) rfl (fun K hK => ?_)
        refine step_append_own rfl (.tmp 47) (.tmp 52) 27 rfl 9 (.string .empty) 1 16 Tryz.underlying27 (by kernel_rfl) rfl (by decide) B1 m d1 _ rfl (HT0.out.keep ((((Keeps.refl (fun _ => False) wc).drew).trans k6 (fun _ _ h => h)).trans k6_11 (fun _ _ h => h))).two.a.1 ⟨wc.drew.heap.size, 0, none⟩ 1 1 [.string key] rfl rfl (fun j u hu => by rw [add_at, Nat.zero_add, b6.cell]; exact hu) (by intro u hu; rw [List.mem_singleton.1 hu]; rfl) (by simp only [maxLen]; omega) (by omega) ?_
        intro B7 d7 v6_11_7 ho7 hg7 hb7
        have HT7 := Lib.hid ((HT0.out.keep ((((Keeps.refl (fun _ => False) wc).drew).trans k6 (fun _ _ h => h)).trans k6_11 (fun _ _ h => h))).app ho7 hg7 hb7)
        have hB7 : ∀ g, (Value.slice B7 (m + 1) d7).ownBlock = some g → (Value.slice B1 m d1).ownBlock = some g ∨ wc.heap.size ≤ g := fun g e => hb7.elim (fun h1 => .inl (h1 ▸ e)) (fun h1 => .inr (by rw [h1] at e; injection e with e; rw [← e]; exact hHeld.size))
        replace b11 := (Keeps.of_grown hg7).blk b11 (fun e => by have h1 := HT0.out.two.a.own_lt e; have h2 := (((Keeps.refl (fun _ => False) wc).drew).trans k6 (fun _ _ h => h)).size; omega)
        have hS7 := hHeld.grown hg7 (fun g e => .inl (.inl e))
        refine hK.out _ _ hS7 (fun hHeld => ?_)
        clear hK K
        try simp only [pu]
        refine tP (i := 13) (oi := ⟨some 59, _, _, _, _, _⟩) (v := ?_) rfl (Or.inl ⟨by rfl, ?_⟩) ?_
        rotate_left
        ·intro w' hSw
         go_simp
         first | done | rfl
        try simp only [pu]
        refine wpAnyT_step (i := 12) (o := ⟨some 58, _, _, _, _, _⟩) (by kernel_rfl) rfl (fun K hK => ?_)
        refine step_append_own rfl (.tmp 55) (.tmp 57) 26 rfl 29 (.agg #[.int .i64 0, .bool false, .int .u64 0, .string .empty, .slice none 0 0, .slice none 0 0]) 6 88 Tryz.underlying26 (by kernel_rfl) rfl (by decide) A1 m c1 _ rfl (HT7.out.swap.keep (Keeps.refl (fun _ => False) _)).two.a.1 ⟨v6.heap.size, 0, none⟩ 1 1 Z rfl (by rw [HZ6.out]) (fun j u hu => by rw [add_at, Nat.zero_add, b11.cell]; exact hu) HZ1.out (by simp only [maxLen]; omega) (by omega) ?_
        intro A12 c12 v12 ho12 hg12 hb12
        have HT12 := Lib.hid (((HT7.out.swap.keep (Keeps.refl (fun _ => False) _)).app ho12 hg12 hb12).swap)
        have hA12 : ∀ g, (Value.slice A12 (m + 1) c12).ownBlock = some g → (Value.slice A1 m c1).ownBlock = some g ∨ wc.heap.size ≤ g := fun g e => hb12.elim (fun h1 => .inl (h1 ▸ e)) (fun h1 => .inr (by rw [h1] at e; injection e with e; rw [← e]; exact hHeld.size))
        have hS12 := hHeld.grown hg12 (fun g e => .inl (.inr e))
        refine hK.out _ _ hS12 (fun hHeld => ?_)
        clear hK K
        try simp only [pu]
        refine wpAnyT_tail (i := 14) (o := ⟨none, _, _, _, _, _⟩) (by kernel_rfl) (by kernel_rfl) rfl (fun K hK => ?_)
        have cv1 := HT12.out.blk.cell 5
        have fz1 := HT12.out.blk.frozen 5
        go_simp
        have HT14 := Lib.hid (HT12.out.set 5 (.slice B7 (m + 1) d7))
        refine hK.out _ _ ?_
        clear hK K
        try simp only [pu]
        refine wpAnyT_tail (i := 15) (o := ⟨some 60, _, _, _, _, _⟩) (by kernel_rfl) (by kernel_rfl) rfl (fun K hK => ?_)
        go_simp
        refine hK.out _ _ ?_
        clear hK K
        try simp only [pu]
        refine wpAnyT_tail (i := 16) (o := ⟨none, _, _, _, _, _⟩) (by kernel_rfl) (by kernel_rfl) rfl (fun K hK => ?_)
        have cv2 := HT14.out.blk.cell 4
        have fz2 := HT14.out.blk.frozen 4
        go_simp
        refine hK.out _ _ ?_
        clear hK K
        try simp only [pu]
        refine wpAnyT_done (by kernel_rfl) ?_
        have HEND := Lib.hid (rl_more HO6.out HM.out HRB.out hS12 HT12.out hB7 hA12)
        obtain ⟨w22, hw22⟩ : ∃ w22, w22 = (v12.setCell ⟨p, 5, none⟩ (.slice B7 (m + 1) d7)).setCell ⟨p, 4, none⟩ (.slice A12 (m + 1) c12) := ⟨_, rfl⟩
        rw [← hw22] at HEND ⊢
        clear hw22 cv1 fz1 cv2 fz2 hS12 hB7 hA12
        go_wp2
        go_roundg (n - (i + 1))
        case measure => rw [HGK.out]; omega
        case rel => exact ⟨i + 1, B7, d7, A12, c12, _, by omega, by go_num, rfl, Lib.hid (by rw [HSN.out, HR6.out.1]; exact HEND.out)⟩
      ·refine step_box_S rfl 26 29 (.tmp 56) rfl (.agg #[.int .i64 0, .bool false, .int .u64 0, .string .empty, .slice none 0 0, .slice none 0 0]) 6 Tryz.underlying26 (by kernel_rfl) (by decide) (by decide) Z HZ6.out rfl ?_
       refine gen_KA (fun V => Keeps (fun _ => False) wc.drew V ∧ Blk V wc.drew.heap.size 29 Z) ⟨(Keeps.refl _ _).alloc _, Blk.new _ _ _⟩ ?_
       rintro v11 ⟨k11, b11⟩
       have h11 := hHeld.trans k11 (fun _ _ h => h.elim)
       refine hK.out _ _ h11 (fun hHeld => ?_)
       clear hK K
       try simp only [pu]
       refine wpAnyT_step (i := 6) (o := ⟨some 52, _, _, _, _, _⟩) (by kernel_rfl) rfl (fun K hK => ?_)
       go_simp
       refine gen_KA (fun V => Keeps (fun _ => False) v11 V ∧ Blk V v11.heap.size 9 [.string key]) ⟨(Keeps.refl _ _).alloc _, Blk.new _ _ _⟩ ?_
       rintro v11_6 ⟨k11_6, b6⟩
       replace b11 := k11_6.blk b11 (fun h => h)
       have h11_6 := hHeld.trans k11_6 (fun _ _ h => h.elim)
       refine hK.out _ _ h11_6 (fun hHeld => ?_)
       clear hK K
       try simp only [pu]
       refine wpAnyT_step (i := 7) (o := ⟨some 53, _, _, _, _, _⟩) (by kernel_rfl) rfl (fun K hK => ?_)
       refine step_append_own rfl (.tmp 47) (.tmp 52) 27 rfl 9 (.string .empty) 1 16 Tryz.underlying27 (by kernel_rfl) rfl (by decide) B1 m d1 _ rfl (HT0.out.keep ((((Keeps.refl (fun _ => False) wc).drew).trans k11 (fun _ _ h => h)).trans k11_6 (fun _ _ h => h))).two.a.1 ⟨v11.heap.size, 0, none⟩ 1 1 [.string key] rfl rfl (fun j u hu => by rw [add_at, Nat.zero_add, b6.cell]; exact hu) (by intro u hu; rw [List.mem_singleton.1 hu]; rfl) (by simp only [maxLen]; omega) (by omega) ?_
       intro B7 d7 v11_6_7 ho7 hg7 hb7
       have HT7 := Lib.hid ((HT0.out.keep ((((Keeps.refl (fun _ => False) wc).drew).trans k11 (fun _ _ h => h)).trans k11_6 (fun _ _ h => h))).app ho7 hg7 hb7)
       have hB7 : ∀ g, (Value.slice B7 (m + 1) d7).ownBlock = some g → (Value.slice B1 m d1).ownBlock = some g ∨ wc.heap.size ≤ g := fun g e => hb7.elim (fun h1 => .inl (h1 ▸ e)) (fun h1 => .inr (by rw [h1] at e; injection e with e; rw [← e]; exact hHeld.size))
       replace b11 := (Keeps.of_grown hg7).blk b11 (fun e => by have h1 := HT0.out.two.a.own_lt e; have h2 := ((Keeps.refl (fun _ => False) wc).drew).size; omega)
       have hS7 := hHeld.grown hg7 (fun g e => .inl (.inl e))
       refine hK.out _ _ hS7 (fun hHeld => ?_)
       clear hK K
       try simp only [pu]
       refine tP (i := 13) (oi := ⟨some 59, _, _, _, _, _⟩) (v := ?_) rfl (Or.inl ⟨by rfl, ?_⟩) ?_
       rotate_left
       ·intro w' hSw
        go_simp
        first | done | rfl
       try simp only [pu]
       refine wpAnyT_step (i := 12) (o := ⟨some 58, _, _, _, _, _⟩) (by kernel_rfl) rfl (fun K hK => ?_)
       refine step_append_own rfl (.tmp 55) (.tmp 57) 26 rfl 29 (.agg #[.int .i64 0, .bool false, .int .u64 0, .string .empty, .slice none 0 0, .slice none 0 0]) 6 88 Tryz.underlying26 (by kernel_rfl) rfl (by decide) A1 m c1 _ rfl (HT7.out.swap.keep (Keeps.refl (fun _ => False) _)).two.a.1 ⟨wc.drew.heap.size, 0, none⟩ 1 1 Z rfl (by rw [HZ6.out]) (fun j u hu => by rw [add_at, Nat.zero_add, b11.cell]; exact hu) HZ1.out (by simp only [maxLen]; omega) (by omega) ?_
       intro A12 c12 v12 ho12 hg12 hb12
       have HT12 := Lib.hid (((HT7.out.swap.keep (Keeps.refl (fun _ => False) _)).app ho12 hg12 hb12).swap)
       have hA12 : ∀ g, (Value.slice A12 (m + 1) c12).ownBlock = some g → (Value.slice A1 m c1).ownBlock = some g ∨ wc.heap.size ≤ g := fun g e => hb12.elim (fun h1 => .inl (h1 ▸ e)) (fun h1 => .inr (by rw [h1] at e; injection e with e; rw [← e]; exact hHeld.size))
       have hS12 := hHeld.grown hg12 (fun g e => .inl (.inr e))
       refine hK.out _ _ hS12 (fun hHeld => ?_)
       clear hK K
       try simp only [pu]
       refine wpAnyT_tail (i := 14) (o := ⟨none, _, _, _, _, _⟩) (by kernel_rfl) (by kernel_rfl) rfl (fun K hK => ?_)
       have cv1 := HT12.out.blk.cell 5
       have fz1 := HT12.out.blk.frozen 5
       go_simp
       have HT14 := Lib.hid (HT12.out.set 5 (.slice B7 (m + 1) d7))
       refine hK.out _ _ ?_
       clear hK K
       try simp only [pu]
       refine wpAnyT_tail (i := 15) (o := ⟨some 60, _, _, _, _, _⟩) (by kernel_rfl) (by kernel_rfl) rfl (fun K hK => ?_)
       go_simp
       refine hK.out _ _ ?_
       clear hK K
       try simp only [pu]
       refine wpAnyT_tail (i := 16) (o := ⟨none, _, _, _, _, _⟩) (by kernel_rfl) (by kernel_rfl) rfl (fun K hK => ?_)
       have cv2 := HT14.out.blk.cell 4
       have fz2 := HT14.out.blk.frozen 4
       go_simp
       refine hK.out _ _ ?_
       clear hK K
       try simp only [pu]
       refine wpAnyT_done (by kernel_rfl) ?_
       have HEND := Lib.hid (rl_more HO6.out HM.out HRB.out hS12 HT12.out hB7 hA12)
       obtain ⟨w22, hw22⟩ : ∃ w22, w22 = (v12.setCell ⟨p, 5, none⟩ (.slice B7 (m + 1) d7)).setCell ⟨p, 4, none⟩ (.slice A12 (m + 1) c12) := ⟨_, rfl⟩
       rw [← hw22] at HEND ⊢
       clear hw22 cv1 fz1 cv2 fz2 hS12 hB7 hA12
       go_wp2
       go_roundg (n - (i + 1))
       case measure => rw [HGK.out]; omega
       case rel => exact ⟨i + 1, B7, d7, A12, c12, _, by omega, by go_num, rfl, Lib.hid (by rw [HSN.out, HR6.out.1]; exact HEND.out)⟩
  ·obtain rfl : i = n := by omega
   have hall : layTo ko lo o cs i = layM ko lo o (unionK ((mem2 o).1 ++ ko)) := layTo_all (by rw [H4.out.1]; exact Nat.le_refl _) H4.out.2.2.2.1 H4.out.2.2.2.2.1
   have hrb := HO.out.rb
   rw [hall] at hrb
   have hbb := HK1.out.1.blk H1.out.2.2.2.1 (fun h => h)
   obtain ⟨ks, hks⟩ : ∃ ks, ks = (layM ko lo o (unionK ((mem2 o).1 ++ ko))).map (·.1) := ⟨_, rfl⟩
   obtain ⟨js, hjs⟩ : ∃ js, js = (layM ko lo o (unionK ((mem2 o).1 ++ ko))).map (·.2) := ⟨_, rfl⟩
   rw [← hks, ← hjs] at hrb
   have HKJ := Lib.hid (And.intro hks hjs)
   obtain ⟨m, hm⟩ : ∃ m, m = ks.length := ⟨_, rfl⟩
   have hend := rl_fin hrb HH.out.low H1.out.1 (by have := H1.out.2.2.2.2.2.2; omega) H1.out.2.2.2.1.lt hbb
   have hpp := hrb.two.blk
   rw [← hm] at hend hpp
   have HEND := Lib.hid hend
   have HPB := Lib.hid hpp
   have HBB := Lib.hid hbb
   clear hend hpp hbb hks hjs hall hrb hm
   go_wp2_with (first
    | ((with_reducible show wpList _ _ _ (⟨some 61, _, _, _, _, _⟩ :: _) _ _); refine wpList_load_whole rfl 29 _ rfl _ rfl HPB.out Tryz.underlying29 rfl (by kernel_rfl) ?_)
    | ((with_reducible show wpList _ _ _ (⟨none, Op.store _ _ _, _, _, _, _⟩ :: _) _ _); refine wpList_store_whole rfl 29 _ _ rfl [.int .i64 6, .bool false, .int .u64 0, .string .empty, .slice A1 m c1, .slice B1 m d1] rfl rfl HBB.out rfl (by kernel_rfl) (by intro x hx; simp only [List.mem_cons, List.not_mem_nil, or_false] at hx; rcases hx with rfl | rfl | rfl | rfl | rfl | rfl <;> rfl) ?_))
   refine bodyPost_ret (results_blk rfl _ _ rfl HEND.out.1 Tryz.underlying29 rfl (by kernel_rfl)) rfl ?_
   rw [← HKJ.out.1, ← HKJ.out.2]
   exact HEND.out.2
end Go.Proofs.YtdmcioghdindfaaGreat
