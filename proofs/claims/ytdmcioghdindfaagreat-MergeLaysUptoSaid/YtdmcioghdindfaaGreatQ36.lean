/-
  Texts put together: RCleanW; BoxesK.
-/
import Derived.Test.YtdmcioghdindfaaGreatQ17
import Derived.Test.YtdmcioghdindfaaGreatQ28
import Derived.Test.YtdmcioghdindfaaGreatQ04
import Derived.Test.YtdmcioghdindfaaGreatQ03
set_option linter.unusedSimpArgs false
namespace Go.Proofs.YtdmcioghdindfaaGreat
open Go Go.RowKit Go.Aff Go.Json
def Rb_ (D : Nat → Prop) (b : Nat) (B A : Value) (k : Nat) : Prop := D k ∧ k ≠ b ∧ B.ownBlock ≠ some k ∧ A.ownBlock ≠ some k
structure RbS (D : Nat → Prop) (w0 w : World) (b : Nat) (B : Option Addr) (d : Nat) (A : Option Addr) (c : Nat) (ks : List ByteArray) (css : List (List Value)) (js : List JV) : Prop where
 two : BoxTwo w0 w b 29 [.int .i64 6, .bool false, .int .u64 0, .string .empty, .slice A ks.length c, .slice B ks.length d] 9 1 B ks.length d (ks.map .string) 29 6 A ks.length c css.flatten
 lst : RList (Rb_ D b (.slice B ks.length d) (.slice A ks.length c)) w css js
 len : js.length = ks.length
theorem RbS.stay {D : Nat → Prop} {w0 w w' : World} {b : Nat} {B : Option Addr} {d : Nat} {A : Option Addr} {c : Nat} {ks : List ByteArray} {css : List (List Value)} {js : List JV} (h : RbS D w0 w b B d A c ks css js) (k : Keeps (fun _ => False) w w') : RbS D w0 w' b B d A c ks css js := ⟨h.two.keep k, h.lst.stay k, h.len⟩
theorem rb_end {D Din : Nat → Prop} {w0 W w8 w9 w10 : World} {b n : Nat} {B : Option Addr} {d : Nat} {A : Option Addr} {c : Nat} {ks : List ByteArray} {css : List (List Value)} {js : List JV} (h : RbS D w0 W b B d A c ks css js) (hn : n = ks.length)
  {ky : ByteArray} {cs : List Value} {x : JV} (hx : RAt (fun i => Din i ∨ w8.heap.size ≤ i) w9 cs x) (hDin : ∀ i, Din i → D i ∧ i < w0.heap.size) (hD : ∀ i, w0.heap.size ≤ i → D i)
  (h8 : W.heap.size ≤ w8.heap.size) (h89 : Keeps (fun _ => False) w8 w9) (hS : Keeps (fun i => (Value.slice B n d).ownBlock = some i ∨ (Value.slice A n c).ownBlock = some i) W w10) (hS9 : Keeps (fun i => (Value.slice A n c).ownBlock = some i) w9 w10)
  {B8 : Option Addr} {d8 : Nat} {A10 : Option Addr} {c10 : Nat}
  (hT : BoxTwo w0 w10 b 29 [.int .i64 6, .bool false, .int .u64 0, .string .empty, .slice A n c, .slice B n d] 9 1 B8 (n + 1) d8 (ks.map .string ++ [.string ky]) 29 6 A10 (n + 1) c10 (css.flatten ++ cs))
  (hB : ∀ g, (Value.slice B8 (n + 1) d8).ownBlock = some g → (Value.slice B n d).ownBlock = some g ∨ (W.heap.size ≤ g ∧ g < w8.heap.size)) (hA : ∀ g, (Value.slice A10 (n + 1) c10).ownBlock = some g → (Value.slice A n c).ownBlock = some g ∨ w9.heap.size ≤ g) :
  RbS D w0 ((w10.setCell ⟨b, 5, none⟩ (.slice B8 (n + 1) d8)).setCell ⟨b, 4, none⟩ (.slice A10 (n + 1) c10)) b B8 d8 A10 c10 (ks ++ [ky]) (css ++ [cs]) (js ++ [x]) := by
 subst hn
 have hT22 := (hT.set 5 (.slice B8 (ks.length + 1) d8)).set 4 (.slice A10 (ks.length + 1) c10)
 have kset : Keeps (fun i => i = b) w10 ((w10.setCell ⟨b, 5, none⟩ (.slice B8 (ks.length + 1) d8)).setCell ⟨b, 4, none⟩ (.slice A10 (ks.length + 1) c10)) :=
  ((Keeps.refl (fun i => i = b) w10).setCell (p := ⟨b, 5, none⟩) (.inl rfl) _).setCell (p := ⟨b, 4, none⟩) (.inl rfl) _
 have kF : Keeps (fun i => i = b ∨ (Value.slice B ks.length d).ownBlock = some i ∨ (Value.slice A ks.length c).ownBlock = some i) W ((w10.setCell ⟨b, 5, none⟩ (.slice B8 (ks.length + 1) d8)).setCell ⟨b, 4, none⟩ (.slice A10 (ks.length + 1) c10)) := (hS.mono (fun _ _ h => .inr h)).trans kset (fun _ _ e => .inl e)
 have k9 : Keeps (fun i => i = b ∨ (Value.slice A ks.length c).ownBlock = some i) w9 ((w10.setCell ⟨b, 5, none⟩ (.slice B8 (ks.length + 1) d8)).setCell ⟨b, 4, none⟩ (.slice A10 (ks.length + 1) c10)) := (hS9.mono (fun _ _ h => .inr h)).trans kset (fun _ _ e => .inl e)
 have hpl : (ks ++ [ky]).length = ks.length + 1 := by rw [List.length_append]; rfl
 have hlo := h.two.lo
 have hlt := h.two.blk.lt
 have h9 := h89.size
 have oBlo : ∀ g, (Value.slice B ks.length d).ownBlock = some g → w0.heap.size ≤ g ∧ g < W.heap.size := fun g e => ⟨h.two.two.a.2.2 g e, h.two.two.a.own_lt e⟩
 have oAlo : ∀ g, (Value.slice A ks.length c).ownBlock = some g → w0.heap.size ≤ g ∧ g < W.heap.size := fun g e => ⟨h.two.two.b.2.2 g e, h.two.two.b.own_lt e⟩
 refine ⟨?_, ?_, by rw [List.length_append, h.len, hpl]; rfl⟩
 ·rw [hpl, List.map_append, List.flatten_append]
  simp only [List.map_cons, List.map_nil, List.flatten_cons, List.flatten_nil, List.append_nil]
  exact hT22
 ·rw [hpl]
  refine RList.app ?_ (RList.one ?_)
  ·refine ((h.lst.mono (C := fun k => Rb_ D b (.slice B ks.length d) (.slice A ks.length c) k ∧ k < W.heap.size) fun k h5 h6 => ⟨h5, h6⟩).keep kF (fun k hk e => ?_)).mono fun k hk _ => ⟨hk.1.1, hk.1.2.1, fun e => ?_, fun e => ?_⟩
   ·rcases e with e | e | e
    ·exact hk.1.2.1 e
    ·exact hk.1.2.2.1 e
    ·exact hk.1.2.2.2 e
   ·rcases hB k e with h5 | h5
    ·exact hk.1.2.2.1 h5
    ·have := hk.2; omega
   ·rcases hA k e with h5 | h5
    ·exact hk.1.2.2.2 h5
    ·have := hk.2; omega
  ·refine ((hx.mono (C := fun k => (Din k ∨ w8.heap.size ≤ k) ∧ k < w9.heap.size) fun k h5 h6 => ⟨h5, h6⟩).keep k9 (fun k hk e => ?_)).mono fun k hk _ => ⟨?_, fun e => ?_, fun e => ?_, fun e => ?_⟩
   ·rcases e with e | e
    ·rcases hk.1 with h5 | h5
     ·have := (hDin k h5).2; omega
     ·omega
    ·have := oAlo k e
     rcases hk.1 with h5 | h5
     ·have := (hDin k h5).2; omega
     ·omega
   ·rcases hk.1 with h5 | h5
    ·exact (hDin k h5).1
    ·exact hD k (by omega)
   ·rcases hk.1 with h5 | h5
    ·have := (hDin k h5).2; omega
    ·omega
   ·rcases hB k e with h6 | h6
    ·have := oBlo k h6
     rcases hk.1 with h5 | h5
     ·have := (hDin k h5).2; omega
     ·omega
    ·rcases hk.1 with h5 | h5
     ·have := (hDin k h5).2; omega
     ·omega
   ·rcases hA k e with h6 | h6
    ·have := oAlo k h6
     rcases hk.1 with h5 | h5
     ·have := (hDin k h5).2; omega
     ·omega
    ·have := hk.2; omega
theorem rb_fin {D : Nat → Prop} {w w1 wr : World} {b2 p : Nat} {B : Option Addr} {d : Nat} {A : Option Addr} {c : Nat} {ks : List ByteArray} {css : List (List Value)} {js : List JV} {TV : TypeId} {z0 z1 z2 z3 z4 z5 : Value} (h : RbS (fun i => D i ∨ w1.heap.size ≤ i) w1 wr p B d A c ks css js) (hD : ∀ i, D i → i < w.heap.size) (h1 : Keeps (fun _ => False) w w1)
  (hlo : w.heap.size ≤ b2) (hhi : b2 < w1.heap.size) (hbb : Blk wr b2 TV [z0, z1, z2, z3, z4, z5]) :
  Blk (sixSet wr b2 (.int .i64 6) (.bool false) (.int .u64 0) (.string .empty) (.slice A ks.length c) (.slice B ks.length d)) b2 TV [.int .i64 6, .bool false, .int .u64 0, .string .empty, .slice A ks.length c, .slice B ks.length d] ∧
  RAt (fun i => D i ∨ w.heap.size ≤ i) (sixSet wr b2 (.int .i64 6) (.bool false) (.int .u64 0) (.string .empty) (.slice A ks.length c) (.slice B ks.length d)) [.int .i64 6, .bool false, .int .u64 0, .string .empty, .slice A ks.length c, .slice B ks.length d] (.obj ks js) ∧
  Keeps (fun _ => False) w (sixSet wr b2 (.int .i64 6) (.bool false) (.int .u64 0) (.string .empty) (.slice A ks.length c) (.slice B ks.length d)) := by
 have hk := six_keeps wr b2 (.int .i64 6) (.bool false) (.int .u64 0) (.string .empty) (.slice A ks.length c) (.slice B ks.length d)
 have hwr := h1.trans h.two.hold (fun _ _ h => h)
 have hr : RAt (fun i => D i ∨ w1.heap.size ≤ i) wr (refC (.obj ks js) A c B d) (.obj ks js) := by
  have hA := MineS.rdS h.two.two.b
  have hA2 := MineS.inB h.two.two.b
  rw [← h.len] at hA hA2
  exact RAt.of (.obj ks js) (h.lst.mono fun i hi _ => hi.1) hA (hA2.mono fun i hi => .inr hi) (MineS.rd h.two.two.a) ((MineS.inB h.two.two.a).mono fun i hi => .inr hi)
 have hcs : refC (.obj ks js) A c B d = [.int .i64 6, .bool false, .int .u64 0, .string .empty, .slice A ks.length c, .slice B ks.length d] := by
  show [Value.int .i64 6, .bool false, .int .u64 0, .string .empty, .slice A js.length c, .slice B ks.length d] = _
  rw [h.len]
 rw [hcs] at hr
 refine ⟨six_blk hbb _ _ _ _ _ _, (hr.keep hk fun i hi e => ?_).mono fun i hi _ => hi.imp id fun h => Nat.le_trans h1.size h, hwr.trans hk fun i hi e => by omega⟩
 rcases hi with h2 | h2
 ·have := hD i h2; omega
 ·omega
set_option maxHeartbeats 4000000 in
set_option maxRecDepth 100000 in
theorem rclean_leaf {D : Nat → Prop} (w : World) (v : List Value) (j : JV) (h : RAt D w v j) (hs : j.sort ≠ 6) : Calls Tryz.prog 9 #[.agg v.toArray] w (MadePost D w j.clean) := by
 rw [clean_whole j hs]
 obtain ⟨A, c, B, d, cs, hv, _⟩ := h.form
 obtain ⟨n, hn⟩ : ∃ n, n = j.sort := ⟨_, rfl⟩
 obtain ⟨u1, u2, u3, na, nb, hv3⟩ : ∃ u1 u2 u3 na nb, v = [.int .i64 n, .bool u1, .int .u64 u2, .string u3, .slice A na c, .slice B nb d] := ⟨_, _, _, _, _, by rw [hv, hn]; rfl⟩
 subst hv3
 have hne : (n != 6) = true := by rw [hn]; simpa using hs
 have HH := Lib.hid h
 clear h hv hs hn
 have hb1 := (Blk.new w 29 [.int .i64 n, .bool u1, .int .u64 u2, .string u3, .slice A na c, .slice B nb d]).alloc (.cells #[.int .i64 0, .bool false, .int .u64 0, .string .empty, .slice none 0 0, .slice none 0 0] 29)
 have c0 := hb1.cell 0
 have c1 := hb1.cell 1
 have c2 := hb1.cell 2
 have c3 := hb1.cell 3
 have c4 := hb1.cell 4
 have c5 := hb1.cell 5
 have hb2 := Blk.new (w.alloc (.cells #[.int .i64 n, .bool u1, .int .u64 u2, .string u3, .slice A na c, .slice B nb d] 29)) 29 [.int .i64 0, .bool false, .int .u64 0, .string .empty, .slice none 0 0, .slice none 0 0]
 rw [World.size_alloc] at hb2
 have f0 := hb2.frozen 0
 have f1 := hb2.frozen 1
 have f2 := hb2.frozen 2
 have f3 := hb2.frozen 3
 have f4 := hb2.frozen 4
 have f5 := hb2.frozen 5
 have hbr := Blk.new (w.alloc (.cells #[.int .i64 n, .bool u1, .int .u64 u2, .string u3, .slice A na c, .slice B nb d] 29)) 29 [.int .i64 n, .bool u1, .int .u64 u2, .string u3, .slice A na c, .slice B nb d]
 rw [World.size_alloc] at hbr
 have HR := Lib.hid hbr
 have HK := Lib.hid (((Keeps.refl (fun _ => False) w).alloc (.cells #[.int .i64 n, .bool u1, .int .u64 u2, .string u3, .slice A na c, .slice B nb d] 29)).alloc (.cells #[.int .i64 n, .bool u1, .int .u64 u2, .string u3, .slice A na c, .slice B nb d] 29))
 clear hb1 hb2 hbr
 go_enter Tryz.func9, Tryz.ntmps9
 go_wp2
 refine bodyPost_ret (results_blk rfl _ _ rfl HR.out Tryz.underlying29 rfl (by kernel_rfl)) rfl ⟨_, rfl, (HH.out.stay HK.out).mono fun i hi _ => .inl hi, HK.out⟩
set_option maxHeartbeats 4000000 in
set_option maxRecDepth 100000 in
theorem rclean_obj {D : Nat → Prop} (w : World) (v : List Value) (ks : List ByteArray) (l : List JV) (h : RAt D w v (.obj ks l)) (hD : ∀ i, D i → i < w.heap.size) (hkl : ks.length = l.length) (hn : l.length ≤ 1048576)
  (ih : ∀ x, x ∈ l → ∀ (W : World) (u : List Value), Keeps (fun _ => False) w W → RAt D W u x → Calls Tryz.prog 9 #[.agg u.toArray] W (MadePost D W x.clean)) :
  Calls Tryz.prog 9 #[.agg v.toArray] w (MadePost D w (JV.obj ks l).clean) := by
 obtain ⟨A, c, B, d, cs, hv, hA, oA, hB, oB, hx⟩ := h.form
 obtain ⟨n, hnn⟩ : ∃ n, n = l.length := ⟨_, rfl⟩
 rw [clean_obj_eq ks l n (by omega)]
 have hv3 : v = [.int .i64 6, .bool false, .int .u64 0, .string .empty, .slice A n c, .slice B n d] := by rw [hv, hnn]; show [Value.int .i64 6, .bool false, .int .u64 0, .string .empty, Value.slice A l.length c, Value.slice B ks.length d] = _; rw [hkl]
 subst hv3
 have hA' : RowS w A n cs := by rw [hnn]; exact hA
 have hB' : Rd w B n (ks.map .string) := by rw [hnn, ← hkl]; exact hB
 have HD := Lib.hid hD
 have HA := Lib.hid hA'
 have HB := Lib.hid hB'
 have HX : Hid (∀ (i : Nat) (x : JV), l[i]? = some x → RAt D w (cs i) x) := Lib.hid hx
 have HN := Lib.hid (And.intro hkl hnn)
 have HIH := Lib.hid ih
 have hz2 := Blk.new (w.alloc (.cells #[.int .i64 6, .bool false, .int .u64 0, .string .empty, .slice A n c, .slice B n d] 29)) 29 [.int .i64 0, .bool false, .int .u64 0, .string .empty, .slice none 0 0, .slice none 0 0]
 rw [World.size_alloc] at hz2
 obtain ⟨b1, hb1⟩ : ∃ b1, b1 = w.heap.size := ⟨_, rfl⟩
 obtain ⟨b2, hb2⟩ : ∃ b2, b2 = w.heap.size + 1 := ⟨_, rfl⟩
 have HH := Lib.hid (And.intro (((Keeps.refl (fun _ => False) w).alloc (.cells #[.int .i64 6, .bool false, .int .u64 0, .string .empty, .slice A n c, .slice B n d] 29)).alloc (.cells #[.int .i64 0, .bool false, .int .u64 0, .string .empty, .slice none 0 0, .slice none 0 0] 29)) (And.intro ((Blk.new w 29 [.int .i64 6, .bool false, .int .u64 0, .string .empty, .slice A n c, .slice B n d]).alloc (.cells #[.int .i64 0, .bool false, .int .u64 0, .string .empty, .slice none 0 0, .slice none 0 0] 29)) hz2))
 clear hz2
 have hn0 : n ≤ 1048576 := by omega
 clear h hD hkl hn ih hv hA oA hB oB hx hnn hA' hB'
 go_enter Tryz.func9, Tryz.ntmps9
 go_upto_region 1 with fail
 rw [← hb2, ← hb1] at HH ⊢
 refine gen_codeF (fun W => Keeps (fun _ => False) w W ∧ Blk W b1 29 [.int .i64 6, .bool false, .int .u64 0, .string .empty, .slice A n c, .slice B n d] ∧ Blk W b2 29 [.int .i64 0, .bool false, .int .u64 0, .string .empty, .slice none 0 0, .slice none 0 0]) HH.out ?_
 rintro w1 ⟨k1, g1, g2⟩
 have H1 := Lib.hid (And.intro k1 (And.intro g1 (And.intro g2 (And.intro hb1 hb2))))
 have c0 := g1.cell 0
 have hz := Blk.new w1 29 [.int .i64 0, .bool false, .int .u64 0, .string .empty, .slice none 0 0, .slice none 0 0]
 have f0 := hz.frozen 0
 have f1 := hz.frozen 1
 have f2 := hz.frozen 2
 have f3 := hz.frozen 3
 have f4 := hz.frozen 4
 have f5 := hz.frozen 5
 clear k1 g1 g2 hb1 hb2 HH hz
 go_upto_block 0 with fail
 obtain ⟨p, hp⟩ : ∃ p, p = w1.heap.size := ⟨_, rfl⟩
 have HS0 : Hid (RbS (fun i => D i ∨ w1.heap.size ≤ i) w1 (w1.alloc (.cells #[.int .i64 6, .bool false, .int .u64 0, .string .empty, .slice none 0 0, .slice none 0 0] 29)) p none 0 none 0 [] [] []) := Lib.hid ⟨by rw [hp]; exact BoxTwo.start w1 29 9 29 1 6 (Keeps.refl _ w1) [.int .i64 6, .bool false, .int .u64 0, .string .empty, .slice none 0 0, .slice none 0 0], RList.nil _ _, rfl⟩
 rw [← hp]
 refine gen_codeF (fun W => RbS (fun i => D i ∨ w1.heap.size ≤ i) w1 W p none 0 none 0 [] [] []) HS0.out ?_
 intro w2 hs2
 have HS2 := Lib.hid hs2
 clear HS0 hs2 hp c0 f0 f1 f2 f3 f4 f5
 go_wp2
 go_loopg [4] n (fun gk t wx => ∃ (i : Nat) (B1 : Option Addr) (d1 : Nat) (A1 : Option Addr) (c1 : Nat) (css : List (List Value)), i ≤ n ∧ t = .int .i64 i ∧ gk = n - i ∧ Hid (RbS (fun i => D i ∨ w1.heap.size ≤ i) w1 wx p B1 d1 A1 c1 ((kept ks l i).map (·.1)) css ((kept ks l i).map (·.2))))
 case atStart => exact ⟨0, none, 0, none, 0, [], by omega, rfl, rfl, Lib.hid (by simp only [kept, List.take_zero, List.filter_nil, List.map_nil]; exact HS2.out)⟩
 case round =>
  obtain ⟨i, B1, d1, A1, c1, css, hin, rfl, hgk, HO⟩ := hrel
  have HGK := Lib.hid hgk
  clear hgk
  have hbb1 := HO.out.two.hold.blk H1.out.2.1 (fun h => h)
  have x4 := hbb1.cell 4
  have HB1 := Lib.hid hbb1
  clear hbb1
  by_cases hlt : i < n
  ·have hkw := H1.out.1.trans HO.out.two.hold (fun _ _ h => h)
   obtain ⟨g, o, k, hB, hk, hck⟩ := textAt (HB.out.keep hkw (fun _ _ _ h => h)) hlt
   subst hB
   obtain ⟨g2, o2, hA2, hc2⟩ := HA.out.keep hkw (fun _ _ _ h => h) (by omega)
   subst hA2
   obtain ⟨x, hx⟩ : ∃ x, l[i]? = some x := ⟨_, List.getElem?_eq_getElem (by rw [← HN.out.2]; exact hlt)⟩
   have hrg := hc2 i hlt
   have hrx := (HX.out i x hx).stay hkw
   obtain ⟨A3, c3, B3, d3, cs3, hv3, _⟩ := hrx.form
   obtain ⟨z, hz⟩ : ∃ z, z = x.sort := ⟨_, rfl⟩
   obtain ⟨u1, u2, u3, u4, u5, hv4⟩ : ∃ u1 u2 u3 u4 u5, cs i = [.int .i64 z, u1, u2, u3, u4, u5] := ⟨_, _, _, _, _, by rw [hv3, hz]; rfl⟩
   rw [hv4] at hrg hrx
   have czz : wr.cell? ⟨g2, o2 + i * 6, none⟩ = some (.int .i64 z) := by have := hrg 0 _ rfl; simpa using this
   have HX3 := Lib.hid (And.intro hk (And.intro hx hz))
   have HRG := Lib.hid (And.intro hck hrg)
   have HRX := Lib.hid hrx
   clear hk hx hck hc2 hrg hv3 hv4 hkw hrx
   have hi63 : (0 : Int) ≤ (i : Int) := by omega
   have hiN : (i : Int) < (n : Int) := by omega
   by_cases hx1 : z = 1
   ·have hne : (z != 1) = false := by rw [hx1]; rfl
    have HX1 : Hid (x.sort = 1) := Lib.hid (hz ▸ hx1)
    clear hx1 hz
    go_wp2
    go_roundg (n - (i + 1))
    case measure => rw [HGK.out]; omega
    case rel => exact ⟨i + 1, B1, d1, A1, c1, css, by omega, by go_num, rfl, Lib.hid (by rw [kept_snoc HX3.out.1 HX3.out.2.1, if_pos HX1.out, List.append_nil]; exact HO.out)⟩
   ·have hne : (z != 1) = true := by simpa using hx1
    have HX1 : Hid (x.sort ≠ 1) := Lib.hid (hz ▸ hx1)
    clear hx1 hz
    obtain ⟨m, hm⟩ : ∃ m, m = ((kept ks l i).map (·.1)).length := ⟨_, rfl⟩
    have hmi : m ≤ i := by rw [hm, List.length_map]; exact kept_len ks l i
    have HM := Lib.hid hm
    have HT0 : Hid (BoxTwo w1 wr p 29 [.int .i64 6, .bool false, .int .u64 0, .string .empty, .slice A1 m c1, .slice B1 m d1] 9 1 B1 m d1 (((kept ks l i).map (·.1)).map .string) 29 6 A1 m c1 css.flatten) := Lib.hid (by rw [hm]; exact HO.out.two)
    have HNF : Hid (∀ q, ((Value.slice B1 m d1).ownBlock = some q ∨ (Value.slice A1 m c1).ownBlock = some q) → w1.heap.size ≤ q) := Lib.hid fun q e => e.elim (HT0.out.two.a.2.2 q) (HT0.out.two.b.2.2 q)
    have HCE : Hid (∀ V, Keeps (fun i => (Value.slice B1 m d1).ownBlock = some i ∨ (Value.slice A1 m c1).ownBlock = some i) wr V → V.cell? ⟨p, 5, none⟩ = some (.slice B1 m d1) ∧ V.cell? ⟨p, 4, none⟩ = some (.slice A1 m c1) ∧ V.cell? ⟨b1, 5, none⟩ = some (.slice (some ⟨g, o, none⟩) n d) ∧ V.cell? ⟨b1, 4, none⟩ = some (.slice (some ⟨g2, o2, none⟩) n c) ∧ V.cell? ⟨g, o + i, none⟩ = some (.string k) ∧ V.rangeAt g2 (o2 + i * 6) [.int .i64 z, u1, u2, u3, u4, u5]) := Lib.hid fun V hV => by
     have h1 := hV.blk HT0.out.blk (fun e => e.elim HT0.out.na HT0.out.nb)
     have h2 := hV.blk HB1.out (fun e => by have := HNF.out _ e; have := H1.out.2.1.lt; omega)
     have hlow : ∀ {q : Addr} {u : Value}, w.cell? q = some u → q.block < w1.heap.size := fun h => Nat.lt_of_lt_of_le (World.block_lt_of_cell? w _ h) H1.out.1.size
     have hg0 : g < w1.heap.size := by
      obtain ⟨g', o', k', e1, _, e2⟩ := textAt HB.out hlt
      injection e1 with e1
      injection e1 with e1 _
      subst e1
      exact hlow e2
     have hg2 : g2 < w1.heap.size := by
      obtain ⟨g', o', e1, e2⟩ := HA.out (by omega)
      injection e1 with e1
      injection e1 with e1 e3
      subst e1
      obtain ⟨A3, c3, B3, d3, cs3, hv3, _⟩ := (HX.out i x HX3.out.2.1).form
      have := e2 i hlt 0 (.int .i64 x.sort) (by rw [hv3]; rfl)
      exact hlow this
     refine ⟨h1.cell 5, h1.cell 4, h2.cell 5, h2.cell 4, ?_, fun j u hu => ?_⟩
     ·exact (hV.cell (World.block_lt_of_cell? _ _ HRG.out.1) (fun e => by have h3 := HNF.out _ e; have h4 : g < w1.heap.size := hg0; exact absurd h3 (by show ¬ w1.heap.size ≤ g; omega))).trans HRG.out.1
     ·have h5 := HRG.out.2 j u hu
      exact (hV.cell (World.block_lt_of_cell? _ _ h5) (fun e => by have h3 := HNF.out _ e; exact absurd h3 (by show ¬ w1.heap.size ≤ g2; omega))).trans h5
    have HOF : Hid (∀ V, Keeps (fun i => (Value.slice B1 m d1).ownBlock = some i ∨ (Value.slice A1 m c1).ownBlock = some i) wr V → Calls Tryz.prog 9 #[.agg #[.int .i64 z, u1, u2, u3, u4, u5]] V fun e w' => ∃ y0 y1 y2 y3 y4 y5, e = .returned (.agg #[y0, y1, y2, y3, y4, y5]) ∧ RAt (fun i => D i ∨ V.heap.size ≤ i) w' [y0, y1, y2, y3, y4, y5] x.clean ∧ Keeps (fun _ => False) V w') := Lib.hid fun V hV => by
     have hkV : Keeps (fun _ => False) w V := (H1.out.1.trans HO.out.two.hold (fun _ _ h => h)).trans hV (fun q hq e => by have := HNF.out q e; have := H1.out.1.size; omega)
     refine (HIH.out x (List.mem_of_getElem? HX3.out.2.1) V _ hkV (HRX.out.keep hV (fun q hq e => by have := HNF.out q e; have := HD.out q hq; have := H1.out.1.size; omega))).mono ?_
     rintro e w' ⟨v', he, hr, hk⟩
     obtain ⟨y0, y1, y2, y3, y4, y5, rfl⟩ := list6 hr.len
     exact ⟨y0, y1, y2, y3, y4, y5, he, hr, hk⟩
    clear hm
    go_upto_region 8 with fail
    refine wp_region_tail (S := (fun V => Keeps (fun i => (Value.slice B1 m d1).ownBlock = some i ∨ (Value.slice A1 m c1).ownBlock = some i) wr V)) 20 (by kernel_rfl) (Keeps.refl _ _).drew (fun hHeld => ?_)
    refine tP (i := 0) (oi := ⟨some 24, _, _, _, _, _⟩) (v := ?_) rfl (Or.inl ⟨by rfl, ?_⟩) ?_
    rotate_left
    ·intro w' hSw
     go_simp
     first | done | rfl
    try simp only [pu]
    refine tT [1] (i := 1) (oi := ⟨some 25, _, _, _, _, _⟩) (v := ?_) rfl (Or.inl ⟨by rfl, ?_⟩) hHeld ?_
    rotate_left
    ·intro w' hSw
     have cv := (HCE.out _ hSw).1
     go_simp
     first | done | rfl
    try simp only [pu]
    refine tP (i := 2) (oi := ⟨some 26, _, _, _, _, _⟩) (v := ?_) rfl (Or.inl ⟨by rfl, ?_⟩) ?_
    rotate_left
    ·intro w' hSw
     go_simp
     first | done | rfl
    try simp only [pu]
    refine tT [3] (i := 3) (oi := ⟨some 27, _, _, _, _, _⟩) (v := ?_) rfl (Or.inl ⟨by rfl, ?_⟩) hHeld ?_
    rotate_left
    ·intro w' hSw
     have cv := (HCE.out _ hSw).2.2.1
     go_simp
     first | done | rfl
    try simp only [pu]
    refine tP (i := 4) (oi := ⟨some 28, _, _, _, _, _⟩) (v := ?_) rfl (Or.inl ⟨by rfl, ?_⟩) ?_
    rotate_left
    ·intro w' hSw
     go_simp
     first | done | rfl
    try simp only [pu]
    refine tP (i := 5) (oi := ⟨some 29, _, _, _, _, _⟩) (v := ?_) rfl (Or.inl ⟨by rfl, ?_⟩) ?_
    rotate_left
    ·intro w' hSw
     go_simp
     first | done | rfl
    try simp only [pu]
    refine tT [6] (i := 6) (oi := ⟨some 30, _, _, _, _, _⟩) (v := ?_) rfl (Or.inl ⟨by rfl, ?_⟩) hHeld ?_
    rotate_left
    ·intro w' hSw
     have cv := (HCE.out _ hSw).2.2.2.2.1
     go_simp
     first | done | rfl
    try simp only [pu]
    refine tP (i := 9) (oi := ⟨some 33, _, _, _, _, _⟩) (v := ?_) rfl (Or.inl ⟨by rfl, ?_⟩) ?_
    rotate_left
    ·intro w' hSw
     go_simp
     first | done | rfl
    try simp only [pu]
    refine tT [10] (i := 10) (oi := ⟨some 34, _, _, _, _, _⟩) (v := ?_) rfl (Or.inl ⟨by rfl, ?_⟩) hHeld ?_
    rotate_left
    ·intro w' hSw
     have cv := (HCE.out _ hSw).2.1
     go_simp
     first | done | rfl
    try simp only [pu]
    refine tP (i := 11) (oi := ⟨some 35, _, _, _, _, _⟩) (v := ?_) rfl (Or.inl ⟨by rfl, ?_⟩) ?_
    rotate_left
    ·intro w' hSw
     go_simp
     first | done | rfl
    try simp only [pu]
    refine tT [12, 14, 15, 16, 18] (i := 12) (oi := ⟨some 36, _, _, _, _, _⟩) (v := ?_) rfl (Or.inl ⟨by rfl, ?_⟩) hHeld ?_
    rotate_left
    ·intro w' hSw
     have cv := (HCE.out _ hSw).2.2.2.1
     go_simp
     first | done | rfl
    try simp only [pu]
    refine tP (i := 13) (oi := ⟨some 37, _, _, _, _, _⟩) (v := ?_) rfl (Or.inl ⟨by rfl, ?_⟩) ?_
    rotate_left
    ·intro w' hSw
     go_simp
     first | done | rfl
    try simp only [pu]
    refine tP (i := 14) (oi := ⟨some 38, _, _, _, _, _⟩) (v := ?_) rfl (Or.inl ⟨by rfl, ?_⟩) ?_
    rotate_left
    ·intro w' hSw
     go_simp
     first | done | rfl
    try simp only [pu]
    refine tT [15, 16, 18] (i := 15) (oi := ⟨some 39, _, _, _, _, _⟩) (v := _) rfl (yieldsIf_load_mid (by rfl) _ _ rfl _ _ rfl [.int .i64 z, u1, u2, u3, u4, u5] _ (fun w' h => (HCE.out _ h).2.2.2.2.2) Tryz.underlying29 rfl (by kernel_rfl)) hHeld ?_
    try simp only [pu]
    refine wpAnyT_step (i := 7) (o := ⟨some 31, _, _, _, _, _⟩) (by kernel_rfl) rfl (fun K hK => ?_)
    go_simp
    refine hK.out _ _ (hHeld.alloc _) (fun hHeld => ?_)
    clear hK K
    try simp only [pu]
    refine wpAnyT_step (i := 8) (o := ⟨some 32, _, _, _, _, _⟩) (by kernel_rfl) rfl (fun K hK => ?_)
    refine step_append_own rfl (.tmp 25) (.tmp 31) 27 rfl 9 (.string .empty) 1 16 Tryz.underlying27 (by kernel_rfl) rfl (by decide) B1 m d1 _ rfl (HT0.out.keep (((Keeps.refl _ wr).drew).alloc _)).two.a.1 ⟨wr.drew.heap.size, 0, none⟩ 1 1 [.string k] rfl rfl (cell_one_new _ _ _) (by intro u hu; rw [List.mem_singleton.1 hu]; rfl) (by simp only [maxLen]; omega) (by omega) ?_
    intro B8 d8 w8 ho8 hg8 hb8
    have HT8 := Lib.hid ((HT0.out.keep (((Keeps.refl _ wr).drew).alloc _)).app ho8 hg8 hb8)
    have hS8 := hHeld.grown hg8 (fun g e => .inl (.inl e))
    have HS8 := Lib.hid hS8
    refine hK.out _ _ hS8 (fun hHeld => ?_)
    clear hK K
    try simp only [pu]
    refine tP (i := 19) (oi := ⟨some 43, _, _, _, _, _⟩) (v := ?_) rfl (Or.inl ⟨by rfl, ?_⟩) ?_
    rotate_left
    ·intro w' hSw
     go_simp
     first | done | rfl
    try simp only [pu]
    refine wpAnyT_step (i := 16) (o := ⟨some 40, _, _, _, _, _⟩) (by kernel_rfl) rfl (fun K hK => ?_)
    go_simp
    refine (HOF.out _ hHeld).mono ?_
    rintro e w9 ⟨y0, y1, y2, y3, y4, y5, rfl, hr9, hk9⟩
    have HT9 := Lib.hid (HT8.out.keep hk9)
    have HR9 := Lib.hid (And.intro hr9 hk9)
    have hS9 := hHeld.trans hk9 (fun _ _ h => h.elim)
    clear hr9 hk9
    refine hK.out _ _ hS9 (fun hHeld => ?_)
    clear hK K
    try simp only [pu]
    refine wpAnyT_step (i := 17) (o := ⟨some 41, _, _, _, _, _⟩) (by kernel_rfl) rfl (fun K hK => ?_)
    refine step_box_S rfl 26 29 (.tmp 40) rfl (.agg #[.int .i64 0, .bool false, .int .u64 0, .string .empty, .slice none 0 0, .slice none 0 0]) 6 Tryz.underlying26 (by kernel_rfl) (by decide) (by decide) [y0, y1, y2, y3, y4, y5] rfl rfl ?_
    refine hK.out _ _ (hHeld.alloc _) (fun hHeld => ?_)
    clear hK K
    try simp only [pu]
    refine wpAnyT_step (i := 18) (o := ⟨some 42, _, _, _, _, _⟩) (by kernel_rfl) rfl (fun K hK => ?_)
    refine step_append_own rfl (.tmp 34) (.tmp 41) 26 rfl 29 (.agg #[.int .i64 0, .bool false, .int .u64 0, .string .empty, .slice none 0 0, .slice none 0 0]) 6 88 Tryz.underlying26 (by kernel_rfl) rfl (by decide) A1 m c1 _ rfl (HT9.out.swap.keep ((Keeps.refl _ w9).alloc _)).two.a.1 ⟨w9.heap.size, 0, none⟩ 1 1 [y0, y1, y2, y3, y4, y5] rfl rfl (fun j u hu => by rw [add_at, Nat.zero_add]; exact ((Blk.new _ _ _).cell j).trans hu) HR9.out.1.one (by simp only [maxLen]; omega) (by omega) ?_
    intro A10 c10 w10 ho10 hg10 hb10
    have HT10 := Lib.hid (((HT9.out.swap.keep ((Keeps.refl _ w9).alloc _)).app ho10 hg10 hb10).swap)
    have hS10 := hHeld.grown hg10 (fun g e => .inl (.inr e))
    refine hK.out _ _ hS10 (fun hHeld => ?_)
    clear hK K
    try simp only [pu]
    refine wpAnyT_tail (i := 20) (o := ⟨none, _, _, _, _, _⟩) (by kernel_rfl) (by kernel_rfl) rfl (fun K hK => ?_)
    have cv1 := HT10.out.blk.cell 5
    have fz1 := HT10.out.blk.frozen 5
    go_simp
    have HT20 := Lib.hid (HT10.out.set 5 (.slice B8 (m + 1) d8))
    refine hK.out _ _ ?_
    clear hK K
    try simp only [pu]
    refine wpAnyT_tail (i := 21) (o := ⟨some 44, _, _, _, _, _⟩) (by kernel_rfl) (by kernel_rfl) rfl (fun K hK => ?_)
    go_simp
    refine hK.out _ _ ?_
    clear hK K
    try simp only [pu]
    refine wpAnyT_tail (i := 22) (o := ⟨none, _, _, _, _, _⟩) (by kernel_rfl) (by kernel_rfl) rfl (fun K hK => ?_)
    have cv2 := HT20.out.blk.cell 4
    have fz2 := HT20.out.blk.frozen 4
    go_simp
    refine hK.out _ _ ?_
    clear hK K
    try simp only [pu]
    refine wpAnyT_done (by kernel_rfl) ?_
    have HEND : Hid (RbS (fun i => D i ∨ w1.heap.size ≤ i) w1 ((w10.setCell ⟨p, 5, none⟩ (.slice B8 (m + 1) d8)).setCell ⟨p, 4, none⟩ (.slice A10 (m + 1) c10)) p B8 d8 A10 c10 ((kept ks l i).map (·.1) ++ [k]) (css ++ [[y0, y1, y2, y3, y4, y5]]) ((kept ks l i).map (·.2) ++ [x.clean])) := Lib.hid (rb_end (Din := D) (w8 := w8) (w9 := w9) (w10 := w10) HO.out HM.out HR9.out.1 (fun q h => ⟨.inl h, Nat.lt_of_lt_of_le (HD.out q h) H1.out.1.size⟩) (fun q h => .inr h) HS8.out.size HR9.out.2 hS10 (((Keeps.refl _ w9).alloc _).grown hg10 (fun g e => .inl e)) HT10.out
     (fun q e => hb8.elim (fun h1 => .inl (h1 ▸ e)) (fun h1 => .inr ⟨by rw [h1] at e; injection e with e; rw [← e]; exact (((Keeps.refl (fun _ => False) wr).drew).alloc (.cells #[.string k] 9)).size, HT8.out.two.a.own_lt e⟩))
     (fun q e => hb10.elim (fun h1 => .inl (h1 ▸ e)) (fun h1 => .inr (by rw [h1] at e; injection e with e; rw [← e]; exact ((Keeps.refl (fun _ => False) w9).alloc (.cells #[y0, y1, y2, y3, y4, y5] 29)).size))))
    obtain ⟨w22, hw22⟩ : ∃ w22, w22 = (w10.setCell ⟨p, 5, none⟩ (.slice B8 (m + 1) d8)).setCell ⟨p, 4, none⟩ (.slice A10 (m + 1) c10) := ⟨_, rfl⟩
    rw [← hw22] at HEND ⊢
    clear hw22 cv1 fz1 cv2 fz2 hS10 hHeld HS8
    go_wp2
    go_roundg (n - (i + 1))
    case measure => rw [HGK.out]; omega
    case rel => exact ⟨i + 1, B8, d8, A10, c10, _, by omega, by go_num, rfl, Lib.hid (by rw [kept_snoc HX3.out.1 HX3.out.2.1, if_neg HX1.out, List.map_append, List.map_append]; exact HEND.out)⟩
  ·obtain rfl : i = n := by omega
   obtain ⟨m, hm⟩ : ∃ m, m = ((kept ks l i).map (·.1)).length := ⟨_, rfl⟩
   have hpp := HO.out.two.blk
   rw [← hm] at hpp
   have e0 := hpp.cell 0
   have e1 := hpp.cell 1
   have e2 := hpp.cell 2
   have e3 := hpp.cell 3
   have e4 := hpp.cell 4
   have e5 := hpp.cell 5
   have hbb := HO.out.two.hold.blk H1.out.2.2.1 (fun h => h)
   have f0 := hbb.frozen 0
   have f1 := hbb.frozen 1
   have f2 := hbb.frozen 2
   have f3 := hbb.frozen 3
   have f4 := hbb.frozen 4
   have f5 := hbb.frozen 5
   have d0 := hbb.cell 0
   have d1' := hbb.cell 1
   have d2 := hbb.cell 2
   have d3 := hbb.cell 3
   have d4 := hbb.cell 4
   have d5 := hbb.cell 5
   have hend := rb_fin HO.out HD.out H1.out.1 (by rw [H1.out.2.2.2.2]; omega) H1.out.2.2.1.lt hbb
   rw [← hm] at hend
   have HEND := Lib.hid hend
   clear hpp hbb hend hm
   go_wp2
   refine bodyPost_ret (results_blk rfl _ _ rfl HEND.out.1 Tryz.underlying29 rfl (by kernel_rfl)) rfl ⟨_, rfl, HEND.out.2.1, HEND.out.2.2⟩
theorem rclean_all (j : JV) : JOk j → j.nodes ≤ 1048576 → ∀ (D : Nat → Prop) (w : World) (v : List Value), RAt D w v j → Calls Tryz.prog 9 #[.agg v.toArray] w (MadePost D w j.clean) := by
 intro hok
 induction hok with
 | mk j h1 h2 hp hr ht h ih =>
  intro hn D w v hv
  by_cases hs : j.sort = 6
  ·have hio := items_nodes j
   match j, hs, h2, ih, hn, hv, hio with
   | .obj ks l, _, h2, ih, hn, hv, hio =>
    refine (rclean_obj (D := fun i => D i ∧ i < w.heap.size) w v ks l (hv.mono fun i h1 h2 => ⟨h1, h2⟩) (fun i h => h.2) (h2 rfl) (by have : (JV.obj ks l).items.length = l.length := rfl; omega) fun x hx W u _ hu => ?_).mono ?_
    ·have hm := sumN_mem (List.mem_map.2 ⟨x, hx, rfl⟩ : x.nodes ∈ l.map fun x => x.nodes)
     refine ih x hx ?_ _ W u hu
     rw [JV.nodes_eq (.obj ks l)] at hn
     have : sumN ((JV.obj ks l).items.map fun x => x.nodes) = sumN (l.map fun x => x.nodes) := rfl
     omega
    ·rintro e w' ⟨v', he, hr, hk⟩
     exact ⟨v', he, hr.mono fun i hi _ => hi.imp (fun h => h.1) id, hk⟩
  ·exact rclean_leaf w v j hv hs
theorem rclean_any {D : Nat → Prop} (w : World) (v : List Value) (j : JV) (h : RAt D w v j) (hok : JOk j) (hn : j.nodes ≤ 1048576) : Calls Tryz.prog 9 #[.agg v.toArray] w (MadePost D w j.clean) := rclean_all j hok hn D w v h
end Go.Proofs.YtdmcioghdindfaaGreat

set_option linter.unusedSimpArgs false
namespace Go.Aff
open Go Go.RowKit
theorem fold_off (off : Nat) (vs : List Value) : ∀ (j : Nat) (cs : Array Value), List.foldl (fun (cs : Array Value) (x : Value × Nat) => cs.setIfInBounds (off + x.snd) x.fst) cs (vs.zipIdx j) = List.foldl (fun (cs : Array Value) (x : Value × Nat) => cs.setIfInBounds x.snd x.fst) cs (vs.zipIdx (off + j)) := by
 induction vs with
 | nil => intro j cs; rfl
 | cons v vs ih =>
  intro j cs
  rw [List.zipIdx_cons, List.zipIdx_cons, List.foldl_cons, List.foldl_cons, ih (j + 1)]
  rfl
theorem fill_rows (sz : Nat) : ∀ (rows : List (List Value)) (k : Nat) (pre post : List Value), (∀ r ∈ rows, r.length = sz) → pre.length = k * sz → post.length = rows.length * sz →
  Instr.fill (fun i => some (i * sz, sz)) (pre ++ post).toArray ((rows.zipIdx k).map fun p => (p.2, .agg p.1.toArray)) = some (pre ++ rows.flatten).toArray
 | [], k, pre, post, _, hp, hq => by
  have : post = [] := List.eq_nil_of_length_eq_zero (by rw [hq]; simp)
  subst this
  simp [Instr.fill]
 | r :: rows, k, pre, post, hr, hp, hq => by
  have hl := hr r (List.mem_cons_self ..)
  have hq' : post.length = rows.length * sz + sz := by rw [hq, List.length_cons, Nat.succ_mul]
  have hf : List.foldl (fun (cs : Array Value) (x : Value × Nat) => cs.setIfInBounds (k * sz + x.snd) x.fst) (pre ++ post).toArray r.zipIdx = ((pre ++ r) ++ post.drop sz).toArray := by
   rw [fold_off, Nat.add_zero, fold_zipB r (k * sz) (pre ++ post).toArray (by simp; omega)]
   congr 1
   have e1 : (pre ++ post).take (k * sz) = pre := by rw [← hp, List.take_left]
   have e2 : (pre ++ post).drop (k * sz + r.length) = post.drop sz := by rw [← hp, List.drop_length_add_append, hl]
   show (pre ++ post).take (k * sz) ++ r ++ (pre ++ post).drop (k * sz + r.length) = _
   rw [e1, e2]
  rw [List.zipIdx_cons, List.map_cons]
  have hcs : (Value.agg r.toArray).cells = r.toArray := rfl
  show (match some (k * sz, sz) with
   | none => none
   | some (off, size) => if (Value.agg r.toArray).cells.size ≠ size || off + (Value.agg r.toArray).cells.size > (pre ++ post).toArray.size then none
    else Instr.fill (fun i => some (i * sz, sz)) ((Value.agg r.toArray).cells.zipIdx.foldl (fun cs (x : Value × Nat) => cs.setIfInBounds (off + x.2) x.1) (pre ++ post).toArray) ((rows.zipIdx (k + 1)).map fun (p : List Value × Nat) => (p.2, Value.agg p.1.toArray))) = _
  rw [hcs]
  simp only []
  have h1 : r.toArray.size = sz := by simp [hl]
  have h2 : ¬ k * sz + sz > (pre ++ post).toArray.size := by simp; omega
  rw [h1]
  simp only [ne_eq, not_true_eq_false, decide_false, Bool.false_or, decide_eq_true_eq, h2, if_false]
  rw [← Array.foldl_toList, Array.toList_zipIdx, hf, fill_rows sz rows (k + 1) (pre ++ r) (post.drop sz) (fun x hx => hr x (List.mem_cons_of_mem _ hx)) (by rw [List.length_append, hp, hl, Nat.succ_mul]) (by rw [List.length_drop, hq']; omega)]
  simp
section
variable {P : Program}
theorem run_boxes (w : World) (t e : TypeId) (z : Value) (sz n : Nat) (ht : P.underlying t = some (.slice e)) (hinfo : (P.info? e).map (fun i => (i.zero, i.size)) = some (some z, sz)) (hpos : 0 < n * sz) (hsm : n * sz ≤ 16777216) (rows : List (List Value)) (hn : rows.length = n) (hl : ∀ r ∈ rows, r.length = sz) :
  (Instr.buildSlice t n ((rows.zipIdx).map fun p => (p.2, Value.agg p.1.toArray)).toArray).run P w = .ok (.slice (some ⟨w.heap.size, 0, none⟩) n n) (w.alloc (.cells rows.flatten.toArray e)) := by
 obtain ⟨i, hi, hzi⟩ := Option.map_eq_some_iff.1 hinfo
 simp only [Prod.mk.injEq] at hzi
 refine run_buildSlice w t e n _ rows.flatten.toArray i z ht hi hzi.1 (by rw [hzi.2]; omega) (by rw [hzi.2]; omega) ?_
 rw [hzi.2]
 have h := fill_rows sz rows 0 [] (((Array.range (n * sz)).map (z.cells[· % z.cells.size]!)).toList) hl (by simp) (by simp [hn])
 rw [List.nil_append, List.nil_append, Array.toArray_toList] at h
 exact h
theorem wpList_box2_S (w : World) {ops : Array Oper} {rest : List Oper} {o : Oper} {a : Act} {Q : Exit → Act → World → Prop} (hgd : o.guard = none) (t e : TypeId) (x y : Operand) (ho : o.op = .buildSlice t 2 #[(0, x), (1, y)])
  (z : Value) (sz : Nat) (ht : P.underlying t = some (.slice e)) (hinfo : (P.info? e).map (fun i => (i.zero, i.size)) = some (some z, sz)) (hpos : 0 < sz) (hsm : 2 * sz ≤ 16777216) (SX SY : List Value) (hl : SX.length = sz) (hl2 : SY.length = sz) (hx : a.eval x = .agg SX.toArray) (hy : a.eval y = .agg SY.toArray)
  (h : wpList P ops Q rest (a.put o.dst (.slice (some ⟨w.heap.size, 0, none⟩) 2 2)) (w.alloc (.cells (SX ++ SY).toArray e))) : wpList P ops Q (o :: rest) a w :=
 wpList_plain hgd fun K hK => by
  have hr := run_boxes (P := P) w t e z sz 2 ht hinfo (by omega) hsm [SX, SY] rfl (by intro r hr; simp at hr; rcases hr with rfl | rfl <;> assumption)
  have e1 : [SX, SY].flatten = SX ++ SY := by simp
  rw [e1] at hr
  unfold Oper.wp execOp
  simp only [ho, Sem.run_bind, List.map_toArray, List.map_cons, List.map_nil, hx, hy]
  have e2 : (([SX, SY].zipIdx).map fun p => (p.2, Value.agg p.1.toArray)).toArray = #[(0, .agg SX.toArray), (1, .agg SY.toArray)] := rfl
  rw [e2] at hr
  simp only [hr, Result.andThen_ok]
  exact hK _ _ h
end
end Go.Aff
