/-
  Texts put together: BoxesK; RbK; RSam18W; RegI; TwoJ.
-/
import Derived.Test.YtdmcioghdindfaaGreatDoorQ03
import Derived.Test.YtdmcioghdindfaaGreatDoorQ14
import Derived.Test.YtdmcioghdindfaaGreatDoorQ22
import Derived.Test.YtdmcioghdindfaaGreatDoorQ28
import Derived.Test.YtdmcioghdindfaaGreatDoorQ35
import Derived.Test.YtdmcioghdindfaaGreatDoorQ27
import Derived.OrdersHeld
import Derived.Deep.RegionHeld
set_option linter.unusedSimpArgs false
set_option maxRecDepth 100000
set_option maxHeartbeats 4000000
namespace Go.Aff
open Go Go.RowKit
theorem fold_off (off : Nat) (vs : List Value) : ∀ (j : Nat) (cs : Array Value), List.foldl (fun (cs : Array Value) (x : Value × Nat) => cs.setIfInBounds (off + x.snd) x.fst) cs (vs.zipIdx j) = List.foldl (fun (cs : Array Value) (x : Value × Nat) => cs.setIfInBounds x.snd x.fst) cs (vs.zipIdx (off + j)) := by
 induction vs with
 | nil => intro j cs; rfl
 | cons v vs ih =>
  intro j cs
  rw [List.zipIdx_cons, List.zipIdx_cons, List.foldl_cons, List.foldl_cons, ih (j + 1)]
  rfl
theorem fill_rows (sz : Nat) : ∀ (rows : List (List Value)) (k : Nat) (pre post : List Value), (∀ r ∈ rows, r.length = sz) → pre.length = k * sz → post.length = rows.length * sz →
  Instr.fill (fun i => some (i * sz, sz)) (pre ++ post).toArray ((rows.zipIdx k).map fun p => (p.2, .agg p.1.toArray)) = some (pre ++ rows.flatten).toArray
 | [], k, pre, post, _, hp, hq => by
  have : post = [] := List.eq_nil_of_length_eq_zero (by rw [hq]; simp)
  subst this
  simp [Instr.fill]
 | r :: rows, k, pre, post, hr, hp, hq => by
  have hl := hr r (List.mem_cons_self ..)
  have hq' : post.length = rows.length * sz + sz := by rw [hq, List.length_cons, Nat.succ_mul]
  have hf : List.foldl (fun (cs : Array Value) (x : Value × Nat) => cs.setIfInBounds (k * sz + x.snd) x.fst) (pre ++ post).toArray r.zipIdx = ((pre ++ r) ++ post.drop sz).toArray := by
   rw [fold_off, Nat.add_zero, fold_zipB r (k * sz) (pre ++ post).toArray (by simp; omega)]
   congr 1
   have e1 : (pre ++ post).take (k * sz) = pre := by rw [← hp, List.take_left]
   have e2 : (pre ++ post).drop (k * sz + r.length) = post.drop sz := by rw [← hp, List.drop_length_add_append, hl]
   show (pre ++ post).take (k * sz) ++ r ++ (pre ++ post).drop (k * sz + r.length) = _
   rw [e1, e2]
  rw [List.zipIdx_cons, List.map_cons]
  have hcs : (Value.agg r.toArray).cells = r.toArray := rfl
  show (match some (k * sz, sz) with
   | none => none
   | some (off, size) => if (Value.agg r.toArray).cells.size ≠ size || off + (Value.agg r.toArray).cells.size > (pre ++ post).toArray.size then none
    else Instr.fill (fun i => some (i * sz, sz)) ((Value.agg r.toArray).cells.zipIdx.foldl (fun cs (x : Value × Nat) => cs.setIfInBounds (off + x.2) x.1) (pre ++ post).toArray) ((rows.zipIdx (k + 1)).map fun (p : List Value × Nat) => (p.2, Value.agg p.1.toArray))) = _
  rw [hcs]
  simp only []
  have h1 : r.toArray.size = sz := by simp [hl]
  have h2 : ¬ k * sz + sz > (pre ++ post).toArray.size := by simp; omega
  rw [h1]
  simp only [ne_eq, not_true_eq_false, decide_false, Bool.false_or, decide_eq_true_eq, h2, if_false]
  rw [← Array.foldl_toList, Array.toList_zipIdx, hf, fill_rows sz rows (k + 1) (pre ++ r) (post.drop sz) (fun x hx => hr x (List.mem_cons_of_mem _ hx)) (by rw [List.length_append, hp, hl, Nat.succ_mul]) (by rw [List.length_drop, hq']; omega)]
  simp
section
variable {P : Program}
theorem run_boxes (w : World) (t e : TypeId) (z : Value) (sz n : Nat) (ht : P.underlying t = some (.slice e)) (hinfo : (P.info? e).map (fun i => (i.zero, i.size)) = some (some z, sz)) (hpos : 0 < n * sz) (hsm : n * sz ≤ 16777216) (rows : List (List Value)) (hn : rows.length = n) (hl : ∀ r ∈ rows, r.length = sz) :
  (Instr.buildSlice t n ((rows.zipIdx).map fun p => (p.2, Value.agg p.1.toArray)).toArray).run P w = .ok (.slice (some ⟨w.heap.size, 0, none⟩) n n) (w.alloc (.cells rows.flatten.toArray e)) := by
 obtain ⟨i, hi, hzi⟩ := Option.map_eq_some_iff.1 hinfo
 simp only [Prod.mk.injEq] at hzi
 refine run_buildSlice w t e n _ rows.flatten.toArray i z ht hi hzi.1 (by rw [hzi.2]; omega) (by rw [hzi.2]; omega) ?_
 rw [hzi.2]
 have h := fill_rows sz rows 0 [] (((Array.range (n * sz)).map (z.cells[· % z.cells.size]!)).toList) hl (by simp) (by simp [hn])
 rw [List.nil_append, List.nil_append, Array.toArray_toList] at h
 exact h
theorem wpList_box2_S (w : World) {ops : Array Oper} {rest : List Oper} {o : Oper} {a : Act} {Q : Exit → Act → World → Prop} (hgd : o.guard = none) (t e : TypeId) (x y : Operand) (ho : o.op = .buildSlice t 2 #[(0, x), (1, y)])
  (z : Value) (sz : Nat) (ht : P.underlying t = some (.slice e)) (hinfo : (P.info? e).map (fun i => (i.zero, i.size)) = some (some z, sz)) (hpos : 0 < sz) (hsm : 2 * sz ≤ 16777216) (SX SY : List Value) (hl : SX.length = sz) (hl2 : SY.length = sz) (hx : a.eval x = .agg SX.toArray) (hy : a.eval y = .agg SY.toArray)
  (h : wpList P ops Q rest (a.put o.dst (.slice (some ⟨w.heap.size, 0, none⟩) 2 2)) (w.alloc (.cells (SX ++ SY).toArray e))) : wpList P ops Q (o :: rest) a w :=
 wpList_plain hgd fun K hK => by
  have hr := run_boxes (P := P) w t e z sz 2 ht hinfo (by omega) hsm [SX, SY] rfl (by intro r hr; simp at hr; rcases hr with rfl | rfl <;> assumption)
  have e1 : [SX, SY].flatten = SX ++ SY := by simp
  rw [e1] at hr
  unfold Oper.wp execOp
  simp only [ho, Sem.run_bind, List.map_toArray, List.map_cons, List.map_nil, hx, hy]
  have e2 : (([SX, SY].zipIdx).map fun p => (p.2, Value.agg p.1.toArray)).toArray = #[(0, .agg SX.toArray), (1, .agg SY.toArray)] := rfl
  rw [e2] at hr
  simp only [hr, Result.andThen_ok]
  exact hK _ _ h
end
end Go.Aff
namespace Go.Proofs.YtdmcioghdindfaaGreatDoor
open Go Go.RowKit Go.Aff Go.Json
attribute [local go_sem] Oper.semAt_some
def Rb_ (D : Nat → Prop) (b : Nat) (B A : Value) (k : Nat) : Prop := D k ∧ k ≠ b ∧ B.ownBlock ≠ some k ∧ A.ownBlock ≠ some k
structure RbS (D : Nat → Prop) (w0 w : World) (b : Nat) (B : Option Addr) (d : Nat) (A : Option Addr) (c : Nat) (ks : List ByteArray) (css : List (List Value)) (js : List JV) : Prop where
 two : BoxTwo w0 w b 31 [.int .i64 6, .bool false, .int .u64 0, .string .empty, .slice A ks.length c, .slice B ks.length d] 9 1 B ks.length d (ks.map .string) 31 6 A ks.length c css.flatten
 lst : RList (Rb_ D b (.slice B ks.length d) (.slice A ks.length c)) w css js
 len : js.length = ks.length
theorem RbS.stay {D : Nat → Prop} {w0 w w' : World} {b : Nat} {B : Option Addr} {d : Nat} {A : Option Addr} {c : Nat} {ks : List ByteArray} {css : List (List Value)} {js : List JV} (h : RbS D w0 w b B d A c ks css js) (k : Keeps (fun _ => False) w w') : RbS D w0 w' b B d A c ks css js := ⟨h.two.keep k, h.lst.stay k, h.len⟩
structure RlSt (D : Nat → Prop) (w0 w4 wx : World) (p : Nat) (B : Option Addr) (d : Nat) (A : Option Addr) (c : Nat) (ms : List (ByteArray × JV)) (css : List (List Value)) : Prop where
 rb : RbS D w0 wx p B d A c (ms.map (·.1)) css (ms.map (·.2))
 ob : ∀ g, (Value.slice B (ms.map (·.1)).length d).ownBlock = some g → w4.heap.size ≤ g
 oa : ∀ g, (Value.slice A (ms.map (·.1)).length c).ownBlock = some g → w4.heap.size ≤ g
 keep : Keeps (fun i => i = p ∨ w4.heap.size ≤ i) w4 wx
theorem RlSt.stay {D : Nat → Prop} {w0 w4 wx w' : World} {p : Nat} {B : Option Addr} {d : Nat} {A : Option Addr} {c : Nat} {ms : List (ByteArray × JV)} {css : List (List Value)} (h : RlSt D w0 w4 wx p B d A c ms css) (k : Keeps (fun _ => False) wx w') : RlSt D w0 w4 w' p B d A c ms css :=
 ⟨h.rb.stay k, h.ob, h.oa, h.keep.trans k fun _ _ h => h.elim⟩
theorem RlSt.start {D : Nat → Prop} {w0 w4 : World} {p : Nat} (h : RbS D w0 w4 p none 0 none 0 [] [] []) : RlSt D w0 w4 w4 p none 0 none 0 [] [] :=
 ⟨h, fun g e => by simp [Value.ownBlock] at e, fun g e => by simp [Value.ownBlock] at e, Keeps.refl _ _⟩
theorem rl_more {D : Nat → Prop} {w0 w4 W w10 : World} {b n : Nat} {B : Option Addr} {d : Nat} {A : Option Addr} {c : Nat} {ms : List (ByteArray × JV)} {css : List (List Value)} (h : RlSt D w0 w4 W b B d A c ms css) (hn : n = (ms.map (·.1)).length)
  {ky : ByteArray} {cs : List Value} {x : JV} (hx : RAt (Rb_ D b (.slice B n d) (.slice A n c)) W cs x) (hS : Keeps (fun i => (Value.slice B n d).ownBlock = some i ∨ (Value.slice A n c).ownBlock = some i) W w10)
  {B8 : Option Addr} {d8 : Nat} {A10 : Option Addr} {c10 : Nat}
  (hT : BoxTwo w0 w10 b 31 [.int .i64 6, .bool false, .int .u64 0, .string .empty, .slice A n c, .slice B n d] 9 1 B8 (n + 1) d8 ((ms.map (·.1)).map .string ++ [.string ky]) 31 6 A10 (n + 1) c10 (css.flatten ++ cs))
  (hB : ∀ g, (Value.slice B8 (n + 1) d8).ownBlock = some g → (Value.slice B n d).ownBlock = some g ∨ W.heap.size ≤ g) (hA : ∀ g, (Value.slice A10 (n + 1) c10).ownBlock = some g → (Value.slice A n c).ownBlock = some g ∨ W.heap.size ≤ g) :
  RlSt D w0 w4 ((w10.setCell ⟨b, 5, none⟩ (.slice B8 (n + 1) d8)).setCell ⟨b, 4, none⟩ (.slice A10 (n + 1) c10)) b B8 d8 A10 c10 (ms ++ [(ky, x)]) (css ++ [cs]) := by
 subst hn
 have hT22 := (hT.set 5 (.slice B8 ((ms.map (·.1)).length + 1) d8)).set 4 (.slice A10 ((ms.map (·.1)).length + 1) c10)
 have kset : Keeps (fun i => i = b) w10 ((w10.setCell ⟨b, 5, none⟩ (.slice B8 ((ms.map (·.1)).length + 1) d8)).setCell ⟨b, 4, none⟩ (.slice A10 ((ms.map (·.1)).length + 1) c10)) :=
  ((Keeps.refl (fun i => i = b) w10).setCell (p := ⟨b, 5, none⟩) (.inl rfl) _).setCell (p := ⟨b, 4, none⟩) (.inl rfl) _
 have kF : Keeps (fun i => i = b ∨ (Value.slice B (ms.map (·.1)).length d).ownBlock = some i ∨ (Value.slice A (ms.map (·.1)).length c).ownBlock = some i) W ((w10.setCell ⟨b, 5, none⟩ (.slice B8 ((ms.map (·.1)).length + 1) d8)).setCell ⟨b, 4, none⟩ (.slice A10 ((ms.map (·.1)).length + 1) c10)) := (hS.mono (fun _ _ h => .inr h)).trans kset (fun _ _ e => .inl e)
 have hk1 : (ms ++ [(ky, x)]).map (·.1) = ms.map (·.1) ++ [ky] := by rw [List.map_append]; rfl
 have hk2 : (ms ++ [(ky, x)]).map (·.2) = ms.map (·.2) ++ [x] := by rw [List.map_append]; rfl
 have hpl : (ms.map (·.1) ++ [ky]).length = (ms.map (·.1)).length + 1 := by rw [List.length_append]; rfl
 have hmove : ∀ val y, RAt (Rb_ D b (.slice B (ms.map (·.1)).length d) (.slice A (ms.map (·.1)).length c)) W val y → RAt (Rb_ D b (.slice B8 ((ms.map (·.1)).length + 1) d8) (.slice A10 ((ms.map (·.1)).length + 1) c10)) ((w10.setCell ⟨b, 5, none⟩ (.slice B8 ((ms.map (·.1)).length + 1) d8)).setCell ⟨b, 4, none⟩ (.slice A10 ((ms.map (·.1)).length + 1) c10)) val y := fun val y h4 => by
  refine ((h4.mono (C := fun k => Rb_ D b (.slice B (ms.map (·.1)).length d) (.slice A (ms.map (·.1)).length c) k ∧ k < W.heap.size) fun k h5 h6 => ⟨h5, h6⟩).keep kF (fun k hk e => ?_)).mono fun k hk _ => ⟨hk.1.1, hk.1.2.1, fun e => ?_, fun e => ?_⟩
  ·rcases e with e | e | e
   ·exact hk.1.2.1 e
   ·exact hk.1.2.2.1 e
   ·exact hk.1.2.2.2 e
  ·rcases hB k e with h5 | h5
   ·exact hk.1.2.2.1 h5
   ·have := hk.2; omega
  ·rcases hA k e with h5 | h5
   ·exact hk.1.2.2.2 h5
   ·have := hk.2; omega
 have hW := h.keep.size
 refine ⟨⟨?_, ?_, ?_⟩, fun g e => ?_, fun g e => ?_, ?_⟩
 ·rw [hk1, hpl, List.map_append, List.flatten_append]
  simp only [List.map_cons, List.map_nil, List.flatten_cons, List.flatten_nil, List.append_nil]
  exact hT22
 ·rw [hk1, hk2, hpl]
  exact RList.app ⟨h.rb.lst.1, fun i cs y h1 h2 => hmove _ _ (h.rb.lst.2 i cs y h1 h2)⟩ (RList.one (hmove _ _ hx))
 ·rw [hk1, hk2, hpl, List.length_append, h.rb.len]; rfl
 ·rw [hk1, hpl] at e
  rcases hB g e with h5 | h5
  ·exact h.ob g h5
  ·omega
 ·rw [hk1, hpl] at e
  rcases hA g e with h5 | h5
  ·exact h.oa g h5
  ·omega
 ·refine h.keep.trans kF fun i _ e => ?_
  rcases e with e | e | e
  ·exact .inl e
  ·exact .inr (h.ob i e)
  ·exact .inr (h.oa i e)
structure TwoV (w W : World) (p8 p9 : Nat) (X Y : List Value) : Prop where
 keep : Keeps (fun _ => False) w W
 b8 : Blk W p8 31 X
 b9 : Blk W p9 31 Y
 ne : p8 ≠ p9
 lo8 : w.heap.size ≤ p8
 lo9 : w.heap.size ≤ p9
theorem blk_rngL {w : World} {p : Nat} {ty : TypeId} {cs : List Value} (h : Blk w p ty cs) : w.rangeAt p 0 cs := fun j v hv => by rw [Nat.zero_add, h.cell]; exact hv
theorem infoV {v : List Value} (h : v.length = 6) : (Tryz.prog.info? 31).map (·.size) = some v.length := by rw [h]; kernel_rfl
theorem rl_fin {D : Nat → Prop} {w w1 wr : World} {b2 p : Nat} {B : Option Addr} {d : Nat} {A : Option Addr} {c : Nat} {ks : List ByteArray} {css : List (List Value)} {js : List JV} {TV : TypeId} {zs : List Value} (h : RbS (fun i => D i ∨ w1.heap.size ≤ i) w1 wr p B d A c ks css js) (hD : ∀ i, D i → i < w.heap.size) (h1 : Keeps (fun _ => False) w w1)
  (hlo : w.heap.size ≤ b2) (hhi : b2 < w1.heap.size) (hbb : Blk wr b2 TV zs) :
  Blk (wr.setRow b2 #[.int .i64 6, .bool false, .int .u64 0, .string .empty, .slice A ks.length c, .slice B ks.length d]) b2 TV [.int .i64 6, .bool false, .int .u64 0, .string .empty, .slice A ks.length c, .slice B ks.length d] ∧
  MadePost D w (.obj ks js) (.returned (.agg #[.int .i64 6, .bool false, .int .u64 0, .string .empty, .slice A ks.length c, .slice B ks.length d])) (wr.setRow b2 #[.int .i64 6, .bool false, .int .u64 0, .string .empty, .slice A ks.length c, .slice B ks.length d]) := by
 have hk := setRow_keep wr b2 #[.int .i64 6, .bool false, .int .u64 0, .string .empty, .slice A ks.length c, .slice B ks.length d]
 have hwr := h1.trans h.two.hold (fun _ _ h => h)
 have hr : RAt (fun i => D i ∨ w1.heap.size ≤ i) wr (refC (.obj ks js) A c B d) (.obj ks js) := by
  have hA := MineS.rdS h.two.two.b
  have hA2 := MineS.inB h.two.two.b
  rw [← h.len] at hA hA2
  exact RAt.of (.obj ks js) (h.lst.mono fun i hi _ => hi.1) hA (hA2.mono fun i hi => .inr hi) (MineS.rd h.two.two.a) ((MineS.inB h.two.two.a).mono fun i hi => .inr hi)
 have hcs : refC (.obj ks js) A c B d = [.int .i64 6, .bool false, .int .u64 0, .string .empty, .slice A ks.length c, .slice B ks.length d] := by
  show [Value.int .i64 6, .bool false, .int .u64 0, .string .empty, .slice A js.length c, .slice B ks.length d] = _
  rw [h.len]
 rw [hcs] at hr
 refine ⟨hbb.setRow _, _, rfl, (hr.keep hk fun i hi e => ?_).mono fun i hi _ => hi.imp id fun h => Nat.le_trans h1.size h, hwr.trans hk fun i hi e => by omega⟩
 rcases hi with h2 | h2
 ·have := hD i h2; omega
 ·omega
def OSamePost (w : World) (o1 o2 : Option JV) (e : Ending) (w' : World) : Prop := ∃ b, e = .returned (.bool b) ∧ (b = true ↔ o1 = o2) ∧ Keeps (fun _ => False) w w'
theorem osort_zero {o : Option JV} (h : osort o = 0) : o = none := by
 cases o with
 | none => rfl
 | some j => cases j <;> exact absurd h (by simp [osort, JV.sort])
theorem rsame18_any {D E : Nat → Prop} (w : World) (v v2 : List Value) (o1 o2 : Option JV) (h : ORAt D w v o1) (h2 : ORAt E w v2 o2) (hok : ∀ j, o1 = some j → JOk j ∧ j.nodes ≤ 1048576) :
  Calls Tryz.prog 39 #[.agg v.toArray, .agg v2.toArray] w (OSamePost w o1 o2) := by
 obtain ⟨z, hz⟩ : ∃ z, z = osort o1 := ⟨_, rfl⟩
 obtain ⟨z2, hz2⟩ : ∃ z, z = osort o2 := ⟨_, rfl⟩
 have HSV := Lib.hid (infoV h.len)
 have HSU := Lib.hid (infoV h2.len)
 have hB0 : Box2V w ((w.alloc (.cells v.toArray 31)).alloc (.cells v2.toArray 31)) w.heap.size (w.heap.size + 1) v v2 := by
  have h1 := Blk.new w 31 v
  have h2 := Blk.new (w.alloc (.cells v.toArray 31)) 31 v2
  rw [World.size_alloc] at h2
  exact ⟨((Keeps.refl _ w).alloc _).alloc _, h1.alloc _, h2⟩
 have HB0 := Lib.hid hB0
 have HH := Lib.hid (And.intro h h2)
 have HZ := Lib.hid (And.intro hz hz2)
 have HCZ : Hid (v[0]? = some (.int .i64 z) ∧ v2[0]? = some (.int .i64 z2)) := Lib.hid (by
  obtain ⟨u1, u2, u3, A, na, c, B, nb, d, hv⟩ := h.six
  obtain ⟨t1, t2, t3, A2, na2, c2, B2, nb2, d2, hv2⟩ := h2.six
  rw [hv, hv2, hz, hz2]; exact ⟨rfl, rfl⟩)
 have HSA : Hid (∀ W, Keeps (fun _ => False) w W → z ≠ 0 → z2 ≠ 0 → Calls Tryz.prog 68 #[.agg v.toArray, .agg v2.toArray] W fun e w' => ∃ b, e = .returned (.bool b) ∧ Hid ((b = true ↔ o1 = o2) ∧ Keeps (fun _ => False) w w')) := Lib.hid fun W hW n1 n2 => by
  cases o1 with
  | none => exact absurd hz n1
  | some j => cases o2 with
   | none => exact absurd hz2 n2
   | some k =>
    refine (rsame_any j (hok j rfl).1 (hok j rfl).2 k D E W v v2 (RAt.stay h hW) (RAt.stay h2 hW)).mono ?_
    rintro e w' ⟨b, he, hb, hk⟩
    exact ⟨b, he, Lib.hid ⟨hb.trans ⟨fun h => by rw [h], fun h => by injection h⟩, hW.trans hk fun _ _ h => h⟩⟩
 clear h h2 hok hz hz2 hB0
 obtain ⟨b1, hb1⟩ : ∃ b, b = w.heap.size := ⟨_, rfl⟩
 obtain ⟨b2, hb2⟩ : ∃ b, b = w.heap.size + 1 := ⟨_, rfl⟩
 go_enter Tryz.func39, Tryz.ntmps39
 go_upto_region 1 with fail
 rw [← hb2, ← hb1] at HB0
 rw [← hb2, ← hb1]
 clear hb1 hb2
 refine gen_codeF (fun W => Box2V w W b1 b2 v v2) HB0.out ?_
 intro w1 hbx
 have x0 : w1.cell? ⟨b1, 0, none⟩ = some (.int .i64 z) := (hbx.k1.cell 0).trans HCZ.out.1
 have y0 : w1.cell? ⟨b2, 0, none⟩ = some (.int .i64 z2) := (hbx.k2.cell 0).trans HCZ.out.2
 have HBX := Lib.hid hbx
 clear hbx HB0
 by_cases h0 : z = 0
 ·subst h0
  have HO1 : Hid (o1 = none) := Lib.hid (osort_zero HZ.out.1.symm)
  obtain ⟨q, hq⟩ : ∃ q, q = ((0 : Int) == z2) := ⟨_, rfl⟩
  have HQ := Lib.hid hq
  have hq2 : ((0 : Int) == z2) = q := hq.symm
  clear hq
  go_wp2
  go_ret
  refine ⟨q, rfl, ?_, HBX.out.keep⟩
  rw [HQ.out, beq_iff_eq, HO1.out]
  exact ⟨fun h => (osort_zero (HZ.out.2.symm.trans h.symm)).symm, fun h => by rw [HZ.out.2, ← h]; rfl⟩
 ·have q0 : (z == 0) = false := by simpa using h0
  by_cases h1 : z2 = 0
  ·subst h1
   have HO2 : Hid (o2 = none) := Lib.hid (osort_zero HZ.out.2.symm)
   have HN0 : Hid (z ≠ 0) := Lib.hid h0
   clear h0
   go_wp2
   go_ret
   refine ⟨false, rfl, ⟨fun h => (by cases h), fun h => ?_⟩, HBX.out.keep⟩
   exact absurd (by rw [HZ.out.1, h, HO2.out]; rfl) HN0.out
  ·have q1 : (z2 == 0) = false := by simpa using h1
   have HSB := Lib.hid fun W hW => HSA.out W hW h0 h1
   clear h0 h1 HSA
   go_wp2_with (first
    | ((with_reducible show wpList _ _ _ (⟨some 18, _, _, _, _, _⟩ :: _) _ _); refine wpList_load_whole rfl 31 _ rfl _ rfl HBX.out.k1 Tryz.underlying31 rfl HSV.out ?_)
    | ((with_reducible show wpList _ _ _ (⟨some 19, _, _, _, _, _⟩ :: _) _ _); refine wpList_load_whole rfl 31 _ rfl _ rfl HBX.out.k2 Tryz.underlying31 rfl HSU.out ?_)
    | (go_at_call 68; refine (HSB.out _ HBX.out.keep).mono ?_; rintro e w3 ⟨b, rfl, H3⟩))
   go_ret
   exact ⟨b, rfl, H3.out⟩
end Go.Proofs.YtdmcioghdindfaaGreatDoor
namespace Go.Aff
open Go
section
variable {P : Program} {ops : Array Oper} {Q : Exit → Act → World → Prop} {md : Region.Mode}
def actsOf (a : Act) (D : List Nat) (f : Nat → Value) : Act := match D with
 | [] => a
 | d :: D => (actsOf a D f).put (some d) (f d)
def updV (f : Nat → Value) (o : Option Nat) (v : Value) : Nat → Value := match o with
 | none => f
 | some d => fun k => if k = d then v else f k
theorem updV_at {f : Nat → Value} {d : Nat} {v : Value} : updV f (some d) v d = v := if_pos rfl
theorem updV_ne {f : Nat → Value} {d k : Nat} {v : Value} (h : k ≠ d) : updV f (some d) v k = f k := if_neg h
theorem put_put (a : Act) (d : Nat) (v u : Value) : (a.put (some d) v).put (some d) u = a.put (some d) u := by
 simp only [Act.put, Array.setIfInBounds_setIfInBounds]
theorem actsOf_congr (a : Act) {f g : Nat → Value} : ∀ {D : List Nat}, (∀ d ∈ D, f d = g d) → actsOf a D f = actsOf a D g
 | [], _ => rfl
 | d :: D, h => by
  show (actsOf a D f).put (some d) (f d) = (actsOf a D g).put (some d) (g d)
  rw [actsOf_congr a fun e he => h e (List.mem_cons_of_mem _ he), h d (List.mem_cons_self ..)]
theorem actsOf_put (a : Act) (f : Nat → Value) (v : Value) (d : Nat) : ∀ {D : List Nat}, d ∈ D → D.Nodup → (actsOf a D f).put (some d) v = actsOf a D (updV f (some d) v)
 | e :: D, h, hn => by
  show ((actsOf a D f).put (some e) (f e)).put (some d) v = (actsOf a D (updV f (some d) v)).put (some e) (updV f (some d) v e)
  have hn' := List.nodup_cons.1 hn
  by_cases hde : d = e
  ·subst hde
   rw [put_put, updV_at, actsOf_congr a (f := f) (g := updV f (some d) v) fun k hk => (updV_ne fun e => by subst e; exact hn'.1 hk).symm]
  ·have hm : d ∈ D := (List.mem_cons.1 h).resolve_left hde
   rw [Act.put_comm _ _ _ (fun k hk e => by injection hk with hk; injection e with e; exact hde (e.trans hk.symm)), actsOf_put a f v d hm hn'.2, updV_ne (fun e => hde e.symm)]
theorem actsOf_self (a : Act) : ∀ (D : List Nat), actsOf a D (fun d => a.tmps.getD d undef) = a
 | [] => rfl
 | d :: D => by
  show (actsOf a D _).put (some d) _ = a
  rw [actsOf_self a D]
  unfold Act.put
  show { a with tmps := a.tmps.setIfInBounds d (a.tmps.getD d undef) } = a
  have : a.tmps.setIfInBounds d (a.tmps.getD d undef) = a.tmps := by
   apply Array.ext
   ·simp
   ·intro i h1 h2
    simp only [Array.getElem_setIfInBounds h2]
    split
    ·rename_i hd; subst hd; simp [Array.getD, h2]
    ·rfl
  rw [this]
def AllStepsI (P : Program) (md : Region.Mode) (ops : Array Oper) (Q : Exit → Act → World → Prop) (a0 : Act) (D : List Nat) (J : (Nat → Prop) → (Nat → Value) → World → Prop) (rs : List Nat) : Prop :=
 ∀ i ∈ rs, ∀ (done : Nat → Prop) f w, J done f w → ¬ done i → (∀ o, ops[i]? = some o → ∀ e ∈ o.after, Region.binds md e = true → done e.on) → wpOp P ops Q i (fun a' w' => ∃ f', a' = actsOf a0 D f' ∧ J (fun k => done k ∨ k = i) f' w') (actsOf a0 D f) w
theorem AllStepsI.nil {a0 : Act} {D : List Nat} {J : (Nat → Prop) → (Nat → Value) → World → Prop} : AllStepsI P md ops Q a0 D J [] := fun _ h => by cases h
theorem AllStepsI.cons {a0 : Act} {D : List Nat} {J : (Nat → Prop) → (Nat → Value) → World → Prop} {i : Nat} {o : Oper} {rs : List Nat} (pre : List Nat) (hD : D.Nodup) (ho : ops[i]? = some o) (hdd : (match o.dst with | some d => D.contains d | none => true) = true) (hp : (pre.all fun k => o.after.any fun e => Region.binds md e && (e.on == k)) = true)
  (h : ∀ (done : Nat → Prop) f w, J done f w → ¬ done i → (∀ k ∈ pre, done k) → ∀ a, a = actsOf a0 D f → ∀ K' : Act → World → Prop, Shut (∀ v w', J (fun k => done k ∨ k = i) (updV f o.dst v) w' → K' (a.put o.dst v) w') → if Region.wanted o (yielded ops a.tmps) = true then Oper.wp P o a w K' Q else K' (a.put o.dst undef) w)
  (hs : AllStepsI P md ops Q a0 D J rs) : AllStepsI P md ops Q a0 D J (i :: rs) := fun j hj done f w hJ hn hpre => by
 rcases List.mem_cons.1 hj with rfl | hj
 ·refine wpOp_step ho fun K' hK => h done f w hJ hn (fun k hk => ?_) _ rfl K' fun v w' hJ' => hK _ _ ⟨updV f o.dst v, ?_, hJ'⟩
  ·have h1 := List.all_eq_true.1 hp k hk
   obtain ⟨e, he, h2⟩ := Array.any_eq_true'.1 h1
   simp only [Bool.and_eq_true, beq_iff_eq] at h2
   rw [← h2.2]
   exact hpre o ho e he h2.1
  ·cases hd : o.dst with
   | none => rfl
   | some d =>
    rw [hd] at hdd
    exact actsOf_put a0 f v d (by simpa using hdd) hD
 ·exact hs j hj done f w hJ hn hpre
theorem count_set_list : ∀ (l : List Bool) (i : Nat), l[i]? = some false → (l.set i true).count false + 1 ≤ l.count false
 | [], i, h => by simp at h
 | b :: l, 0, h => by simp at h; subst h; simp
 | b :: l, i + 1, h => by
  have := count_set_list l i (by simpa using h)
  simp only [List.set_cons_succ, List.count_cons]
  omega
theorem getD_lt {L : Array Bool} {i : Nat} {b : Bool} (h : i < L.size) : L.getD i b = L[i] := by simp [Array.getD, h]
theorem count_set {L : Array Bool} {i : Nat} (h : L.getD i true = false) : (L.setIfInBounds i true).toList.count false + 1 ≤ L.toList.count false := by
 have hi : i < L.size := by
  by_cases hi : i < L.size
  ·exact hi
  ·simp [Array.getD, hi] at h
 rw [Array.toList_setIfInBounds]
 refine count_set_list _ _ ?_
 rw [getD_lt hi] at h
 rw [Array.getElem?_toList, Array.getElem?_eq_getElem hi, h]
theorem wpAnyH_inv0 {S : World → Prop} {a0 : Act} {D : List Nat} {J : (Nat → Prop) → (Nat → Value) → World → Prop} (is : List Nat) (hord : ((List.range ops.size).all fun i => match ops[i]? with | some o => o.after.all fun e => !(Region.binds md e) || decide (e.on < i) | none => true) = true)
  (hJS : ∀ done f w, J done f w → S w) (hsteps : AllStepsI P md ops Q a0 D J is) (hend : ∀ (done : Nat → Prop) f w, J done f w → (∀ k, k < ops.size → done k) → Q .normal (actsOf a0 D f) w) :
  ∀ (fuel : Nat) (L : Array Bool), L.size = ops.size → (∀ j, j < ops.size → j ∉ is → L.getD j true = true) → ∀ f w, J (fun k => L.getD k false = true) f w → L.toList.count false ≤ fuel → wpAnyH P md ops Q S fuel L (actsOf a0 D f) w := by
 have hall : ∀ (L : Array Bool), L.size = ops.size → Region.ready md ops L = [] → ∀ k, k < ops.size → L.getD k false = true := fun L hsz hr k => by
  induction k using Nat.strongRecOn with
  | _ k ih =>
   intro hk
   have hkL : k < L.size := by rw [hsz]; exact hk
   rw [getD_lt hkL]
   cases hb : L[k] with
   | true => rfl
   | false =>
    have hin : k ∈ Region.ready md ops L := mem_ready.2 ⟨by rw [getD_lt hkL]; exact hb, ops[k], Array.getElem?_eq_getElem hk, fun e he hb => by
     have h1 := List.all_eq_true.1 hord k (List.mem_range.2 hk)
     simp only [Array.getElem?_eq_getElem hk] at h1
     have h3 := Array.all_eq_true'.1 h1 e he
     rw [hb] at h3
     have h2 : e.on < k := by simpa using h3
     exact ih e.on h2 (by omega)⟩
    rw [hr] at hin
    cases hin
 intro fuel
 induction fuel with
 | zero =>
  intro L hsz hL f w hJ hc
  have hr : Region.ready md ops L = [] := by
   cases hr : Region.ready md ops L with
   | nil => rfl
   | cons i rs =>
    have hi : i ∈ Region.ready md ops L := by rw [hr]; exact List.mem_cons_self ..
    have := count_set (mem_ready.1 hi).1
    omega
  exact ⟨hr, hend _ f w hJ (hall L hsz hr)⟩
 | succ fuel ih =>
  intro L hsz hL f w hJ hc
  refine ⟨fun hr => hend _ f w hJ (hall L hsz hr), fun i hi => ?_⟩
  obtain ⟨h1, o, ho, h2⟩ := mem_ready.1 hi
  have hio : i < ops.size := (Array.getElem?_eq_some_iff.1 ho).1
  have hiL : i < L.size := by rw [hsz]; exact hio
  have hii : i ∈ is := Classical.byContradiction fun h => by rw [hL i hio h] at h1; cases h1
  have hnd : ¬ (L.getD i false = true) := by rw [getD_lt hiL]; rw [getD_lt hiL] at h1; rw [h1]; decide
  refine wpOp_mono (fun a' w' h => ?_) (hsteps i hii (fun k => L.getD k false = true) f w hJ hnd (fun o' ho' e he hb => by
   rw [ho] at ho'; injection ho' with ho'; subst ho'
   exact h2 e he hb))
  obtain ⟨f', rfl, hJ'⟩ := h
  refine ⟨hJS _ _ _ hJ', ih _ (by simp [hsz]) (fun j hj hn => ?_) f' w' ?_ (by have := count_set h1; omega)⟩
  ·have := hL j hj hn
   have hjL : j < (L.setIfInBounds i true).size := by simp [hsz]; exact hj
   rw [getD_lt hjL, Array.getElem_setIfInBounds (by rw [hsz]; exact hj)]
   split
   ·rfl
   ·rw [getD_lt (by rw [hsz]; exact hj)] at this; exact this
  ·have he : (fun k => (L.setIfInBounds i true).getD k false = true) = fun k => L.getD k false = true ∨ k = i := by
    funext k
    apply propext
    by_cases hk : k < L.size
    ·rw [getD_lt (by simp; exact hk), getD_lt hk, Array.getElem_setIfInBounds hk]
     split
     ·rename_i e; subst e; simp
     ·rename_i e
      exact ⟨.inl, fun h => h.resolve_right fun h => e h.symm⟩
    ·have h3 : (L.setIfInBounds i true).getD k false = false := by simp [Array.getD, hk]
     have h4 : L.getD k false = false := by simp [Array.getD, hk]
     rw [h3, h4]
     refine ⟨fun h => (by cases h), fun h => ?_⟩
     rcases h with h | h
     ·cases h
     ·subst h; exact absurd hiL hk
   rw [he]
   exact hJ'
theorem wpAnyH_inv {S : World → Prop} {fuel : Nat} {L : Array Bool} {a : Act} {w : World} (D : List Nat) (J : (Nat → Prop) → (Nat → Value) → World → Prop) (is : List Nat) (hord : ((List.range ops.size).all fun i => match ops[i]? with | some o => o.after.all fun e => !(Region.binds md e) || decide (e.on < i) | none => true) = true)
  (hsz : L.size = ops.size) (hL : ((List.range ops.size).all fun j => is.contains j || L.getD j true) = true) (hc : L.toList.count false ≤ fuel) (hJS : ∀ done f w, J done f w → S w)
  (hL0 : (is.all fun k => !(L.getD k false)) = true) (h0 : ∀ (done : Nat → Prop) f, (∀ k ∈ is, ¬ done k) → J done f w) (hend : ∀ (done : Nat → Prop) f w, J done f w → (∀ k, k < ops.size → done k) → Q .normal (actsOf a D f) w) (hsteps : AllStepsI P md ops Q a D J is) : wpAnyH P md ops Q S fuel L a w := by
 have h := wpAnyH_inv0 (P := P) (ops := ops) (Q := Q) (md := md) is hord hJS hsteps hend fuel L hsz (fun j hj hn => by
  have h1 := List.all_eq_true.1 hL j (List.mem_range.2 hj)
  rcases Bool.or_eq_true_iff.1 h1 with h1 | h1
  ·exact absurd (by simpa using h1) hn
  ·exact h1) (fun d => a.tmps.getD d undef) w (h0 _ _ fun k hk e => by
  have h1 := List.all_eq_true.1 hL0 k hk
  rw [e] at h1
  cases h1) hc
 rw [actsOf_self] at h
 exact h
end
end Go.Aff
namespace Go.Proofs.YtdmcioghdindfaaGreatDoor
open Go Go.RowKit Go.Aff Go.Json
structure TwoJ (D : Nat → Prop) (wr : World) (i1 i2 a1 a2 s1 s2 t1 t2 d1 d2 : Nat) (ou oy : Option JV) (done : Nat → Prop) (f : Nat → Value) (w : World) : Prop where
 keep : Keeps (fun _ => False) wr w
 c1 : done i1 → ∃ X : List Value, f t1 = .agg X.toArray ∧ ORAt D w X ou
 c2 : done i2 → ∃ Y : List Value, f t2 = .agg Y.toArray ∧ ORAt D w Y oy
 v1 : done a1 → ∃ p cs, f d1 = .pointer (some ⟨p, 0, none⟩) ∧ Blk w p 31 cs ∧ wr.heap.size ≤ p ∧ cs.length = 6 ∧ (done s1 → f t1 = .agg cs.toArray)
 v2 : done a2 → ∃ p cs, f d2 = .pointer (some ⟨p, 0, none⟩) ∧ Blk w p 31 cs ∧ wr.heap.size ≤ p ∧ cs.length = 6 ∧ (done s2 → f t2 = .agg cs.toArray)
 ne : done a1 → done a2 → f d1 ≠ f d2
 o1 : done s1 → done i1 ∧ done a1
 o2 : done s2 → done i2 ∧ done a2
section
variable {D : Nat → Prop} {wr w w' : World} {i1 i2 a1 a2 s1 s2 t1 t2 d1 d2 : Nat} {ou oy : Option JV} {done : Nat → Prop} {f : Nat → Value}
theorem TwoJ.start (k : Keeps (fun _ => False) wr w) (h : ∀ k ∈ [i1, i2, a1, a2, s1, s2], ¬ done k) : TwoJ D wr i1 i2 a1 a2 s1 s2 t1 t2 d1 d2 ou oy done f w :=
 ⟨k, fun e => absurd e (h _ (by simp)), fun e => absurd e (h _ (by simp)), fun e => absurd e (h _ (by simp)), fun e => absurd e (h _ (by simp)), fun e => absurd e (h _ (by simp)), fun e => absurd e (h _ (by simp)), fun e => absurd e (h _ (by simp))⟩
theorem TwoJ.swap (h : TwoJ D wr i1 i2 a1 a2 s1 s2 t1 t2 d1 d2 ou oy done f w) : TwoJ D wr i2 i1 a2 a1 s2 s1 t2 t1 d2 d1 oy ou done f w := ⟨h.keep, h.c2, h.c1, h.v2, h.v1, fun x y e => h.ne y x e.symm, h.o2, h.o1⟩
theorem TwoJ.stay (h : TwoJ D wr i1 i2 a1 a2 s1 s2 t1 t2 d1 d2 ou oy done f w) (k : Keeps (fun _ => False) w w') : TwoJ D wr i1 i2 a1 a2 s1 s2 t1 t2 d1 d2 ou oy done f w' :=
 ⟨h.keep.trans k fun _ _ h => h, fun e => (h.c1 e).imp fun X hX => ⟨hX.1, hX.2.stay k⟩, fun e => (h.c2 e).imp fun X hX => ⟨hX.1, hX.2.stay k⟩, fun e => by
  obtain ⟨p, cs, h1, h2, h3⟩ := h.v1 e
  exact ⟨p, cs, h1, k.blk h2 (fun h => h), h3⟩, fun e => by
  obtain ⟨p, cs, h1, h2, h3⟩ := h.v2 e
  exact ⟨p, cs, h1, k.blk h2 (fun h => h), h3⟩, h.ne, h.o1, h.o2⟩
theorem TwoJ.got (h : TwoJ D wr i1 i2 a1 a2 s1 s2 t1 t2 d1 d2 ou oy done f w) (k : Keeps (fun _ => False) w w') {X : List Value} (hX : ORAt D w' X ou) (hn : ¬ done i1) (hi : ∀ q ∈ [i2, a1, a2, s1, s2], q ≠ i1) (ht : ∀ q ∈ [t2, d1, d2], q ≠ t1) :
  TwoJ D wr i1 i2 a1 a2 s1 s2 t1 t2 d1 d2 ou oy (fun q => done q ∨ q = i1) (updV f (some t1) (.agg X.toArray)) w' := by
 have h' := h.stay k
 refine ⟨h'.keep, fun _ => ⟨X, updV_at, hX⟩, fun e => ?_, fun e => ?_, fun e => ?_, fun e1 e2 => ?_, fun e => ?_, fun e => ?_⟩
 ·rw [updV_ne (ht _ (by simp))]; exact h'.c2 (e.resolve_right (hi _ (by simp)))
 ·rw [updV_ne (ht _ (by simp))]
  obtain ⟨p, cs, g1, g2, g3, g4, g5⟩ := h'.v1 (e.resolve_right (hi _ (by simp)))
  exact ⟨p, cs, g1, g2, g3, g4, fun e => absurd (h.o1 (e.resolve_right (hi _ (by simp)))).1 hn⟩
 ·rw [updV_ne (ht _ (by simp)), updV_ne (ht _ (by simp))]
  obtain ⟨p, cs, g1, g2, g3, g4, g5⟩ := h'.v2 (e.resolve_right (hi _ (by simp)))
  exact ⟨p, cs, g1, g2, g3, g4, fun e => g5 (e.resolve_right (hi _ (by simp)))⟩
 ·rw [updV_ne (ht _ (by simp)), updV_ne (ht _ (by simp))]; exact h'.ne (e1.resolve_right (hi _ (by simp))) (e2.resolve_right (hi _ (by simp)))
 ·have := h'.o1 (e.resolve_right (hi _ (by simp))); exact ⟨.inl this.1, .inl this.2⟩
 ·have := h'.o2 (e.resolve_right (hi _ (by simp))); exact ⟨.inl this.1, .inl this.2⟩
theorem TwoJ.made (h : TwoJ D wr i1 i2 a1 a2 s1 s2 t1 t2 d1 d2 ou oy done f w) {zs : List Value} (hz : zs.length = 6) (hn : ¬ done a1) (hi : ∀ q ∈ [i1, i2, a2, s1, s2], q ≠ a1) (ht : ∀ q ∈ [t1, t2, d2], q ≠ d1) :
  TwoJ D wr i1 i2 a1 a2 s1 s2 t1 t2 d1 d2 ou oy (fun q => done q ∨ q = a1) (updV f (some d1) (.pointer (some ⟨w.heap.size, 0, none⟩))) (w.alloc (.cells zs.toArray 31)) := by
 have h' := h.stay ((Keeps.refl _ w).alloc (.cells zs.toArray 31))
 refine ⟨h'.keep, fun e => ?_, fun e => ?_, fun _ => ?_, fun e => ?_, fun e1 e2 => ?_, fun e => ?_, fun e => ?_⟩
 ·rw [updV_ne (ht _ (by simp))]; exact h'.c1 (e.resolve_right (hi _ (by simp)))
 ·rw [updV_ne (ht _ (by simp))]; exact h'.c2 (e.resolve_right (hi _ (by simp)))
 ·exact ⟨_, zs, updV_at, Blk.new _ _ _, h.keep.size, hz, fun e => absurd (h.o1 (e.resolve_right (hi _ (by simp)))).2 hn⟩
 ·rw [updV_ne (ht _ (by simp)), updV_ne (ht _ (by simp))]
  obtain ⟨p, cs, g1, g2, g3, g4, g5⟩ := h'.v2 (e.resolve_right (hi _ (by simp)))
  exact ⟨p, cs, g1, g2, g3, g4, fun e => g5 (e.resolve_right (hi _ (by simp)))⟩
 ·rw [updV_at, updV_ne (ht _ (by simp))]
  obtain ⟨p, cs, g1, g2, _⟩ := h.v2 (e2.resolve_right (hi _ (by simp)))
  rw [g1]
  intro e
  injection e with e
  injection e with e
  injection e with e
  have := g2.lt
  omega
 ·have := h'.o1 (e.resolve_right (hi _ (by simp))); exact ⟨.inl this.1, .inl this.2⟩
 ·have := h'.o2 (e.resolve_right (hi _ (by simp))); exact ⟨.inl this.1, .inl this.2⟩
theorem TwoJ.put (h : TwoJ D wr i1 i2 a1 a2 s1 s2 t1 t2 d1 d2 ou oy done f w) (hD : ∀ q, D q → q < wr.heap.size) {p : Nat} {X : List Value} (hp : f d1 = .pointer (some ⟨p, 0, none⟩)) (hX : f t1 = .agg X.toArray) (h5 : done i1) (h12 : done a1) (hi : ∀ q ∈ [i1, i2, a1, a2, s2], q ≠ s1) :
  TwoJ D wr i1 i2 a1 a2 s1 s2 t1 t2 d1 d2 ou oy (fun q => done q ∨ q = s1) f (w.setRow p X.toArray) := by
 have k := setRow_keep w p X.toArray
 obtain ⟨p', cs, e1, hb, hlo, hl, _⟩ := h.v1 h12
 have hpp : p' = p := by rw [hp] at e1; injection e1 with e1; injection e1 with e1; injection e1 with e1; exact e1.symm
 subst hpp
 obtain ⟨X', e2, hx⟩ := h.c1 h5
 have hXX : X' = X := by rw [hX] at e2; injection e2 with e2; exact (List.toArray_inj e2).symm
 subst hXX
 refine ⟨h.keep.trans k fun q hq e => by omega, fun _ => ⟨X', e2, hx.keep k fun q hq e => by have := hD q hq; omega⟩, fun e => ?_, fun _ => ⟨p', X', hp, hb.setRow X', hlo, hx.len, fun _ => hX⟩, fun e => ?_, fun e1 e2 => h.ne (e1.resolve_right (hi _ (by simp))) (e2.resolve_right (hi _ (by simp))), fun e => ⟨.inl h5, .inl h12⟩, fun e => ?_⟩
 ·obtain ⟨Y, e3, hy⟩ := h.c2 (e.resolve_right (hi _ (by simp)))
  exact ⟨Y, e3, hy.keep k fun q hq e => by have := hD q hq; omega⟩
 ·obtain ⟨q, ds, g1, g2, g3, g4, g5⟩ := h.v2 (e.resolve_right (hi _ (by simp)))
  refine ⟨q, ds, g1, k.blk g2 fun e => ?_, g3, g4, fun e => g5 (e.resolve_right (hi _ (by simp)))⟩
  subst e
  have := h.ne h12 (e.resolve_right (hi _ (by simp)))
  rw [hp, g1] at this
  exact this rfl
 ·have := h.o2 (e.resolve_right (hi _ (by simp))); exact ⟨.inl this.1, .inl this.2⟩
end
end Go.Proofs.YtdmcioghdindfaaGreatDoor
