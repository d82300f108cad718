/- Texts. -/
import Derived.Test.YtdmcioghdindfaaGreatDoorT26
set_option linter.unusedSimpArgs false
set_option maxRecDepth 100000
set_option maxHeartbeats 4000000
namespace Go.Aff
open Go Go.RowKit
theorem fold_off (off : Nat) (vs : List Value) : ∀ (j : Nat) (cs : Array Value), List.foldl (fun (cs : Array Value) (x : Value × Nat) => cs.setIfInBounds (off + x.snd) x.fst) cs (vs.zipIdx j) = List.foldl (fun (cs : Array Value) (x : Value × Nat) => cs.setIfInBounds x.snd x.fst) cs (vs.zipIdx (off + j)) := by
 induction vs with
 | nil => intro j cs; rfl
 | cons v vs ih =>
  intro j cs
  rw [List.zipIdx_cons, List.zipIdx_cons, List.foldl_cons, List.foldl_cons, ih (j + 1)]
  rfl
theorem fill_rows (sz : Nat) : ∀ (rows : List (List Value)) (k : Nat) (pre post : List Value), (∀ r ∈ rows, r.length = sz) → pre.length = k * sz → post.length = rows.length * sz →
  Instr.fill (fun i => some (i * sz, sz)) (pre ++ post).toArray ((rows.zipIdx k).map fun p => (p.2, .agg p.1.toArray)) = some (pre ++ rows.flatten).toArray
 | [], k, pre, post, _, hp, hq => by
  have : post = [] := List.eq_nil_of_length_eq_zero (by rw [hq]; simp)
  subst this
  simp [Instr.fill]
 | r :: rows, k, pre, post, hr, hp, hq => by
  have hl := hr r (List.mem_cons_self ..)
  have hq' : post.length = rows.length * sz + sz := by rw [hq, List.length_cons, Nat.succ_mul]
  have hf : List.foldl (fun (cs : Array Value) (x : Value × Nat) => cs.setIfInBounds (k * sz + x.snd) x.fst) (pre ++ post).toArray r.zipIdx = ((pre ++ r) ++ post.drop sz).toArray := by
   rw [fold_off, Nat.add_zero, fold_zipB r (k * sz) (pre ++ post).toArray (by simp; omega)]
   congr 1
   have e1 : (pre ++ post).take (k * sz) = pre := by rw [← hp, List.take_left]
   have e2 : (pre ++ post).drop (k * sz + r.length) = post.drop sz := by rw [← hp, List.drop_length_add_append, hl]
   show (pre ++ post).take (k * sz) ++ r ++ (pre ++ post).drop (k * sz + r.length) = _
   rw [e1, e2]
  rw [List.zipIdx_cons, List.map_cons]
  have hcs : (Value.agg r.toArray).cells = r.toArray := rfl
  show (match some (k * sz, sz) with
   | none => none
   | some (off, size) => if (Value.agg r.toArray).cells.size ≠ size || off + (Value.agg r.toArray).cells.size > (pre ++ post).toArray.size then none
    else Instr.fill (fun i => some (i * sz, sz)) ((Value.agg r.toArray).cells.zipIdx.foldl (fun cs (x : Value × Nat) => cs.setIfInBounds (off + x.2) x.1) (pre ++ post).toArray) ((rows.zipIdx (k + 1)).map fun (p : List Value × Nat) => (p.2, Value.agg p.1.toArray))) = _
  rw [hcs]
  simp only []
  have h1 : r.toArray.size = sz := by simp [hl]
  have h2 : ¬ k * sz + sz > (pre ++ post).toArray.size := by simp; omega
  rw [h1]
  simp only [ne_eq, not_true_eq_false, decide_false, Bool.false_or, decide_eq_true_eq, h2, if_false]
  rw [← Array.foldl_toList, Array.toList_zipIdx, hf, fill_rows sz rows (k + 1) (pre ++ r) (post.drop sz) (fun x hx => hr x (List.mem_cons_of_mem _ hx)) (by rw [List.length_append, hp, hl, Nat.succ_mul]) (by rw [List.length_drop, hq']; omega)]
  simp
section
variable {P : Program}
theorem run_boxes (w : World) (t e : TypeId) (z : Value) (sz n : Nat) (ht : P.underlying t = some (.slice e)) (hinfo : (P.info? e).map (fun i => (i.zero, i.size)) = some (some z, sz)) (hpos : 0 < n * sz) (hsm : n * sz ≤ 16777216) (rows : List (List Value)) (hn : rows.length = n) (hl : ∀ r ∈ rows, r.length = sz) :
  (Instr.buildSlice t n ((rows.zipIdx).map fun p => (p.2, Value.agg p.1.toArray)).toArray).run P w = .ok (.slice (some ⟨w.heap.size, 0, none⟩) n n) (w.alloc (.cells rows.flatten.toArray e)) := by
 obtain ⟨i, hi, hzi⟩ := Option.map_eq_some_iff.1 hinfo
 simp only [Prod.mk.injEq] at hzi
 refine run_buildSlice w t e n _ rows.flatten.toArray i z ht hi hzi.1 (by rw [hzi.2]; omega) (by rw [hzi.2]; omega) ?_
 rw [hzi.2]
 have h := fill_rows sz rows 0 [] (((Array.range (n * sz)).map (z.cells[· % z.cells.size]!)).toList) hl (by simp) (by simp [hn])
 rw [List.nil_append, List.nil_append, Array.toArray_toList] at h
 exact h
theorem wpList_box3_S (w : World) {ops : Array Oper} {rest : List Oper} {o : Oper} {a : Act} {Q : Exit → Act → World → Prop} (hgd : o.guard = none) (t e : TypeId) (x y u : Operand) (ho : o.op = .buildSlice t 3 #[(0, x), (1, y), (2, u)])
  (z : Value) (sz : Nat) (ht : P.underlying t = some (.slice e)) (hinfo : (P.info? e).map (fun i => (i.zero, i.size)) = some (some z, sz)) (hpos : 0 < sz) (hsm : 3 * sz ≤ 16777216) (SX SY SU : List Value) (hl : SX.length = sz) (hl2 : SY.length = sz) (hl3 : SU.length = sz) (hx : a.eval x = .agg SX.toArray) (hy : a.eval y = .agg SY.toArray) (hu : a.eval u = .agg SU.toArray)
  (h : wpList P ops Q rest (a.put o.dst (.slice (some ⟨w.heap.size, 0, none⟩) 3 3)) (w.alloc (.cells (SX ++ SY ++ SU).toArray e))) : wpList P ops Q (o :: rest) a w :=
 wpList_plain hgd fun K hK => by
  have hr := run_boxes (P := P) w t e z sz 3 ht hinfo (by omega) hsm [SX, SY, SU] rfl (by intro r hr; simp at hr; rcases hr with rfl | rfl | rfl <;> assumption)
  have e1 : [SX, SY, SU].flatten = SX ++ SY ++ SU := by simp
  rw [e1] at hr
  unfold Oper.wp execOp
  simp only [ho, Sem.run_bind, List.map_toArray, List.map_cons, List.map_nil, hx, hy, hu]
  have e2 : (([SX, SY, SU].zipIdx).map fun p => (p.2, Value.agg p.1.toArray)).toArray = #[(0, .agg SX.toArray), (1, .agg SY.toArray), (2, .agg SU.toArray)] := rfl
  rw [e2] at hr
  simp only [hr, Result.andThen_ok]
  exact hK _ _ h
end
end Go.Aff
namespace Go.Proofs.YtdmcioghdindfaaGreatDoor
open Go Go.RowKit Go.Aff Go.Json
attribute [local go_sem] Oper.semAt_some
def Rb_ (D : Nat → Prop) (b : Nat) (B A : Value) (k : Nat) : Prop := D k ∧ k ≠ b ∧ B.ownBlock ≠ some k ∧ A.ownBlock ≠ some k
structure RbS (D : Nat → Prop) (w0 w : World) (b : Nat) (B : Option Addr) (d : Nat) (A : Option Addr) (c : Nat) (ks : List ByteArray) (css : List (List Value)) (js : List JV) : Prop where
 two : BoxTwo w0 w b 31 [.int .i64 6, .bool false, .int .u64 0, .string .empty, .slice A ks.length c, .slice B ks.length d] 9 1 B ks.length d (ks.map .string) 31 6 A ks.length c css.flatten
 lst : RList (Rb_ D b (.slice B ks.length d) (.slice A ks.length c)) w css js
 len : js.length = ks.length
theorem RbS.stay {D : Nat → Prop} {w0 w w' : World} {b : Nat} {B : Option Addr} {d : Nat} {A : Option Addr} {c : Nat} {ks : List ByteArray} {css : List (List Value)} {js : List JV} (h : RbS D w0 w b B d A c ks css js) (k : Keeps (fun _ => False) w w') : RbS D w0 w' b B d A c ks css js := ⟨h.two.keep k, h.lst.stay k, h.len⟩
structure RlSt (D : Nat → Prop) (w0 w4 wx : World) (p : Nat) (B : Option Addr) (d : Nat) (A : Option Addr) (c : Nat) (ms : List (ByteArray × JV)) (css : List (List Value)) : Prop where
 rb : RbS D w0 wx p B d A c (ms.map (·.1)) css (ms.map (·.2))
 ob : ∀ g, (Value.slice B (ms.map (·.1)).length d).ownBlock = some g → w4.heap.size ≤ g
 oa : ∀ g, (Value.slice A (ms.map (·.1)).length c).ownBlock = some g → w4.heap.size ≤ g
 keep : Keeps (fun i => i = p ∨ w4.heap.size ≤ i) w4 wx
theorem RlSt.stay {D : Nat → Prop} {w0 w4 wx w' : World} {p : Nat} {B : Option Addr} {d : Nat} {A : Option Addr} {c : Nat} {ms : List (ByteArray × JV)} {css : List (List Value)} (h : RlSt D w0 w4 wx p B d A c ms css) (k : Keeps (fun _ => False) wx w') : RlSt D w0 w4 w' p B d A c ms css :=
 ⟨h.rb.stay k, h.ob, h.oa, h.keep.trans k fun _ _ h => h.elim⟩
theorem RlSt.start {D : Nat → Prop} {w0 w4 : World} {p : Nat} (h : RbS D w0 w4 p none 0 none 0 [] [] []) : RlSt D w0 w4 w4 p none 0 none 0 [] [] :=
 ⟨h, fun g e => by simp [Value.ownBlock] at e, fun g e => by simp [Value.ownBlock] at e, Keeps.refl _ _⟩
theorem rl_more {D : Nat → Prop} {w0 w4 W w10 : World} {b n : Nat} {B : Option Addr} {d : Nat} {A : Option Addr} {c : Nat} {ms : List (ByteArray × JV)} {css : List (List Value)} (h : RlSt D w0 w4 W b B d A c ms css) (hn : n = (ms.map (·.1)).length)
  {ky : ByteArray} {cs : List Value} {x : JV} (hx : RAt (Rb_ D b (.slice B n d) (.slice A n c)) W cs x) (hS : Keeps (fun i => (Value.slice B n d).ownBlock = some i ∨ (Value.slice A n c).ownBlock = some i) W w10)
  {B8 : Option Addr} {d8 : Nat} {A10 : Option Addr} {c10 : Nat}
  (hT : BoxTwo w0 w10 b 31 [.int .i64 6, .bool false, .int .u64 0, .string .empty, .slice A n c, .slice B n d] 9 1 B8 (n + 1) d8 ((ms.map (·.1)).map .string ++ [.string ky]) 31 6 A10 (n + 1) c10 (css.flatten ++ cs))
  (hB : ∀ g, (Value.slice B8 (n + 1) d8).ownBlock = some g → (Value.slice B n d).ownBlock = some g ∨ W.heap.size ≤ g) (hA : ∀ g, (Value.slice A10 (n + 1) c10).ownBlock = some g → (Value.slice A n c).ownBlock = some g ∨ W.heap.size ≤ g) :
  RlSt D w0 w4 ((w10.setCell ⟨b, 5, none⟩ (.slice B8 (n + 1) d8)).setCell ⟨b, 4, none⟩ (.slice A10 (n + 1) c10)) b B8 d8 A10 c10 (ms ++ [(ky, x)]) (css ++ [cs]) := by
 subst hn
 have hT22 := (hT.set 5 (.slice B8 ((ms.map (·.1)).length + 1) d8)).set 4 (.slice A10 ((ms.map (·.1)).length + 1) c10)
 have kset : Keeps (fun i => i = b) w10 ((w10.setCell ⟨b, 5, none⟩ (.slice B8 ((ms.map (·.1)).length + 1) d8)).setCell ⟨b, 4, none⟩ (.slice A10 ((ms.map (·.1)).length + 1) c10)) :=
  ((Keeps.refl (fun i => i = b) w10).setCell (p := ⟨b, 5, none⟩) (.inl rfl) _).setCell (p := ⟨b, 4, none⟩) (.inl rfl) _
 have kF : Keeps (fun i => i = b ∨ (Value.slice B (ms.map (·.1)).length d).ownBlock = some i ∨ (Value.slice A (ms.map (·.1)).length c).ownBlock = some i) W ((w10.setCell ⟨b, 5, none⟩ (.slice B8 ((ms.map (·.1)).length + 1) d8)).setCell ⟨b, 4, none⟩ (.slice A10 ((ms.map (·.1)).length + 1) c10)) := (hS.mono (fun _ _ h => .inr h)).trans kset (fun _ _ e => .inl e)
 have hk1 : (ms ++ [(ky, x)]).map (·.1) = ms.map (·.1) ++ [ky] := by rw [List.map_append]; rfl
 have hk2 : (ms ++ [(ky, x)]).map (·.2) = ms.map (·.2) ++ [x] := by rw [List.map_append]; rfl
 have hpl : (ms.map (·.1) ++ [ky]).length = (ms.map (·.1)).length + 1 := by rw [List.length_append]; rfl
 have hmove : ∀ val y, RAt (Rb_ D b (.slice B (ms.map (·.1)).length d) (.slice A (ms.map (·.1)).length c)) W val y → RAt (Rb_ D b (.slice B8 ((ms.map (·.1)).length + 1) d8) (.slice A10 ((ms.map (·.1)).length + 1) c10)) ((w10.setCell ⟨b, 5, none⟩ (.slice B8 ((ms.map (·.1)).length + 1) d8)).setCell ⟨b, 4, none⟩ (.slice A10 ((ms.map (·.1)).length + 1) c10)) val y := fun val y h4 => by
  refine ((h4.mono (C := fun k => Rb_ D b (.slice B (ms.map (·.1)).length d) (.slice A (ms.map (·.1)).length c) k ∧ k < W.heap.size) fun k h5 h6 => ⟨h5, h6⟩).keep kF (fun k hk e => ?_)).mono fun k hk _ => ⟨hk.1.1, hk.1.2.1, fun e => ?_, fun e => ?_⟩
  ·rcases e with e | e | e
   ·exact hk.1.2.1 e
   ·exact hk.1.2.2.1 e
   exact hk.1.2.2.2 e
  ·rcases hB k e with h5 | h5
   ·exact hk.1.2.2.1 h5
   have := hk.2; omega
  rcases hA k e with h5 | h5
  ·exact hk.1.2.2.2 h5
  have := hk.2; omega
 have hW := h.keep.size
 refine ⟨⟨?_, ?_, ?_⟩, fun g e => ?_, fun g e => ?_, ?_⟩
 ·rw [hk1, hpl, List.map_append, List.flatten_append]
  simp only [List.map_cons, List.map_nil, List.flatten_cons, List.flatten_nil, List.append_nil]
  exact hT22
 ·rw [hk1, hk2, hpl]
  exact RList.app ⟨h.rb.lst.1, fun i cs y h1 h2 => hmove _ _ (h.rb.lst.2 i cs y h1 h2)⟩ (RList.one (hmove _ _ hx))
 ·rw [hk1, hk2, hpl, List.length_append, h.rb.len]; rfl
 ·rw [hk1, hpl] at e
  rcases hB g e with h5 | h5
  ·exact h.ob g h5
  omega
 ·rw [hk1, hpl] at e
  rcases hA g e with h5 | h5
  ·exact h.oa g h5
  omega
 refine h.keep.trans kF fun i _ e => ?_
 rcases e with e | e | e
 ·exact .inl e
 ·exact .inr (h.ob i e)
 exact .inr (h.oa i e)
theorem blk_rngL {w : World} {p : Nat} {ty : TypeId} {cs : List Value} (h : Blk w p ty cs) : w.rangeAt p 0 cs := fun j v hv => by rw [Nat.zero_add, h.cell]; exact hv
theorem infoV {v : List Value} (h : v.length = 6) : (Tryz.prog.info? 31).map (·.size) = some v.length := by rw [h]; kernel_rfl
theorem rl_fin {D : Nat → Prop} {w w1 wr : World} {b2 p : Nat} {B : Option Addr} {d : Nat} {A : Option Addr} {c : Nat} {ks : List ByteArray} {css : List (List Value)} {js : List JV} {TV : TypeId} {zs : List Value} (h : RbS (fun i => D i ∨ w1.heap.size ≤ i) w1 wr p B d A c ks css js) (hD : ∀ i, D i → i < w.heap.size) (h1 : Keeps (fun _ => False) w w1)
  (hlo : w.heap.size ≤ b2) (hhi : b2 < w1.heap.size) (hbb : Blk wr b2 TV zs) :
  Blk (wr.setRow b2 #[.int .i64 6, .bool false, .int .u64 0, .string .empty, .slice A ks.length c, .slice B ks.length d]) b2 TV [.int .i64 6, .bool false, .int .u64 0, .string .empty, .slice A ks.length c, .slice B ks.length d] ∧
  MadePost D w (.obj ks js) (.returned (.agg #[.int .i64 6, .bool false, .int .u64 0, .string .empty, .slice A ks.length c, .slice B ks.length d])) (wr.setRow b2 #[.int .i64 6, .bool false, .int .u64 0, .string .empty, .slice A ks.length c, .slice B ks.length d]) := by
 have hk := setRow_keep wr b2 #[.int .i64 6, .bool false, .int .u64 0, .string .empty, .slice A ks.length c, .slice B ks.length d]
 have hwr := h1.trans h.two.hold (fun _ _ h => h)
 have hr : RAt (fun i => D i ∨ w1.heap.size ≤ i) wr (refC (.obj ks js) A c B d) (.obj ks js) := by
  have hA := MineS.rdS h.two.two.b
  have hA2 := MineS.inB h.two.two.b
  rw [← h.len] at hA hA2
  exact RAt.of (.obj ks js) (h.lst.mono fun i hi _ => hi.1) hA (hA2.mono fun i hi => .inr hi) (MineS.rd h.two.two.a) ((MineS.inB h.two.two.a).mono fun i hi => .inr hi)
 have hcs : refC (.obj ks js) A c B d = [.int .i64 6, .bool false, .int .u64 0, .string .empty, .slice A ks.length c, .slice B ks.length d] := by
  show [Value.int .i64 6, .bool false, .int .u64 0, .string .empty, .slice A js.length c, .slice B ks.length d] = _
  rw [h.len]
 rw [hcs] at hr
 refine ⟨hbb.setRow _, _, rfl, (hr.keep hk fun i hi e => ?_).mono fun i hi _ => hi.imp id fun h => Nat.le_trans h1.size h, hwr.trans hk fun i hi e => by omega⟩
 rcases hi with h2 | h2
 ·have := hD i h2; omega
 omega
end Go.Proofs.YtdmcioghdindfaaGreatDoor
namespace Go.Aff
open Go
section
variable {P : Program} {ops : Array Oper} {Q : Exit → Act → World → Prop} {md : Region.Mode}
def actsOf (a : Act) (D : List Nat) (f : Nat → Value) : Act := match D with
 | [] => a
 | d :: D => (actsOf a D f).put (some d) (f d)
def updV (f : Nat → Value) (o : Option Nat) (v : Value) : Nat → Value := match o with
 | none => f
 | some d => fun k => if k = d then v else f k
theorem updV_at {f : Nat → Value} {d : Nat} {v : Value} : updV f (some d) v d = v := if_pos rfl
theorem updV_ne {f : Nat → Value} {d k : Nat} {v : Value} (h : k ≠ d) : updV f (some d) v k = f k := if_neg h
theorem put_put (a : Act) (d : Nat) (v u : Value) : (a.put (some d) v).put (some d) u = a.put (some d) u := by
 simp only [Act.put, Array.setIfInBounds_setIfInBounds]
theorem actsOf_congr (a : Act) {f g : Nat → Value} : ∀ {D : List Nat}, (∀ d ∈ D, f d = g d) → actsOf a D f = actsOf a D g
 | [], _ => rfl
 | d :: D, h => by
  show (actsOf a D f).put (some d) (f d) = (actsOf a D g).put (some d) (g d)
  rw [actsOf_congr a fun e he => h e (List.mem_cons_of_mem _ he), h d (List.mem_cons_self ..)]
theorem actsOf_put (a : Act) (f : Nat → Value) (v : Value) (d : Nat) : ∀ {D : List Nat}, d ∈ D → D.Nodup → (actsOf a D f).put (some d) v = actsOf a D (updV f (some d) v)
 | e :: D, h, hn => by
  show ((actsOf a D f).put (some e) (f e)).put (some d) v = (actsOf a D (updV f (some d) v)).put (some e) (updV f (some d) v e)
  have hn' := List.nodup_cons.1 hn
  by_cases hde : d = e
  ·subst hde
   rw [put_put, updV_at, actsOf_congr a (f := f) (g := updV f (some d) v) fun k hk => (updV_ne fun e => by subst e; exact hn'.1 hk).symm]
  have hm : d ∈ D := (List.mem_cons.1 h).resolve_left hde
  rw [Act.put_comm _ _ _ (fun k hk e => by injection hk with hk; injection e with e; exact hde (e.trans hk.symm)), actsOf_put a f v d hm hn'.2, updV_ne (fun e => hde e.symm)]
theorem actsOf_self (a : Act) : ∀ (D : List Nat), actsOf a D (fun d => a.tmps.getD d undef) = a
 | [] => rfl
 | d :: D => by
  show (actsOf a D _).put (some d) _ = a
  rw [actsOf_self a D]
  unfold Act.put
  show { a with tmps := a.tmps.setIfInBounds d (a.tmps.getD d undef) } = a
  have : a.tmps.setIfInBounds d (a.tmps.getD d undef) = a.tmps := by
   apply Array.ext
   ·simp
   intro i h1 h2
   simp only [Array.getElem_setIfInBounds h2]
   split
   ·rename_i hd; subst hd; simp [Array.getD, h2]
   rfl
  rw [this]
def edgeB (md : Region.Mode) (ops : Array Oper) (k j : Nat) : Bool := match ops[k]? with
 | some o => o.after.any fun e => Region.binds md e && (e.on == j)
 | none => false
def AllStepsI (P : Program) (md : Region.Mode) (ops : Array Oper) (Q : Exit → Act → World → Prop) (a0 : Act) (D : List Nat) (J : (Nat → Prop) → (Nat → Value) → World → Prop) (rs : List Nat) : Prop :=
 ∀ i ∈ rs, ∀ (done : Nat → Prop) f w, J done f w → ¬ done i → (∀ o, ops[i]? = some o → ∀ e ∈ o.after, Region.binds md e = true → done e.on) → (∀ k j, edgeB md ops k j = true → done k → done j) → wpOp P ops Q i (fun a' w' => ∃ f', a' = actsOf a0 D f' ∧ J (fun k => done k ∨ k = i) f' w') (actsOf a0 D f) w
theorem AllStepsI.nil {a0 : Act} {D : List Nat} {J : (Nat → Prop) → (Nat → Value) → World → Prop} : AllStepsI P md ops Q a0 D J [] := fun _ h => by cases h
theorem AllStepsI.cons {a0 : Act} {D : List Nat} {J : (Nat → Prop) → (Nat → Value) → World → Prop} {i : Nat} {o : Oper} {rs : List Nat} (pre : List Nat) (hD : D.Nodup) (ho : ops[i]? = some o) (hdd : (match o.dst with | some d => D.contains d | none => true) = true) (hp : (pre.all fun k => o.after.any fun e => Region.binds md e && (e.on == k)) = true)
  (h : ∀ (done : Nat → Prop) f w, J done f w → ¬ done i → (∀ k ∈ pre, done k) → (∀ k j, edgeB md ops k j = true → done k → done j) → ∀ a, a = actsOf a0 D f → ∀ K' : Act → World → Prop, Shut (∀ v w', J (fun k => done k ∨ k = i) (updV f o.dst v) w' → K' (a.put o.dst v) w') → if Region.wanted o (yielded ops a.tmps) = true then Oper.wp P o a w K' Q else K' (a.put o.dst undef) w)
  (hs : AllStepsI P md ops Q a0 D J rs) : AllStepsI P md ops Q a0 D J (i :: rs) := fun j hj done f w hJ hn hpre hcl => by
 rcases List.mem_cons.1 hj with rfl | hj
 ·refine wpOp_step ho fun K' hK => h done f w hJ hn (fun k hk => ?_) hcl _ rfl K' fun v w' hJ' => hK _ _ ⟨updV f o.dst v, ?_, hJ'⟩
  ·have h1 := List.all_eq_true.1 hp k hk
   obtain ⟨e, he, h2⟩ := Array.any_eq_true'.1 h1
   simp only [Bool.and_eq_true, beq_iff_eq] at h2
   rw [← h2.2]
   exact hpre o ho e he h2.1
  cases hd : o.dst with
  | none => rfl
  | some d =>
   rw [hd] at hdd
   exact actsOf_put a0 f v d (by simpa using hdd) hD
 exact hs j hj done f w hJ hn hpre hcl
theorem count_set_list : ∀ (l : List Bool) (i : Nat), l[i]? = some false → (l.set i true).count false + 1 ≤ l.count false
 | [], i, h => by simp at h
 | b :: l, 0, h => by simp at h; subst h; simp
 | b :: l, i + 1, h => by
  have := count_set_list l i (by simpa using h)
  simp only [List.set_cons_succ, List.count_cons]
  omega
theorem getD_lt {L : Array Bool} {i : Nat} {b : Bool} (h : i < L.size) : L.getD i b = L[i] := by simp [Array.getD, h]
theorem count_set {L : Array Bool} {i : Nat} (h : L.getD i true = false) : (L.setIfInBounds i true).toList.count false + 1 ≤ L.toList.count false := by
 have hi : i < L.size := by
  by_cases hi : i < L.size
  ·exact hi
  simp [Array.getD, hi] at h
 rw [Array.toList_setIfInBounds]
 refine count_set_list _ _ ?_
 rw [getD_lt hi] at h
 rw [Array.getElem?_toList, Array.getElem?_eq_getElem hi, h]
theorem wpAnyH_inv0 {S : World → Prop} {a0 : Act} {D : List Nat} {J : (Nat → Prop) → (Nat → Value) → World → Prop} (is : List Nat) (hord : ((List.range ops.size).all fun i => match ops[i]? with | some o => o.after.all fun e => !(Region.binds md e) || decide (e.on < i) | none => true) = true)
  (hJS : ∀ done f w, J done f w → S w) (hsteps : AllStepsI P md ops Q a0 D J is) (hend : ∀ (done : Nat → Prop) f w, J done f w → (∀ k, k < ops.size → done k) → Q .normal (actsOf a0 D f) w) :
  ∀ (fuel : Nat) (L : Array Bool), L.size = ops.size → (∀ j, j < ops.size → j ∉ is → L.getD j true = true) → (∀ k j, edgeB md ops k j = true → L.getD k false = true → L.getD j false = true) → ∀ f w, J (fun k => L.getD k false = true) f w → L.toList.count false ≤ fuel → wpAnyH P md ops Q S fuel L (actsOf a0 D f) w := by
 have hall : ∀ (L : Array Bool), L.size = ops.size → Region.ready md ops L = [] → ∀ k, k < ops.size → L.getD k false = true := fun L hsz hr k => by
  induction k using Nat.strongRecOn with
  | _ k ih =>
   intro hk
   have hkL : k < L.size := by rw [hsz]; exact hk
   rw [getD_lt hkL]
   cases hb : L[k] with
   | true => rfl
   | false =>
    have hin : k ∈ Region.ready md ops L := mem_ready.2 ⟨by rw [getD_lt hkL]; exact hb, ops[k], Array.getElem?_eq_getElem hk, fun e he hb => by
     have h1 := List.all_eq_true.1 hord k (List.mem_range.2 hk)
     simp only [Array.getElem?_eq_getElem hk] at h1
     have h3 := Array.all_eq_true'.1 h1 e he
     rw [hb] at h3
     have h2 : e.on < k := by simpa using h3
     exact ih e.on h2 (by omega)⟩
    rw [hr] at hin
    cases hin
 intro fuel
 induction fuel with
 | zero =>
  intro L hsz hL hcl f w hJ hc
  have hr : Region.ready md ops L = [] := by
   cases hr : Region.ready md ops L with
   | nil => rfl
   | cons i rs =>
    have hi : i ∈ Region.ready md ops L := by rw [hr]; exact List.mem_cons_self ..
    have := count_set (mem_ready.1 hi).1
    omega
  exact ⟨hr, hend _ f w hJ (hall L hsz hr)⟩
 | succ fuel ih =>
  intro L hsz hL hcl f w hJ hc
  refine ⟨fun hr => hend _ f w hJ (hall L hsz hr), fun i hi => ?_⟩
  obtain ⟨h1, o, ho, h2⟩ := mem_ready.1 hi
  have hio : i < ops.size := (Array.getElem?_eq_some_iff.1 ho).1
  have hiL : i < L.size := by rw [hsz]; exact hio
  have hii : i ∈ is := Classical.byContradiction fun h => by rw [hL i hio h] at h1; cases h1
  have hnd : ¬ (L.getD i false = true) := by rw [getD_lt hiL]; rw [getD_lt hiL] at h1; rw [h1]; decide
  refine wpOp_mono (fun a' w' h => ?_) (hsteps i hii (fun k => L.getD k false = true) f w hJ hnd (fun o' ho' e he hb => by
   rw [ho] at ho'; injection ho' with ho'; subst ho'
   exact h2 e he hb) hcl)
  obtain ⟨f', rfl, hJ'⟩ := h
  refine ⟨hJS _ _ _ hJ', ih _ (by simp [hsz]) (fun j hj hn => ?_) ?_ f' w' ?_ (by have := count_set h1; omega)⟩
  ·have := hL j hj hn
   have hjL : j < (L.setIfInBounds i true).size := by simp [hsz]; exact hj
   rw [getD_lt hjL, Array.getElem_setIfInBounds (by rw [hsz]; exact hj)]
   split
   ·rfl
   rw [getD_lt (by rw [hsz]; exact hj)] at this; exact this
  ·intro k j hkj hk
   have hgr : ∀ q, L.getD q false = true → (L.setIfInBounds i true).getD q false = true := fun q hq => by
    by_cases hqs : q < L.size
    ·rw [getD_lt (by simp; exact hqs), Array.getElem_setIfInBounds hqs]
     split
     ·rfl
     rw [getD_lt hqs] at hq; exact hq
    simp [Array.getD, hqs] at hq
   by_cases hki : k = i
   ·subst hki
    unfold edgeB at hkj
    rw [ho] at hkj
    obtain ⟨e, he, h3⟩ := Array.any_eq_true'.1 hkj
    simp only [Bool.and_eq_true, beq_iff_eq] at h3
    have h4 := h2 e he h3.1
    rw [h3.2] at h4
    exact hgr j h4
   refine hgr j (hcl k j hkj ?_)
   by_cases hks : k < L.size
   ·rw [getD_lt (by simp; exact hks), Array.getElem_setIfInBounds hks, if_neg (fun e => hki e.symm)] at hk
    rw [getD_lt hks]; exact hk
   simp [Array.getD, hks] at hk
  ·have he : (fun k => (L.setIfInBounds i true).getD k false = true) = fun k => L.getD k false = true ∨ k = i := by
    funext k
    apply propext
    by_cases hk : k < L.size
    ·rw [getD_lt (by simp; exact hk), getD_lt hk, Array.getElem_setIfInBounds hk]
     split
     ·rename_i e; subst e; simp
     rename_i e
     exact ⟨.inl, fun h => h.resolve_right fun h => e h.symm⟩
    have h3 : (L.setIfInBounds i true).getD k false = false := by simp [Array.getD, hk]
    have h4 : L.getD k false = false := by simp [Array.getD, hk]
    rw [h3, h4]
    refine ⟨fun h => (by cases h), fun h => ?_⟩
    rcases h with h | h
    ·cases h
    subst h; exact absurd hiL hk
   rw [he]
   exact hJ'
theorem wpAnyH_inv {S : World → Prop} {fuel : Nat} {L : Array Bool} {a : Act} {w : World} (D : List Nat) (J : (Nat → Prop) → (Nat → Value) → World → Prop) (is : List Nat) (hord : ((List.range ops.size).all fun i => match ops[i]? with | some o => o.after.all fun e => !(Region.binds md e) || decide (e.on < i) | none => true) = true)
  (hsz : L.size = ops.size) (hL : ((List.range ops.size).all fun j => is.contains j || L.getD j true) = true) (hc : L.toList.count false ≤ fuel) (hJS : ∀ done f w, J done f w → S w)
  (hL0 : (is.all fun k => !(L.getD k false)) = true) (hcl : ((List.range ops.size).all fun k => !(L.getD k false) || (match ops[k]? with | some o => o.after.all fun e => !(Region.binds md e) || L.getD e.on false | none => true)) = true) (h0 : ∀ (done : Nat → Prop) f, (∀ k ∈ is, ¬ done k) → J done f w) (hend : ∀ (done : Nat → Prop) f w, J done f w → (∀ k, k < ops.size → done k) → Q .normal (actsOf a D f) w) (hsteps : AllStepsI P md ops Q a D J is) : wpAnyH P md ops Q S fuel L a w := by
 have h := wpAnyH_inv0 (P := P) (ops := ops) (Q := Q) (md := md) is hord hJS hsteps hend fuel L hsz (fun j hj hn => by
  have h1 := List.all_eq_true.1 hL j (List.mem_range.2 hj)
  rcases Bool.or_eq_true_iff.1 h1 with h1 | h1
  ·exact absurd (by simpa using h1) hn
  ·exact h1) (fun k j hkj hk => by
  unfold edgeB at hkj
  cases ho : ops[k]? with
  | none => rw [ho] at hkj; cases hkj
  | some o =>
   rw [ho] at hkj
   have hks := (Array.getElem?_eq_some_iff.1 ho).1
   have h1 := List.all_eq_true.1 hcl k (List.mem_range.2 hks)
   rw [hk, ho] at h1
   have h1 : (o.after.all fun e => !(Region.binds md e) || L.getD e.on false) = true := h1
   obtain ⟨e, he, h3⟩ := Array.any_eq_true'.1 hkj
   simp only [Bool.and_eq_true, beq_iff_eq] at h3
   have h4 := Array.all_eq_true'.1 h1 e he
   rw [h3.1, h3.2] at h4
   simpa using h4) (fun d => a.tmps.getD d undef) w (h0 _ _ fun k hk e => by
  have h1 := List.all_eq_true.1 hL0 k hk
  rw [e] at h1
  cases h1) hc
 rw [actsOf_self] at h
 exact h
end
end Go.Aff
namespace Go.Proofs.YtdmcioghdindfaaGreatDoor
open Go Go.RowKit Go.Aff Go.Json
def RE (D : Nat → Prop) (A : Option Addr) (n c : Nat) (i : Nat) : Prop := D i ∧ (Value.slice A n c).ownBlock ≠ some i
structure RTSt (D : Nat → Prop) (w0 w4 wx : World) (p : Nat) (B : Option Addr) (d : Nat) (A : Option Addr) (c : Nat) (ms : List (ByteArray × JV)) (css : List (List Value)) (A3 : Option Addr) (n3 c3 : Nat) (xs : List ByteArray) : Prop where
 rl : RlSt (RE D A3 n3 c3) w0 w4 wx p B d A c ms css
 own : wx.ownsRow 0 9 1 (.slice A3 n3 c3) n3 (xs.map .string)
 lo : ∀ g, (Value.slice A3 n3 c3).ownBlock = some g → w4.heap.size ≤ g
 apart : ∀ g, (Value.slice A3 n3 c3).ownBlock = some g → g ≠ p ∧ (Value.slice B ms.length d).ownBlock ≠ some g ∧ (Value.slice A ms.length c).ownBlock ≠ some g
 le : w0.heap.size ≤ w4.heap.size
section
variable {D : Nat → Prop} {w0 w4 wx w' : World} {p : Nat} {B : Option Addr} {d : Nat} {A : Option Addr} {c : Nat} {ms : List (ByteArray × JV)} {css : List (List Value)} {A3 : Option Addr} {n3 c3 : Nat} {xs : List ByteArray}
theorem RTSt.stay (h : RTSt D w0 w4 wx p B d A c ms css A3 n3 c3 xs) (k : Keeps (fun _ => False) wx w') : RTSt D w0 w4 w' p B d A c ms css A3 n3 c3 xs :=
 ⟨h.rl.stay k, k.own h.own fun _ _ h => h, h.lo, h.apart, h.le⟩
theorem RTSt.start (h : RbS D w0 w4 p none 0 none 0 [] [] []) (hle : w0.heap.size ≤ w4.heap.size) : RTSt D w0 w4 w4 p none 0 none 0 [] [] none 0 0 [] :=
 ⟨RlSt.start ⟨h.two, ⟨h.lst.1, fun i cs x h1 h2 => by simp at h1⟩, h.len⟩, World.ownsRow_nil _ 0 _ 1, fun g e => by simp [Value.ownBlock] at e, fun g e => by simp [Value.ownBlock] at e, hle⟩
theorem RTSt.ownlt (h : RTSt D w0 w4 wx p B d A c ms css A3 n3 c3 xs) {g : Nat} (hg : (Value.slice A3 n3 c3).ownBlock = some g) : g < wx.heap.size := (h.own.lt g hg).2
theorem RTSt.bounds (h : RTSt D w0 w4 wx p B d A c ms css A3 n3 c3 xs) : p < wx.heap.size ∧ (∀ g, (Value.slice B ms.length d).ownBlock = some g → g < wx.heap.size) ∧ ∀ g, (Value.slice A ms.length c).ownBlock = some g → g < wx.heap.size := by
 have hml : (ms.map (·.1)).length = ms.length := List.length_map ..
 refine ⟨h.rl.rb.two.blk.lt, fun g hg => ?_, fun g hg => ?_⟩
 ·rw [← hml] at hg; exact h.rl.rb.two.two.a.own_lt hg
 rw [← hml] at hg; exact h.rl.rb.two.two.b.own_lt hg
theorem RTSt.said {A' : Option Addr} {n' c' : Nat} {ys : List ByteArray} (h : RTSt D w0 w4 wx p B d A c ms css A3 n3 c3 xs) (hg : wx.grownBy w' (Value.slice A3 n3 c3).ownBlock) (ho : w'.ownsRow 0 9 1 (.slice A' n' c') n' (ys.map .string))
  (hb : (Value.slice A' n' c').ownBlock = (Value.slice A3 n3 c3).ownBlock ∨ (Value.slice A' n' c').ownBlock = some wx.heap.size) : RTSt D w0 w4 w' p B d A c ms css A' n' c' ys := by
 have hbd := h.bounds
 have k : Keeps (fun i => (Value.slice A3 n3 c3).ownBlock = some i) wx w' := Keeps.of_grown hg
 have hml : (ms.map (·.1)).length = ms.length := List.length_map ..
 have hw4 := h.rl.keep.size
 have hnew : ∀ g, (Value.slice A' n' c').ownBlock = some g → (Value.slice A3 n3 c3).ownBlock = some g ∨ g = wx.heap.size := fun g e => by
  rcases hb with h1 | h1
  ·exact .inl (h1.symm.trans e)
  rw [h1] at e; injection e with e; exact .inr e.symm
 have hap : ∀ i, (Value.slice A3 n3 c3).ownBlock = some i → i ≠ p ∧ (Value.slice B (ms.map (·.1)).length d).ownBlock ≠ some i ∧ (Value.slice A (ms.map (·.1)).length c).ownBlock ≠ some i := fun i e => by rw [hml]; exact h.apart i e
 have hb2 := h.rl.rb.two
 have hold : Keeps (fun _ => False) w0 w' := hb2.hold.trans k fun i hi e => by have := h.lo i e; have := h.le; omega
 refine ⟨⟨⟨⟨⟨⟨k.own hb2.two.a.1 fun g hg e => (hap g e).2.1 hg, hold, hb2.two.a.2.2⟩, ⟨k.own hb2.two.b.1 fun g hg e => (hap g e).2.2 hg, hold, hb2.two.b.2.2⟩, hb2.two.ap⟩, k.blk hb2.blk (fun e => (hap p e).1 rfl), hb2.lo, hb2.na, hb2.nb⟩, ?_, h.rl.rb.len⟩, h.rl.ob, h.rl.oa, h.rl.keep.trans k fun i _ e => .inr (h.lo i e)⟩, ho, fun g e => ?_, fun g e => ?_, h.le⟩
 ·refine ((h.rl.rb.lst.mono (C := fun i => Rb_ (RE D A3 n3 c3) p (.slice B (ms.map (·.1)).length d) (.slice A (ms.map (·.1)).length c) i ∧ i < wx.heap.size) fun i h1 h2 => ⟨h1, h2⟩).keep k fun i hi e => hi.1.1.2 e).mono fun i hi _ => ⟨⟨hi.1.1.1, fun e => ?_⟩, hi.1.2⟩
  rcases hnew i e with h1 | h1
  ·exact hi.1.1.2 h1
  have := hi.2; omega
 ·rcases hnew g e with h1 | h1
  ·exact h.lo g h1
  omega
 rcases hnew g e with h1 | h1
 ·exact h.apart g h1
 refine ⟨by omega, fun e => ?_, fun e => ?_⟩
 ·have := hbd.2.1 g e; omega
 have := hbd.2.2 g e; omega
end
theorem results_blk_t1 {P : Program} {w : World} {g : Nat} {t : TypeId} {cs : List Value} {fn : Func} {p u : Tmp} {ty : TypeId} (h : fn.results = #[.cell p ty, .tmp u]) (tmps : Array Value) (d : TypeDesc)
  (hp : tmps.getD p undef = .pointer (some ⟨g, 0, none⟩)) (hg : Blk w g t cs)
  (hu : P.underlying ty = some d) (hd : (match d with | .struct _ | .array _ _ => true | _ => false) = true) (hi : (P.info? ty).map (·.size) = some cs.length) :
  (results fn tmps).run P w = .ok (.tuple #[.agg cs.toArray, tmps.getD u undef]) w := by
 rw [results_cell_tmp h, hp]
 simp only [asAddr, Sem.run_pure, Result.andThen]
 rw [run_loadVar_row w g t ty cs.toArray (0, 0) d hg hu hd (by simpa using hi)]
end Go.Proofs.YtdmcioghdindfaaGreatDoor
namespace Go.Json
theorem jv_ext {j k : JV} (h1 : j.sort = k.sort) (h2 : j.last.flag = k.last.flag) (h3 : j.last.bits = k.last.bits) (h4 : j.last.text = k.last.text) (h5 : j.items = k.items) (h6 : j.keys = k.keys) : j = k := by
 cases j <;> cases k <;> first
  | rfl
  | (simp [JV.sort] at h1; done)
  | (simp [JV.last, step0] at h2; rw [h2]; done)
  | (simp [JV.last, step0] at h3; rw [h3]; done)
  | (simp [JV.last, step0] at h4; rw [h4]; done)
  | (simp [JV.items] at h5; simp [JV.keys] at h6; subst h5; first | rfl | (subst h6; rfl))
end Go.Json
namespace Go.Proofs.YtdmcioghdindfaaGreatDoor
open Go Go.RowKit Go.Aff Go.Json
attribute [local go_sem] Oper.semAt_some
def SamePost (w : World) (j k : JV) (e : Ending) (w' : World) : Prop := ∃ b, e = .returned (.bool b) ∧ (b = true ↔ j = k) ∧ Keeps (fun _ => False) w w'
structure Box2V (w W : World) (b1 b2 : Nat) (X Y : List Value) : Prop where
 keep : Keeps (fun _ => False) w W
 k1 : Blk W b1 31 X
 k2 : Blk W b2 31 Y
theorem Box2V.stay {w W W' : World} {b1 b2 : Nat} {X Y : List Value} (h : Box2V w W b1 b2 X Y) (k : Keeps (fun _ => False) W W') : Box2V w W' b1 b2 X Y := ⟨h.keep.trans k fun _ _ h => h, k.blk h.k1 (fun h => h), k.blk h.k2 (fun h => h)⟩
theorem same_no {w w' : World} {j k : JV} (hk : Keeps (fun _ => False) w w') (h : j ≠ k) : SamePost w j k (.returned (.bool false)) w' := ⟨false, rfl, ⟨fun h => (by cases h), fun e => absurd e h⟩, hk⟩
theorem rsame_one {D E : Nat → Prop} (w : World) (v v2 : List Value) (j k : JV) (h : RAt D w v j) (h2 : RAt E w v2 k) (hn : j.nodes ≤ 1048576) (hkl : j.keys.length ≤ 1048576)
  (ih : ∀ x, x ∈ j.items → ∀ (y : JV) (W : World) (t s : List Value), RAt D W t x → RAt E W s y → Calls Tryz.prog 68 #[.agg t.toArray, .agg s.toArray] W (SamePost W x y)) :
  Calls Tryz.prog 68 #[.agg v.toArray, .agg v2.toArray] w (SamePost w j k) := by
 obtain ⟨A, c, B, d, cs, hv, hA, _, hB, _, hx⟩ := h.form
 obtain ⟨A2, c2, B2, d2, cs2, hv2, hA2, _, hB2, _, hx2⟩ := h2.form
 obtain ⟨z, hz⟩ : ∃ z, z = j.sort := ⟨_, rfl⟩
 obtain ⟨z2, hz2⟩ : ∃ z, z = k.sort := ⟨_, rfl⟩
 obtain ⟨f, hf⟩ : ∃ z, z = j.last.flag := ⟨_, rfl⟩
 obtain ⟨f2, hf2⟩ : ∃ z, z = k.last.flag := ⟨_, rfl⟩
 obtain ⟨u, hu⟩ : ∃ z, z = j.last.bits := ⟨_, rfl⟩
 obtain ⟨u2, hu2⟩ : ∃ z, z = k.last.bits := ⟨_, rfl⟩
 obtain ⟨t, ht⟩ : ∃ z, z = j.last.text := ⟨_, rfl⟩
 obtain ⟨t2, ht2⟩ : ∃ z, z = k.last.text := ⟨_, rfl⟩
 obtain ⟨n, hnn⟩ : ∃ z, z = j.items.length := ⟨_, rfl⟩
 obtain ⟨n2, hn2⟩ : ∃ z, z = k.items.length := ⟨_, rfl⟩
 obtain ⟨m, hm⟩ : ∃ z, z = j.keys.length := ⟨_, rfl⟩
 obtain ⟨m2, hm2⟩ : ∃ z, z = k.keys.length := ⟨_, rfl⟩
 have hv' : v = [.int .i64 z, .bool f, .int .u64 u, .string t, .slice A n c, .slice B m d] := by rw [hv, hz, hf, hu, ht, hnn, hm]; rfl
 have hv2' : v2 = [.int .i64 z2, .bool f2, .int .u64 u2, .string t2, .slice A2 n2 c2, .slice B2 m2 d2] := by rw [hv2, hz2, hf2, hu2, ht2, hn2, hm2]; rfl
 have HZ := H_ (And.intro (And.intro hz hz2) (And.intro (And.intro hf hf2) (And.intro (And.intro hu hu2) (And.intro ht ht2))))
 have HN := H_ (And.intro (And.intro hnn hn2) (And.intro hm hm2))
 have HX := H_ (And.intro hx hx2)
 have HRW := H_ (And.intro hA hA2)
 have HKR := H_ (And.intro hB hB2)
 have HIH := H_ ih
 have HSM := H_ (And.intro hn hkl)
 subst hv' hv2'
 have HB0 : Hid (Box2V w ((w.alloc (.cells #[.int .i64 z, .bool f, .int .u64 u, .string t, .slice A n c, .slice B m d] 31)).alloc (.cells #[.int .i64 z2, .bool f2, .int .u64 u2, .string t2, .slice A2 n2 c2, .slice B2 m2 d2] 31)) w.heap.size (w.heap.size + 1) [.int .i64 z, .bool f, .int .u64 u, .string t, .slice A n c, .slice B m d] [.int .i64 z2, .bool f2, .int .u64 u2, .string t2, .slice A2 n2 c2, .slice B2 m2 d2]) := H_ (by
  have h1 := Blk.new w 31 [.int .i64 z, .bool f, .int .u64 u, .string t, .slice A n c, .slice B m d]
  have h2 := Blk.new (w.alloc (.cells #[.int .i64 z, .bool f, .int .u64 u, .string t, .slice A n c, .slice B m d] 31)) 31 [.int .i64 z2, .bool f2, .int .u64 u2, .string t2, .slice A2 n2 c2, .slice B2 m2 d2]
  rw [World.size_alloc] at h2
  exact ⟨((Keeps.refl _ w).alloc _).alloc _, h1.alloc _, h2⟩)
 clear h h2 hv hv2 hA hA2 hB hB2 hx hx2 hz hz2 hf hf2 hu hu2 ht ht2 hnn hn2 hm hm2 ih hn hkl
 obtain ⟨b1, hb1⟩ : ∃ b, b = w.heap.size := ⟨_, rfl⟩
 obtain ⟨b2, hb2⟩ : ∃ b, b = w.heap.size + 1 := ⟨_, rfl⟩
 go_enter Tryz.func68, Tryz.ntmps68
 go_upto_region 1 with fail
 rw [← hb2, ← hb1] at HB0
 rw [← hb2, ← hb1]
 clear hb1 hb2
 refine gen_codeF (fun W => Box2V w W b1 b2 [.int .i64 z, .bool f, .int .u64 u, .string t, .slice A n c, .slice B m d] [.int .i64 z2, .bool f2, .int .u64 u2, .string t2, .slice A2 n2 c2, .slice B2 m2 d2]) HB0.out ?_
 intro w1 hbx
 have x0 : w1.cell? ⟨b1, 0, none⟩ = some (.int .i64 z) := hbx.k1.cell 0
 have y0 : w1.cell? ⟨b2, 0, none⟩ = some (.int .i64 z2) := hbx.k2.cell 0
 have x1 : w1.cell? ⟨b1, 1, none⟩ = some (.bool f) := hbx.k1.cell 1
 have y1 : w1.cell? ⟨b2, 1, none⟩ = some (.bool f2) := hbx.k2.cell 1
 have x2 : w1.cell? ⟨b1, 2, none⟩ = some (.int .u64 u) := hbx.k1.cell 2
 have y2 : w1.cell? ⟨b2, 2, none⟩ = some (.int .u64 u2) := hbx.k2.cell 2
 have x3 : w1.cell? ⟨b1, 3, none⟩ = some (.string t) := hbx.k1.cell 3
 have y3 : w1.cell? ⟨b2, 3, none⟩ = some (.string t2) := hbx.k2.cell 3
 have x4 : w1.cell? ⟨b1, 4, none⟩ = some (.slice A n c) := hbx.k1.cell 4
 have y4 : w1.cell? ⟨b2, 4, none⟩ = some (.slice A2 n2 c2) := hbx.k2.cell 4
 have x5 : w1.cell? ⟨b1, 5, none⟩ = some (.slice B m d) := hbx.k1.cell 5
 have y5 : w1.cell? ⟨b2, 5, none⟩ = some (.slice B2 m2 d2) := hbx.k2.cell 5
 have HBX := H_ hbx
 clear hbx HB0
 by_cases h0 : z = z2
 case neg =>
  have HN0 : Hid (j ≠ k) := H_ fun e => h0 (by rw [HZ.out.1.1, HZ.out.1.2, e])
  have q0 : (z != z2) = true := by simpa using h0
  clear h0
  go_wp2
  go_ret
  exact same_no HBX.out.keep HN0.out
 subst h0
 by_cases h0 : f = f2
 case neg =>
  have HN0 : Hid (j ≠ k) := H_ fun e => h0 (by rw [HZ.out.2.1.1, HZ.out.2.1.2, e])
  have q0 : (f == f2) = false := by simpa using h0
  clear h0
  go_wp2
  go_ret
  exact same_no HBX.out.keep HN0.out
 subst h0
 by_cases h0 : u = u2
 case neg =>
  have HN0 : Hid (j ≠ k) := H_ fun e => h0 (by rw [HZ.out.2.2.1.1, HZ.out.2.2.1.2, e])
  have q0 : ((u : Int) != (u2 : Int)) = true := by rw [bne_iff_ne]; omega
  clear h0
  go_wp2
  go_ret
  exact same_no HBX.out.keep HN0.out
 subst h0
 by_cases h0 : t = t2
 case neg =>
  have HN0 : Hid (j ≠ k) := H_ fun e => h0 (by rw [HZ.out.2.2.2.1, HZ.out.2.2.2.2, e])
  have q0 : (t.toList == t2.toList) = false := by rw [bytes_told]; exact decide_eq_false h0
  clear h0
  go_wp2
  go_ret
  exact same_no HBX.out.keep HN0.out
 subst h0
 by_cases h0 : n = n2
 case neg =>
  have HN0 : Hid (j ≠ k) := H_ fun e => h0 (by rw [HN.out.1.1, HN.out.1.2, e])
  have q0 : ((n : Int) != (n2 : Int)) = true := by rw [bne_iff_ne]; omega
  clear h0
  go_wp2
  go_ret
  exact same_no HBX.out.keep HN0.out
 subst h0
 by_cases h0 : m = m2
 case neg =>
  have HN0 : Hid (j ≠ k) := H_ fun e => h0 (by rw [HN.out.2.1, HN.out.2.2, e])
  have q0 : ((m : Int) != (m2 : Int)) = true := by rw [bne_iff_ne]; omega
  clear h0
  go_wp2
  go_ret
  exact same_no HBX.out.keep HN0.out
 subst h0
 have hm20 : m ≤ 1048576 := by rw [HN.out.2.1]; exact HSM.out.2
 have hn20 : n ≤ 1048576 := by rw [HN.out.1.1]; have := items_nodes j; have := HSM.out.1; omega
 go_upto_block 0 with fail
 clear x0 x1 x2 x3 x4 x5 y0 y1 y2 y3 y4 y5
 go_wp2
 go_loopg [5] m (fun gk tt wx => ∃ i : Nat, i ≤ m ∧ tt = .int .i64 i ∧ gk = m - i ∧ Hid (Keeps (fun _ => False) w1 wx ∧ j.keys.take i = k.keys.take i))
 case atStart => exact ⟨0, by omega, rfl, rfl, H_ ⟨Keeps.refl _ _, by simp⟩⟩
 case round =>
  obtain ⟨i, hin, rfl, hgk, HO⟩ := hrel
  have HGK := H_ hgk
  clear hgk
  have hbb := HBX.out.stay HO.out.1
  have x5 : wr.cell? ⟨b1, 5, none⟩ = some (.slice B m d) := hbb.k1.cell 5
  have y5 : wr.cell? ⟨b2, 5, none⟩ = some (.slice B2 m d2) := hbb.k2.cell 5
  have HK2 := H_ hbb
  clear hbb
  by_cases hlt : i < m
  ·obtain ⟨g, o, s, hA, hs, hck⟩ := textAt (HKR.out.1.keep HK2.out.keep (fun _ _ _ h => h)) (by rw [← HN.out.2.1]; exact hlt)
   obtain ⟨g2, o2, s2, hA2, hs2, hck2⟩ := textAt (HKR.out.2.keep HK2.out.keep (fun _ _ _ h => h)) (by rw [← HN.out.2.2]; exact hlt)
   subst hA hA2
   have HT3 := H_ (And.intro (And.intro x5 y5) (And.intro hck hck2))
   have HS := H_ (And.intro hs hs2)
   obtain ⟨q, hq⟩ : ∃ q, q = (s.toList == s2.toList) := ⟨_, rfl⟩
   have HQ := H_ hq
   have hi63 : (0 : Int) ≤ (i : Int) := by omega
   have hiN : (i : Int) < (m : Int) := by omega
   have hq2 : (s.toList == s2.toList) = q := hq.symm
   clear hs hs2 hck hck2 hq
   rcases q with _ | _
   all_goals
    go_upto_region 6 with fail
    refine wp_region_held_drew (S := Keeps (fun _ => False) wr) (by kernel_rfl) (Keeps.refl _ _).drew (fun h_ => ?_)
    refine tI 0 58 h_ ?_
    try simp only [pu]
    refine tI 1 59 h_ ?_ (hy := .inl ⟨by rfl, by intro w' hSw; have cv := cell_keep hSw HT3.out.1.1; go_simp; first | done | rfl⟩)
    try simp only [pu]
    refine tI 2 60 h_ ?_
    try simp only [pu]
    refine tI 3 61 h_ ?_
    try simp only [pu]
    refine tI 4 62 h_ ?_ (hy := .inl ⟨by rfl, by intro w' hSw; have cv := cell_keep hSw HT3.out.2.1; go_simp; first | done | rfl⟩)
    try simp only [pu]
    refine tI 5 63 h_ ?_
    try simp only [pu]
    refine tI 6 64 h_ ?_ (hy := .inl ⟨by rfl, by intro w' hSw; have cv := cell_keep hSw HT3.out.1.2; go_simp; first | done | rfl⟩)
    try simp only [pu]
    refine tI 7 65 h_ ?_
    try simp only [pu]
    refine tI 8 66 h_ ?_
    try simp only [pu]
    refine tI 9 67 h_ ?_ (hy := .inl ⟨by rfl, by intro w' hSw; have cv := cell_keep hSw HT3.out.2.2; go_simp; first | done | rfl⟩)
    try simp only [pu]
    refine tI 10 68 h_ ?_
    try simp only [pu]
    refine wpAnyH_done (by kernel_rfl) ?_ _
    have HK9 := H_ (HK2.out.keep.trans h_ fun _ _ h => h)
    have HK8 := H_ (HO.out.1.trans h_ fun _ _ h => h)
    clear h_ x5 y5
   ·have HN0 : Hid (j ≠ k) := H_ fun e => by
     have h1 := HS.out.1
     rw [e, HS.out.2] at h1
     injection h1 with h1
     have h2 := HQ.out
     rw [h1] at h2
     simp at h2
    go_wp2
    go_ret
    exact same_no HK9.out HN0.out
   ·have HE : Hid (j.keys.take (i + 1) = k.keys.take (i + 1)) := H_ (by
     have h2 := HQ.out.symm
     rw [bytes_told] at h2
     rw [List.take_add_one, List.take_add_one, HO.out.2, HS.out.1, HS.out.2, of_decide_eq_true h2])
    go_wp2
    go_roundg (m - (i + 1))
    case measure => rw [HGK.out]; omega
    case rel => exact ⟨i + 1, by omega, by go_num, rfl, H_ ⟨HK8.out, HE.out⟩⟩
  obtain rfl : i = m := by omega
  have HKE : Hid (j.keys = k.keys) := H_ (by
   have h := HO.out.2
   rwa [List.take_of_length_le (by rw [HN.out.2.1]; exact Nat.le_refl _), List.take_of_length_le (by rw [HN.out.2.2]; exact Nat.le_refl _)] at h)
  go_upto_block 2 with fail
  clear x5 y5
  go_wp2
  go_loopg [6] n (fun gk tt wx => ∃ e : Nat, e ≤ n ∧ tt = .int .i64 e ∧ gk = n - e ∧ Hid (Keeps (fun _ => False) w1 wx ∧ j.items.take e = k.items.take e))
  case atStart => exact ⟨0, by omega, rfl, rfl, H_ ⟨HO.out.1, by simp⟩⟩
  case round =>
   obtain ⟨e, hen, rfl, hgk2, HP⟩ := hrel
   have HGK2 := H_ hgk2
   clear hgk2
   have hbb := HBX.out.stay HP.out.1
   have x4 : wr.cell? ⟨b1, 4, none⟩ = some (.slice A n c) := hbb.k1.cell 4
   have y4 : wr.cell? ⟨b2, 4, none⟩ = some (.slice A2 n c2) := hbb.k2.cell 4
   have HK3 := H_ hbb
   clear hbb
   by_cases hle : e < n
   ·obtain ⟨x, hxx⟩ : ∃ x, j.items[e]? = some x := ⟨_, List.getElem?_eq_getElem (by rw [← HN.out.1.1]; exact hle)⟩
    obtain ⟨y, hyy⟩ : ∃ y, k.items[e]? = some y := ⟨_, List.getElem?_eq_getElem (by rw [← HN.out.1.2]; exact hle)⟩
    obtain ⟨g, o, hA, hr⟩ := HRW.out.1 (by rw [← HN.out.1.1]; omega)
    obtain ⟨g2, o2, hA2, hr2⟩ := HRW.out.2 (by rw [← HN.out.1.2]; omega)
    have hrg := hr e (by rw [← HN.out.1.1]; exact hle)
    have hrg2 := hr2 e (by rw [← HN.out.1.2]; exact hle)
    have hra := HX.out.1 e x hxx
    have hra2 := HX.out.2 e y hyy
    subst hA hA2
    obtain ⟨a0, a1, a2, a3, a4, a5, hac⟩ : ∃ a0 a1 a2 a3 a4 a5, cs e = [a0, a1, a2, a3, a4, a5] := by
     obtain ⟨_, _, _, _, _, h1, _⟩ := hra.form
     exact ⟨_, _, _, _, _, _, h1⟩
    obtain ⟨e0, e1, e2, e3, e4, e5, hec⟩ : ∃ a0 a1 a2 a3 a4 a5, cs2 e = [a0, a1, a2, a3, a4, a5] := by
     obtain ⟨_, _, _, _, _, h1, _⟩ := hra2.form
     exact ⟨_, _, _, _, _, _, h1⟩
    rw [hac] at hrg hra
    rw [hec] at hrg2 hra2
    obtain ⟨bb, hbb⟩ : ∃ bb : Bool, (bb = true ↔ x = y) := ⟨@decide (x = y) (Classical.propDecidable _), by simp⟩
    have HSA : Hid (∀ W, Keeps (fun _ => False) wr W → Calls Tryz.prog 68 #[.agg #[a0, a1, a2, a3, a4, a5], .agg #[e0, e1, e2, e3, e4, e5]] W fun e w' => e = .returned (.bool bb) ∧ Keeps (fun _ => False) W w') := H_ fun W hW => by
     have hkW := HK3.out.keep.trans hW fun _ _ h => h
     refine (HIH.out x (List.mem_of_getElem? hxx) y W [a0, a1, a2, a3, a4, a5] [e0, e1, e2, e3, e4, e5] (hra.stay hkW) (hra2.stay hkW)).mono ?_
     rintro e' w' ⟨b', he, hb', hk⟩
     refine ⟨?_, hk⟩
     rw [he, show b' = bb from Bool.eq_iff_iff.2 (hb'.trans hbb.symm)]
    have HT4 := H_ (And.intro (And.intro x4 y4) (And.intro (fun W (hW : Keeps (fun _ => False) wr W) q v hv => cell_keep (HK3.out.keep.trans hW fun _ _ h => h) (hrg q v hv)) (fun W (hW : Keeps (fun _ => False) wr W) q v hv => cell_keep (HK3.out.keep.trans hW fun _ _ h => h) (hrg2 q v hv))))
    have HXY := H_ (And.intro (And.intro hxx hyy) hbb)
    have hi63 : (0 : Int) ≤ (e : Int) := by omega
    have hiN : (e : Int) < (n : Int) := by omega
    clear hxx hyy hr hr2 hrg hrg2 hra hra2 hac hec hbb
    go_upto_region 11 with fail
    refine wp_region_held_drew (S := Keeps (fun _ => False) wr) (by kernel_rfl) (Keeps.refl _ _).drew (fun h_ => ?_)
    refine tI 0 76 h_ ?_
    try simp only [pu]
    refine tI 1 77 h_ ?_ (hy := .inl ⟨by rfl, by intro w' hSw; have cv := cell_keep hSw HT4.out.1.1; go_simp; first | done | rfl⟩)
    try simp only [pu]
    refine tI 2 78 h_ ?_
    try simp only [pu]
    refine tI 3 79 h_ ?_
    try simp only [pu]
    refine tI 4 80 h_ ?_ (hy := (yieldsIf_load_mid (by rfl) _ _ rfl _ _ rfl [a0, a1, a2, a3, a4, a5] _ (fun w' h => HT4.out.2.1 _ h) Tryz.underlying31 rfl (by kernel_rfl)))
    try simp only [pu]
    refine tI 5 81 h_ ?_
    try simp only [pu]
    refine tI 6 82 h_ ?_ (hy := .inl ⟨by rfl, by intro w' hSw; have cv := cell_keep hSw HT4.out.1.2; go_simp; first | done | rfl⟩)
    try simp only [pu]
    refine tI 7 83 h_ ?_
    try simp only [pu]
    refine tI 8 84 h_ ?_
    try simp only [pu]
    refine tI 9 85 h_ ?_ (hy := (yieldsIf_load_mid (by rfl) _ _ rfl _ _ rfl [e0, e1, e2, e3, e4, e5] _ (fun w' h => HT4.out.2.2 _ h) Tryz.underlying31 rfl (by kernel_rfl)))
    try simp only [pu]
    refine rH 10 (some 86) fun K hK => ?_
    go_simp
    refine (HSA.out _ h_).mono ?_
    rintro e vv ⟨rfl, hkk⟩
    have hqq := h_.trans hkk (fun _ _ h => h)
    refine hK.out _ _ hqq (fun h_ => ?_)
    clear hK K
    try simp only [pu]
    refine tI 11 87 h_ ?_
    try simp only [pu]
    refine wpAnyH_done (by kernel_rfl) ?_ _
    have HK9 := H_ (HK3.out.keep.trans h_ fun _ _ h => h)
    have HK8 := H_ (HP.out.1.trans h_ fun _ _ h => h)
    clear h_ x4 y4
    rcases bb with _ | _
    ·have HN0 : Hid (j ≠ k) := H_ fun e' => by
      have h1 := HXY.out.1.1
      rw [e', HXY.out.1.2] at h1
      injection h1 with h1
      have h2 := HXY.out.2.2 h1.symm
      cases h2
     go_wp2
     go_ret
     exact same_no HK9.out HN0.out
    ·have HE : Hid (j.items.take (e + 1) = k.items.take (e + 1)) := H_ (by
      rw [List.take_add_one, List.take_add_one, HP.out.2, HXY.out.1.1, HXY.out.1.2, HXY.out.2.1 rfl])
     go_wp2
     go_roundg (n - (e + 1))
     case measure => rw [HGK2.out]; omega
     case rel => exact ⟨e + 1, by omega, by go_num, rfl, H_ ⟨HK8.out, HE.out⟩⟩
   obtain rfl : e = n := by omega
   have HJK : Hid (j = k) := H_ (by
    have h := HP.out.2
    rw [List.take_of_length_le (by rw [HN.out.1.1]; exact Nat.le_refl _), List.take_of_length_le (by rw [HN.out.1.2]; exact Nat.le_refl _)] at h
    have hz := HZ.out
    exact jv_ext (hz.1.1.symm.trans hz.1.2) (hz.2.1.1.symm.trans hz.2.1.2) (hz.2.2.1.1.symm.trans hz.2.2.1.2) (hz.2.2.2.1.symm.trans hz.2.2.2.2) h HKE.out)
   go_wp2
   go_ret
   exact ⟨true, rfl, ⟨fun _ => HJK.out, fun _ => rfl⟩, HK3.out.keep⟩
theorem rsame_any : ∀ (j : JV), JOk j → j.nodes ≤ 1048576 → ∀ (k : JV) (D E : Nat → Prop) (w : World) (v v2 : List Value), RAt D w v j → RAt E w v2 k → Calls Tryz.prog 68 #[.agg v.toArray, .agg v2.toArray] w (SamePost w j k) := by
 intro j hok
 induction hok with
 | mk j h1 h2 hp hr ht h ih =>
  intro hn k D E w v v2 hj hk
  have h3 := items_nodes j
  refine rsame_one w v v2 j k hj hk hn (by have := (JOk.mk j h1 h2 hp hr ht h).form.1; omega) fun x hx y W t s hx2 hy2 => ih x hx ?_ y D E W t s hx2 hy2
  have h5 := sumN_mem (List.mem_map.2 ⟨x, hx, rfl⟩ : x.nodes ∈ j.items.map fun x => x.nodes)
  rw [JV.nodes_eq] at hn
  omega
end Go.Proofs.YtdmcioghdindfaaGreatDoor
