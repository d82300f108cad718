/- Texts. -/
import Derived.StillTail
import Derived.Deep.Quiet
import Derived.BigQuiet
import Derived.WalkKit
import Derived.Deep.OwnRows
import Derived.Laws.ResultCell
import Derived.Deep.RegionHeld3
set_option linter.unusedSimpArgs false
set_option maxRecDepth 100000
set_option maxHeartbeats 4000000
namespace Go
section
variable {P : Program} {ops : Array Oper} {md : Region.Mode} {C : World → Prop}
def headAny (P : Program) (md : Region.Mode) (ops : Array Oper) (C : World → Prop) (n : Nat) (L : Array Bool → Act → Prop) : Nat → Array Bool → Act → Prop
 | 0, done, a => L done a
 | f + 1, done, a => Region.ready md ops done ≠ [] ∧ ∀ i ∈ Region.ready md ops done, i < n ∧ qOp P ops C i (headAny P md ops C n L f (done.setIfInBounds i true)) a
theorem wpAny_of_headAny {n g : Nat} {L : Array Bool → Act → Prop} {Q' : Exit → Act → World → Prop} (hL : ∀ done a w, C w → L done a → wpAny P md ops Q' g done a w) (f : Nat) :
  ∀ (done : Array Bool) (a : Act) (w : World), C w → headAny P md ops C n L f done a → wpAny P md ops Q' (f + g) done a w := by
 induction f with
 | zero => intro done a w hw h; rw [Nat.zero_add]; exact hL _ _ _ hw h
 | succ f ih =>
  intro done a w hw h
  have e : f + 1 + g = (f + g) + 1 := by omega
  rw [e]
  refine ⟨fun h0 => absurd h0 h.1, fun i hi => ?_⟩
  exact wpOp_of_qOp hw (fun a' w' hw' h' => ih _ a' w' hw' h') (h.2 i hi).2
theorem headAny_first {n i : Nat} {oi : Oper} {v : Value} {L : Array Bool → Act → Prop} (hi : ops[i]? = some oi) (hsel : ∀ (j : Nat) (o : Oper) cs b, ops[j]? = some o → o.op ≠ .select cs b)
  (hs : Region.sinkB md ops n = true) (hc : Region.chainB md ops n = true) (hn : n < ops.size) (hin : i < n) (hend : ∀ done a, L done a → ∀ j ∈ Region.ready md ops done, n ≤ j) (f : Nat) :
  ∀ (done : Array Bool) (a : Act), HeadInv md ops n done →
   (∀ j oj, ops[j]? = some oj → j ≠ i → done.getD j true = false → (∀ e ∈ oj.after, Region.binds md e = true → e.on ≠ i) → oi.apart ops oj = true) →
   i ∈ Region.ready md ops done → YieldsIn P ops C oi v a → headAny P md ops C n L f (done.setIfInBounds i true) (a.put oi.dst v) → headAny P md ops C n L (f + 1) done a := by
 induction f with
 | zero =>
  intro done a inv _ hr hy H
  have hun := (mem_ready.1 hr).1
  refine ⟨fun h => absurd (h ▸ hr) (by simp), fun j hj => ?_⟩
  have hjn : j < n := Nat.lt_of_not_le fun h => tail_waits hs hc hn inv _ i rfl hin hun j h hj
  refine ⟨hjn, ?_⟩
  rcases Nat.decEq j i with hji | hji
  ·exact absurd (hend _ _ H j (ready_mono hj hji)) (by omega)
  ·subst hji; exact hy.qOp hi H
 | succ f ih =>
  intro done a inv hfree hr hy H
  have hun := (mem_ready.1 hr).1
  refine ⟨fun h => absurd (h ▸ hr) (by simp), fun j hj => ?_⟩
  have hjn : j < n := Nat.lt_of_not_le fun h => tail_waits hs hc hn inv _ i rfl hin hun j h hj
  refine ⟨hjn, ?_⟩
  rcases Nat.decEq j i with hji | hji
  ·have h1 := (H.2 j (ready_mono hj hji)).2
   obtain ⟨hjun, oj, hoj, hall⟩ := mem_ready.1 hj
   have hnot : ∀ e ∈ oj.after, Region.binds md e = true → e.on ≠ i := by
    intro e he hb heq
    have h2 := hall e he hb
    rw [heq, getD_both hun] at h2
    exact absurd h2 (by simp)
   have h2 := qOp_put hoj (hfree j oj hoj hji hjun hnot) (fun cs b => hsel i oi cs b hi) (fun cs b => hsel j oj cs b hoj) hy h1
   refine qOp_mono (fun a' h3 => ih (done.setIfInBounds j true) a' (inv.set hj hjn) ?_ (ready_mono hr (Ne.symm hji)) h3.1 ?_) h2
   ·intro k ok hk hki hkun hno
    refine hfree k ok hk hki ?_ hno
    rcases Nat.decEq j k with hjk | hjk
    ·rwa [getD_set_ne true hjk] at hkun
    ·subst hjk; exact hjun
   ·rw [Array.setIfInBounds_comm _ _ hji]
    exact h3.2
  ·subst hji; exact hy.qOp hi H
theorem headAny_lex {n g : Nat} {Lq : Act → Prop} (hsel : Region.noSelect ops = true) (hs : Region.sinkB md ops n = true) (hc : Region.chainB md ops n = true) (hn : n < ops.size) (l : List Oper) :
  ∀ (k : Nat) (done : Array Bool) (a : Act), (∀ j, j < l.length → l[j]? = ops[k + j]?) → k + l.length = n → HeadInv md ops n done →
  Region.lexHead md ops g l.length k done = true → wpQuiet P ops C Lq l a → headAny P md ops C n (fun done' a' => Region.seqB md ops g n done' = true ∧ Lq a') l.length done a := by
 induction l with
 | nil =>
  intro k done a _ hk _ hB h
  have e : k = n := by simpa using hk
  rw [e] at hB
  exact ⟨hB, h⟩
 | cons o l ih =>
  intro k done a hl hk inv hB h
  have h0 : ops[k]? = some o := by simpa using (hl 0 (by simp)).symm
  have hk' : k + (l.length + 1) = n := by simpa using hk
  simp only [List.length_cons, Region.lexHead, Bool.and_eq_true] at hB
  have hr : k ∈ Region.ready md ops done := by simpa using hB.1.1
  have hst : qOp P ops C k (wpQuiet P ops C Lq l) a := by unfold qOp; rw [h0]; exact h
  obtain ⟨v, hy, hK⟩ := yieldsIn_of_qOp h0 hst
  refine headAny_first h0 (Region.noSelect_spec hsel) hs hc hn (by omega) (fun d a' hL => seqB_ready hL.1) l.length done a inv (Region.free_spec h0 hB.1.2) hr hy ?_
  refine ih (k + 1) _ _ (fun j hj => ?_) (by omega) (inv.set hr (by omega)) hB.2 hK
  have := hl (j + 1) (by simp; omega)
  rw [show k + 1 + j = k + (j + 1) from by omega]
  simpa using this
theorem wp_region_quiet_tail {id : Nat} {Q : Exit → Act → World → Prop} {a : Act} {w : World} {l : List Oper} (n : Nat) (hm : P.follows .mixedOrders = true) (hB : Region.lexTailB .any l.toArray n = true)
  (h : wpQuiet P l.toArray (fun w' => ∃ k, w' = w.drewN k) (fun a' => ∀ w', (∃ k, w' = w.drewN k) → wpList P l.toArray Q (l.drop n) a' w') (l.take n) a) : (Code.region id l.toArray true).wp P Q a w := by
 simp only [Region.lexTailB, Bool.and_eq_true, decide_eq_true_eq] at hB
 obtain ⟨⟨⟨⟨hsel, hn⟩, hs⟩, hc⟩, hlex⟩ := hB
 have hn' : n < l.length := by simpa using hn
 have htl : (l.take n).length = n := by simp; omega
 have hdl : (l.drop n).length = l.toArray.size - n := by simp
 have inv0 : HeadInv .any l.toArray n (Array.replicate l.toArray.size false) :=
  ⟨by simp, fun j oj _ hl => (by rw [getD_replicate_false] at hl; cases hl), fun t _ ht => getD_in (by simpa using ht) (getD_replicate_false _ _)⟩
 have H := headAny_lex (md := .any) (g := l.toArray.size - n) hsel hs hc hn (l.take n) 0 _ a (fun j hj => by
  have hj' : j < n := by rw [htl] at hj; exact hj
  simp [hj']) (by simpa using htl) inv0 (by rw [htl]; exact hlex) h
 refine wp_region_any hm ?_
 have := wpAny_of_headAny (Q' := Q) (g := l.toArray.size - n) (fun done a' w' hw' hL => by
  have := wpAny_of_seq (md := .any) (Q' := Q) (l.drop n) n done a' w' (fun j => by simp [List.getElem?_drop]) (by rw [hdl]; exact hL.1) (hL.2 w' hw')
  rwa [hdl] at this) _ _ _ { w with drawn := w.drawn + 1 } ⟨1, rfl⟩ H
 rwa [htl, show n + (l.toArray.size - n) = l.toArray.size by omega] at this
end
end Go
namespace Go.Aff
open Go
open Go.RowKit
def Blk (w : World) (g : Nat) (t : TypeId) (cs : List Value) : Prop := w.heap[g]? = some (.cells cs.toArray t (0, 0))
def splice (cs : List Value) (o : Nat) (vs : List Value) : List Value := cs.take o ++ vs ++ cs.drop (o + vs.length)
theorem splice_getElem? (cs : List Value) (o : Nat) (vs : List Value) (h : o + vs.length ≤ cs.length) (j : Nat) :
  (splice cs o vs)[j]? = if j < o then cs[j]? else if j < o + vs.length then vs[j - o]? else cs[j]? := by
 unfold splice
 have h1 : (cs.take o).length = o := by simp; omega
 by_cases a : j < o
 ·rw [if_pos a, List.append_assoc, List.getElem?_append_left (by omega), List.getElem?_take]; simp [a]
 ·rw [if_neg a]
  by_cases b : j < o + vs.length
  ·rw [if_pos b, List.getElem?_append_left (by simp; omega), List.getElem?_append_right (by omega), h1]
  ·rw [if_neg b, List.getElem?_append_right (by simp; omega), List.getElem?_drop]
   congr 1; simp; omega
theorem splice_all (cs vs : List Value) (h : cs.length = vs.length) : splice cs 0 vs = vs := by
 simp [splice, ← h]
theorem add_at (g o i : Nat) : (⟨g, o, none⟩ : Addr).add i = ⟨g, o + i, none⟩ := by
 unfold Addr.add; split <;> simp_all
section
variable {P : Program} {w w' : World} {g : Nat} {t : TypeId} {cs : List Value}
theorem Blk.lt (h : Blk w g t cs) : g < w.heap.size := by
 rcases Nat.lt_or_ge g w.heap.size with hlt | hge
 ·exact hlt
 ·unfold Blk at h; rw [Array.getElem?_eq_none hge] at h; cases h
theorem Blk.cell (h : Blk w g t cs) (i : Nat) : w.cell? ⟨g, i, none⟩ = cs[i]? := by
 rw [cell_of_row w g i cs.toArray t (0, 0) h]; simp
theorem Blk.frozen (h : Blk w g t cs) (i : Nat) : w.frozen? ⟨g, i, none⟩ = false := by
 unfold Blk at h
 simp [World.frozen?, h]
theorem Blk.new (w : World) (t : TypeId) (cs : List Value) : Blk (w.alloc (.cells cs.toArray t)) w.heap.size t cs := heap_alloc_new w _
theorem Blk.drew (h : Blk w g t cs) : Blk w.drew g t cs := h
theorem Blk.drewN (h : Blk w g t cs) (n : Nat) : Blk (w.drewN n) g t cs := h
theorem Blk.alloc (h : Blk w g t cs) (o : Obj) : Blk (w.alloc o) g t cs := (Below.heap_alloc w o g h.lt).trans h
theorem Blk.set_ (h : Blk w g t cs) (i : Nat) (u : Value) : Blk (w.setCell ⟨g, i, none⟩ u) g t (cs.set i u) := by
 unfold Blk at h ⊢
 simp [World.setCell, Array.getElem?_modify, h]
theorem Blk.far (h : Blk w g t cs) {p : Addr} (hp : g ≠ p.block) (u : Value) : Blk (w.setCell p u) g t cs := (Below.heap_setCell w p u g hp).trans h
theorem Blk.setRow (h : Blk w g t cs) (vs : List Value) : Blk (w.setRow g vs.toArray) g t vs := setRow_heap w g _ _ t _ h
theorem Blk.setRow_far (h : Blk w g t cs) {k : Nat} (hp : g ≠ k) (vs : Array Value) : Blk (w.setRow k vs) g t cs := (setRow_other w k g vs hp).trans h
theorem Blk.of_block (h : Blk w g t cs) (e : w'.heap[g]? = w.heap[g]?) : Blk w' g t cs := e.trans h
theorem Blk.below {B : Nat} (h : Blk w g t cs) (hb : Below B w w') (hg : g < B) : Blk w' g t cs := (hb.block g hg).trans h
theorem run_storeCells_at (g o : Nat) (t : TypeId) (vs : List Value) : ∀ (i : Nat) (cs : List Value) (w : World), Blk w g t cs → o + i + vs.length ≤ cs.length → (∀ v ∈ vs, v.oneCell' = true) →
  (storeCells ⟨g, o, none⟩ vs i).run P w = .ok () (w.setRow g (splice cs (o + i) vs).toArray) := by
 induction vs with
 | nil =>
  intro i cs w hg hl _
  have e : splice cs (o + i) [] = cs := by simp [splice]
  rw [e]
  simp only [storeCells]
  show Result.ok () w = _
  congr 1
  have hlt := hg.lt
  have hv : w.heap[g] = .cells cs.toArray t (0, 0) := (Array.getElem?_eq_some_iff.1 hg).2
  unfold World.setRow
  cases w with
  | mk heap tape drawn os output =>
   congr 1
   apply Array.ext
   ·simp
   ·intro k h1 h2
    simp only [Array.getElem_modify]
    split
    ·rename_i hk; subst hk; simp at hv; simp [hv]
    ·rfl
 | cons v rest ih =>
  intro i cs w hg hl h1
  have hi : o + i < cs.length := by simp at hl; omega
  have hcell : w.cell? ⟨g, o + i, none⟩ = some cs[o + i] := by rw [hg.cell, List.getElem?_eq_getElem hi]
  have hfro : w.frozen? ⟨g, o + i, none⟩ = false := hg.frozen _
  have hst : (store ((⟨g, o, none⟩ : Addr).add i) v).run P w = .ok () (w.setCell ⟨g, o + i, none⟩ v) := by
   rw [add_at, run_store P w _ v _ (h1 v (by simp))]
   simp [hcell, hfro]
  have hn := ih (i + 1) (cs.set (o + i) v) (w.setCell ⟨g, o + i, none⟩ v) (hg.set_ _ _) (by simp at hl ⊢; omega) (fun u hu => h1 u (by simp [hu]))
  simp only [storeCells, Sem.run_bind, hst, Result.andThen_ok, hn]
  congr 1
  have hb : Blk (w.setCell ⟨g, o + i, none⟩ v) g t (cs.set (o + i) v) := hg.set_ _ _
  have e1 : w.setCell ⟨g, o + i, none⟩ v = w.setRow g (cs.set (o + i) v).toArray := by
   rw [setCell_eq_setRow w g (o + i) cs.toArray t (0, 0) v hg]; simp
  rw [e1, setRow_setRow]
  congr 2
  have hl' : o + i + (v :: rest).length ≤ cs.length := by simpa using hl
  apply List.ext_getElem?
  intro j
  rw [splice_getElem? _ _ _ (by simp at hl' ⊢; omega), splice_getElem? _ _ _ hl']
  simp only [List.getElem?_set, List.length_cons]
  by_cases a : j < o + i
  ·rw [if_pos (by omega), if_pos a, if_neg (by omega)]
  ·by_cases b : j = o + i
   ·subst b; rw [if_pos (by omega), if_pos rfl, if_neg a, if_pos (by omega)]; simp
   ·rw [if_neg (by omega), if_neg a]
    by_cases c : j < o + (i + 1) + rest.length
    ·rw [if_pos c, if_pos (by omega), show j - (o + i) = (j - (o + (i + 1))) + 1 by omega]; simp
    ·rw [if_neg c, if_neg (by omega), if_neg (by omega)]
theorem run_storeVar_at (ty : TypeId) (o : Nat) (vs : List Value) (hg : Blk w g t cs) (hl : o + vs.length ≤ cs.length) (hi : (P.info? ty).map (·.size) = some vs.length) (h1 : ∀ v ∈ vs, v.oneCell' = true) :
  (storeVar ty ⟨g, o, none⟩ (.agg vs.toArray)).run P w = .ok () (w.setRow g (splice cs o vs).toArray) := by
 cases hq : P.info? ty with
 | none => simp [hq] at hi
 | some i =>
  have hs : i.size = vs.length := by simpa [hq] using hi
  have := run_storeCells_at (P := P) g o t vs 0 cs w hg (by omega) h1
  simp [storeVar, sizeOf, typeInfo, hq, Value.cells, hs, this]
theorem wpList_store_at {ops : Array Oper} {rest : List Oper} {o : Oper} {a : Act} {Q : Exit → Act → World → Prop} (hgd : o.guard = none) (ty : TypeId) (x v : Operand) (ho : o.op = .store ty x v)
  (off : Nat) (vs : List Value) (hx : a.eval x = .pointer (some ⟨g, off, none⟩)) (hv : a.eval v = .agg vs.toArray) (hg : Blk w g t cs) (hl : off + vs.length ≤ cs.length) (hi : (P.info? ty).map (·.size) = some vs.length) (h1 : ∀ v ∈ vs, v.oneCell' = true)
  (h : wpList P ops Q rest (a.put o.dst undef) (w.setRow g (splice cs off vs).toArray)) : wpList P ops Q (o :: rest) a w :=
 wpList_plain hgd fun _ hK => by
  unfold Oper.wp execOp
  simp only [ho, hx, hv, Instr.storeAt, Instr.sureAddr, Sem.run_bind, Sem.run_pure, Result.andThen_ok, run_storeVar_at ty off vs hg hl hi h1]
  exact hK _ _ h
theorem run_loadVar_at (ty : TypeId) (o n : Nat) (d : TypeDesc) (hg : Blk w g t cs) (hl : o + n ≤ cs.length)
  (hu : P.underlying ty = some d) (hd : (match d with | .struct _ | .array _ _ => true | _ => false) = true) (hi : (P.info? ty).map (·.size) = some n) :
  (loadVar ty ⟨g, o, none⟩).run P w = .ok (.agg ((cs.drop o).take n).toArray) w := by
 have hlen : ((cs.drop o).take n).length = n := by simp; omega
 have hl' : (loadCells ⟨g, o, none⟩ ((cs.drop o).take n).length).run P w = .ok ((cs.drop o).take n).toArray w :=
  run_loadCells_list (P := P) w ⟨g, o, none⟩ ((cs.drop o).take n) (fun j v hv => by
   rw [add_at, hg.cell]
   rw [List.getElem?_take] at hv
   split at hv
   ·rwa [List.getElem?_drop] at hv
   ·cases hv)
 rw [hlen] at hl'
 cases hq : P.info? ty with
 | none => simp [hq] at hi
 | some i =>
  have hs : i.size = n := by simpa [hq] using hi
  have hagg : (isAgg ty).run P w = .ok true w := by
   unfold isAgg
   rw [Sem.run_bind, run_underlying hu w]
   cases d <;> simp_all
  simp [loadVar, Sem.run_bind, hagg, sizeOf, typeInfo, hq, hs, hl']
theorem wpList_load_at {ops : Array Oper} {rest : List Oper} {o : Oper} {a : Act} {Q : Exit → Act → World → Prop} (hgd : o.guard = none) (ty : TypeId) (x : Operand) (ho : o.op = .load ty x)
  (off n : Nat) (d : TypeDesc) (hx : a.eval x = .pointer (some ⟨g, off, none⟩)) (hg : Blk w g t cs) (hl : off + n ≤ cs.length)
  (hu : P.underlying ty = some d) (hd : (match d with | .struct _ | .array _ _ => true | _ => false) = true) (hi : (P.info? ty).map (·.size) = some n)
  (h : wpList P ops Q rest (a.put o.dst (.agg ((cs.drop off).take n).toArray)) w) : wpList P ops Q (o :: rest) a w :=
 wpList_plain hgd fun _ hK => by
  unfold Oper.wp execOp
  simp only [ho, hx, Instr.loadAt, Instr.sureAddr, Sem.run_bind, Sem.run_pure, Result.andThen_ok, run_loadVar_at ty off n d hg hl hu hd hi]
  exact hK _ _ h
def Lies (w : World) (g o : Nat) (vs : List Value) : Prop := ∀ j, j < vs.length → w.cell? ⟨g, o + j, none⟩ = vs[j]?
theorem Lies.drewN {vs : List Value} {o : Nat} (h : Lies w g o vs) (k : Nat) : Lies (w.drewN k) g o vs := h
theorem Lies.of_blk {vs : List Value} {o : Nat} (h : Blk w g t cs) (e : (cs.drop o).take vs.length = vs) : Lies w g o vs := by
 intro j hj
 rw [h.cell]
 have h1 : ((cs.drop o).take vs.length)[j]? = vs[j]? := by rw [e]
 rw [List.getElem?_take, if_pos hj, List.getElem?_drop] at h1
 exact h1
theorem run_loadVar_lies (ty : TypeId) (o : Nat) (vs : List Value) (d : TypeDesc) (hg : Lies w g o vs)
  (hu : P.underlying ty = some d) (hd : (match d with | .struct _ | .array _ _ => true | _ => false) = true) (hi : (P.info? ty).map (·.size) = some vs.length) :
  (loadVar ty ⟨g, o, none⟩).run P w = .ok (.agg vs.toArray) w := by
 have hl' : (loadCells ⟨g, o, none⟩ vs.length).run P w = .ok vs.toArray w :=
  run_loadCells_list (P := P) w ⟨g, o, none⟩ vs (fun j v hv => by
   rw [add_at, hg j (List.getElem?_eq_some_iff.1 hv).1, hv])
 cases hq : P.info? ty with
 | none => simp [hq] at hi
 | some i =>
  have hs : i.size = vs.length := by simpa [hq] using hi
  have hagg : (isAgg ty).run P w = .ok true w := by
   unfold isAgg
   rw [Sem.run_bind, run_underlying hu w]
   cases d <;> simp_all
  simp [loadVar, Sem.run_bind, hagg, sizeOf, typeInfo, hq, hs, hl']
theorem wpList_load_lies {ops : Array Oper} {rest : List Oper} {o : Oper} {a : Act} {Q : Exit → Act → World → Prop} (hgd : o.guard = none) (ty : TypeId) (x : Operand) (ho : o.op = .load ty x)
  (off : Nat) (vs : List Value) (d : TypeDesc) (hx : a.eval x = .pointer (some ⟨g, off, none⟩)) (hg : Lies w g off vs)
  (hu : P.underlying ty = some d) (hd : (match d with | .struct _ | .array _ _ => true | _ => false) = true) (hi : (P.info? ty).map (·.size) = some vs.length)
  (h : wpList P ops Q rest (a.put o.dst (.agg vs.toArray)) w) : wpList P ops Q (o :: rest) a w :=
 wpList_plain hgd fun _ hK => by
  unfold Oper.wp execOp
  simp only [ho, hx, Instr.loadAt, Instr.sureAddr, Sem.run_bind, Sem.run_pure, Result.andThen_ok, run_loadVar_lies ty off vs d hg hu hd hi]
  exact hK _ _ h
theorem wpQuiet_load_lies {ops : Array Oper} {rest : List Oper} {o : Oper} {a : Act} {Q : Act → Prop} (hgd : o.guard = none) (ty : TypeId) (x : Operand) (ho : o.op = .load ty x)
  (off : Nat) (vs : List Value) (d : TypeDesc) (hx : a.eval x = .pointer (some ⟨g, off, none⟩)) (hg : Lies w g off vs)
  (hu : P.underlying ty = some d) (hd : (match d with | .struct _ | .array _ _ => true | _ => false) = true) (hi : (P.info? ty).map (·.size) = some vs.length)
  (h : wpQuiet P ops (fun w' => ∃ k, w' = w.drewN k) Q rest (a.put o.dst (.agg vs.toArray))) : wpQuiet P ops (fun w' => ∃ k, w' = w.drewN k) Q (o :: rest) a := by
 unfold wpQuiet
 rw [if_pos (by simp [Region.wanted, hgd])]
 refine ⟨_, ?_, h⟩
 rintro w' ⟨k, rfl⟩
 unfold Oper.quietAt execOp
 simp only [ho, hx, Instr.loadAt, Instr.sureAddr, Sem.run_bind, Sem.run_pure, Result.andThen_ok, run_loadVar_lies ty off vs d (hg.drewN k) hu hd hi]
 exact ⟨rfl, rfl⟩
theorem blk_of_row {n : Nat} {f : Nat → Value} (h : w.rowIs g t n f) : Blk w g t ((List.range n).map f) := by
 obtain ⟨c, hc, hs, hf⟩ := h
 unfold Blk
 rw [hc]
 congr 2
 apply Array.ext_getElem?
 intro i
 by_cases hi : i < n
 ·rw [hf i hi]; simp [hi]
 ·rw [Array.getElem?_eq_none (show c.size ≤ i by omega), Array.getElem?_eq_none (show ((List.range n).map f).toArray.size ≤ i by simp; omega)]
theorem row_of_blk {n : Nat} {f : Nat → Value} (h : Blk w g t ((List.range n).map f)) : w.rowIs g t n f :=
 ⟨_, h, by simp, fun i hi => by simp [hi]⟩
theorem wpList_load_whole {ops : Array Oper} {rest : List Oper} {o : Oper} {a : Act} {Q : Exit → Act → World → Prop} (hgd : o.guard = none) (ty : TypeId) (x : Operand) (ho : o.op = .load ty x)
  (d : TypeDesc) (hx : a.eval x = .pointer (some ⟨g, 0, none⟩)) (hg : Blk w g t cs)
  (hu : P.underlying ty = some d) (hd : (match d with | .struct _ | .array _ _ => true | _ => false) = true) (hi : (P.info? ty).map (·.size) = some cs.length)
  (h : wpList P ops Q rest (a.put o.dst (.agg cs.toArray)) w) : wpList P ops Q (o :: rest) a w :=
 wpList_load_at hgd ty x ho 0 cs.length d hx hg (by omega) hu hd hi (by simpa using h)
theorem wpList_store_whole {ops : Array Oper} {rest : List Oper} {o : Oper} {a : Act} {Q : Exit → Act → World → Prop} (hgd : o.guard = none) (ty : TypeId) (x v : Operand) (ho : o.op = .store ty x v)
  (vs : List Value) (hx : a.eval x = .pointer (some ⟨g, 0, none⟩)) (hv : a.eval v = .agg vs.toArray) (hg : Blk w g t cs) (hl : cs.length = vs.length) (hi : (P.info? ty).map (·.size) = some vs.length) (h1 : ∀ v ∈ vs, v.oneCell' = true)
  (h : wpList P ops Q rest (a.put o.dst undef) (w.setRow g vs.toArray)) : wpList P ops Q (o :: rest) a w :=
 wpList_store_at hgd ty x v ho 0 vs hx hv hg (by omega) hi h1 (by rw [splice_all _ _ hl]; exact h)
theorem results_blk {fn : Func} {p : Tmp} {ty : TypeId} (h : fn.results = #[.cell p ty]) (tmps : Array Value) (d : TypeDesc)
  (hp : tmps.getD p undef = .pointer (some ⟨g, 0, none⟩)) (hg : Blk w g t cs)
  (hu : P.underlying ty = some d) (hd : (match d with | .struct _ | .array _ _ => true | _ => false) = true) (hi : (P.info? ty).map (·.size) = some cs.length) :
  (results fn tmps).run P w = .ok (.agg cs.toArray) w :=
 results_cell_row h tmps w g t cs.toArray (0, 0) d hp hg hu hd (by simpa using hi)
theorem Below.setRow {B : Nat} {a w : World} (h : Below B a w) {g : Nat} (hp : B ≤ g) (cs : Array Value) : Below B a (w.setRow g cs) :=
 ⟨h.os, h.tape, h.output, by simpa using h.size, fun i hi => (setRow_other w g i cs (by omega)).trans (h.block i hi)⟩
theorem Below.drewN {B : Nat} {a w : World} (h : Below B a w) (n : Nat) : Below B a (w.drewN n) := ⟨h.os, h.tape, h.output, h.size, h.block⟩
theorem rowIs_setRow_far {n k : Nat} {f : Nat → Value} (h : w.rowIs g t n f) (hp : g ≠ k) (vs : Array Value) : (w.setRow k vs).rowIs g t n f := h.of_block (setRow_other w k g vs hp)
end
end Go.Aff
namespace Go
section
variable {P : Program} {ops : Array Oper} {md : Region.Mode} {C : World → Prop}
def Oper.plainB (o : Oper) : Bool :=
 o.guard.isNone && match o.op with
 | .move _ | .assign _ | .binOp .. | .unOp .. | .convert .. | .makeInterface .. | .slice .. | .fieldAddr .. | .field .. | .indexAddr .. | .index .. | .extract .. | .sliceToArrayPointer .. | .nilCheck _ => true
 | _ => false
theorem run_told {s : Sem Value} {w w' : World} {n : Next} (h : (do pure (Next.value (← s)) : Sem Next).run P w = .ok n w') : ∃ u, n = .value u := by
 rw [Sem.run_bind] at h
 cases hs : s.run P w with
 | ok v w1 => rw [hs] at h; simp only [Result.andThen_ok, Sem.run_pure] at h; injection h with h1; exact ⟨v, h1.symm⟩
 | halt x w1 => rw [hs] at h; cases h
theorem plain_value {o : Oper} (h : o.plainB = true) {ρ : Operand → Value} {w w' : World} {n : Next} (hr : (execOp ρ o).run P w = .ok n w') : (∃ u, n = .value u) ∨ ∃ x, o.op = .nilCheck x := by
 obtain ⟨dst, op, type, pos, after, guard⟩ := o
 unfold Oper.plainB at h
 simp only [Bool.and_eq_true] at h
 have h2 := h.2
 cases op <;> simp only [Bool.false_eq_true] at h2 <;> simp only [execOp] at hr
 case move x => rw [Sem.run_pure] at hr; injection hr with h1; exact .inl ⟨_, h1.symm⟩
 case assign x => rw [Sem.run_pure] at hr; injection hr with h1; exact .inl ⟨_, h1.symm⟩
 case nilCheck x => exact .inr ⟨x, rfl⟩
 all_goals exact .inl (run_told hr)
theorem nilCheck_value {ρ : Operand → Value} {o : Oper} {x : Operand} (ho : o.op = .nilCheck x) {w w' : World} {n : Next} (hr : (execOp ρ o).run P w = .ok n w') : ∃ u, n = .value u := by
 unfold execOp at hr
 rw [ho] at hr
 dsimp only at hr
 split at hr
 ·cases hr
 ·cases hr
 ·cases hr
 ·split at hr
  ·cases hr
  ·rw [Sem.run_bind] at hr
   generalize Sem.run P program w = r1 at hr
   cases r1 with
   | halt _ _ => cases hr
   | ok p w1 =>
    simp only [Result.andThen_ok] at hr
    rw [Sem.run_bind] at hr
    generalize Sem.run P (nilAhead _ _ _ _) w1 = r2 at hr
    cases r2 with
    | halt _ _ => cases hr
    | ok q w2 =>
     simp only [Result.andThen_ok] at hr
     split at hr
     ·cases hr
     ·rw [Sem.run_pure] at hr; injection hr with h1; exact ⟨_, h1.symm⟩
  ·rw [Sem.run_pure] at hr; injection hr with h1; exact ⟨_, h1.symm⟩
 ·rw [Sem.run_pure] at hr; injection hr with h1; exact ⟨_, h1.symm⟩
def pickOps (l : List Oper) (is : List Nat) : List Oper := is.filterMap (l[·]?)
def preDone (is : List Nat) (done : Array Bool) : Array Bool := is.foldl (fun d i => d.setIfInBounds i true) done
def preB (md : Region.Mode) (ops : Array Oper) : List Nat → Array Bool → Bool
 | [], _ => true
 | i :: is, done => (Region.ready md ops done).contains i && Region.free md ops done i && ((ops[i]?).map (·.plainB)).getD false && preB md ops is (done.setIfInBounds i true)
def postB (md : Region.Mode) (ops : Array Oper) : List Nat → Array Bool → Bool
 | [], done => (Region.ready md ops done).isEmpty
 | i :: is, done => decide (Region.ready md ops done = [i]) && postB md ops is (done.setIfInBounds i true)
def midB (md : Region.Mode) (ops : Array Oper) (post : List Nat) : List Nat → Array Bool → Bool
 | [], done => postB md ops post done
 | i :: is, done => (Region.ready md ops done).contains i && Region.free md ops done i && midB md ops post is (done.setIfInBounds i true)
def sinkL (md : Region.Mode) (ops : Array Oper) (c0 : Nat) : List Nat → Bool
 | [] => true
 | b :: bs => (Region.waitsFor md ops c0 b || bs.any fun b' => Region.waitsFor md ops b' b) && sinkL md ops c0 bs
def orderB (md : Region.Mode) (ops : Array Oper) (pre mid : List Nat) (c0 : Nat) (cs : List Nat) : Bool :=
 Region.noSelect ops && preB md ops pre (Array.replicate ops.size false) && decide (pre.length + (mid.length + (c0 :: cs).length) = ops.size)
  && (List.range ops.size).all (fun i => ((preDone pre (Array.replicate ops.size false)).getD i false) || mid.contains i || (c0 :: cs).contains i)
  && (c0 :: cs).all (fun t => !(preDone pre (Array.replicate ops.size false)).getD t true)
  && sinkL md ops c0 mid && cs.all (fun t => (c0 :: cs).any fun t' => Region.waitsFor md ops t t')
  && midB md ops (c0 :: cs) mid (preDone pre (Array.replicate ops.size false))
structure OrdInv (md : Region.Mode) (ops : Array Oper) (mid post : List Nat) (done : Array Bool) : Prop where
 size : done.size = ops.size
 closed : ∀ j oj, ops[j]? = some oj → done.getD j false = true → ∀ e ∈ oj.after, Region.binds md e = true → done.getD e.on false = true
 tail : ∀ t ∈ post, done.getD t true = false
 cover : ∀ i, i < ops.size → done.getD i true = false → i ∈ mid ∨ i ∈ post
theorem sinkL_waits {c0 : Nat} {mid post : List Nat} {done : Array Bool} (hc0 : c0 ∈ post) (inv : OrdInv md ops mid post done) : ∀ (bs : List Nat), sinkL md ops c0 bs = true → ∀ b ∈ bs, done.getD b true = false → c0 ∉ Region.ready md ops done
 | [], _, b, hb, _ => by cases hb
 | x :: bs, h, b, hb, hun => by
  simp only [sinkL, Bool.and_eq_true, Bool.or_eq_true] at h
  rcases List.mem_cons.1 hb with rfl | hb
  ·rcases h.1 with h1 | h1
   ·intro hr
    obtain ⟨_, o, ho, hall⟩ := mem_ready.1 hr
    obtain ⟨o', ho', e, he, hbd, hon⟩ := Region.waitsFor_spec h1
    have : o' = o := Option.some.inj (ho'.symm.trans ho)
    subst this
    have h2 := hall e he hbd
    rw [hon, getD_both hun] at h2
    cases h2
   ·obtain ⟨b', hb', hw⟩ := List.any_eq_true.1 h1
    obtain ⟨o', ho', e, he, hbd, hon⟩ := Region.waitsFor_spec hw
    cases hl : done.getD b' false with
    | true =>
     have h2 := inv.closed b' o' ho' hl e he hbd
     rw [hon, getD_both hun] at h2
     cases h2
    | false =>
     have hlt : b' < done.size := by rw [inv.size]; exact (Array.getElem?_eq_some_iff.1 ho').1
     exact sinkL_waits hc0 inv bs h.2 b' hb' (getD_in hlt hl)
  ·exact sinkL_waits hc0 inv bs h.2 b hb hun
theorem post_waits {mid cs : List Nat} {c0 : Nat} {done : Array Bool} (inv : OrdInv md ops mid (c0 :: cs) done) (hs : sinkL md ops c0 mid = true)
  (hc : (cs.all fun t => (c0 :: cs).any fun t' => Region.waitsFor md ops t t') = true) {b : Nat} (hb : b ∈ mid) (hun : done.getD b true = false) : ∀ t ∈ c0 :: cs, t ∉ Region.ready md ops done := by
 intro t ht
 rcases List.mem_cons.1 ht with rfl | ht
 ·exact sinkL_waits (by simp) inv mid hs b hb hun
 ·intro hr
  obtain ⟨t', ht', hw⟩ := List.any_eq_true.1 (List.all_eq_true.1 hc t ht)
  obtain ⟨_, o, ho, hall⟩ := mem_ready.1 hr
  obtain ⟨o', ho', e, he, hbd, hon⟩ := Region.waitsFor_spec hw
  have : o' = o := Option.some.inj (ho'.symm.trans ho)
  subst this
  have h2 := hall e he hbd
  rw [hon, getD_both (inv.tail t' ht')] at h2
  cases h2
def midAny (P : Program) (md : Region.Mode) (ops : Array Oper) (C : World → Prop) (mid : List Nat) (L : Array Bool → Act → Prop) : Nat → Array Bool → Act → Prop
 | 0, done, a => L done a
 | f + 1, done, a => Region.ready md ops done ≠ [] ∧ ∀ i ∈ Region.ready md ops done, i ∈ mid ∧ qOp P ops C i (midAny P md ops C mid L f (done.setIfInBounds i true)) a
theorem wpAny_of_midAny {mid : List Nat} {g : Nat} {L : Array Bool → Act → Prop} {Q' : Exit → Act → World → Prop} (hL : ∀ done a w, C w → L done a → wpAny P md ops Q' g done a w) (f : Nat) :
  ∀ (done : Array Bool) (a : Act) (w : World), C w → midAny P md ops C mid L f done a → wpAny P md ops Q' (f + g) done a w := by
 induction f with
 | zero => intro done a w hw h; rw [Nat.zero_add]; exact hL _ _ _ hw h
 | succ f ih =>
  intro done a w hw h
  have e : f + 1 + g = (f + g) + 1 := by omega
  rw [e]
  refine ⟨fun h0 => absurd h0 h.1, fun i hi => ?_⟩
  exact wpOp_of_qOp hw (fun a' w' hw' h' => ih _ a' w' hw' h') (h.2 i hi).2
theorem OrdInv.set {mid cs : List Nat} {c0 i : Nat} {done : Array Bool} (inv : OrdInv md ops mid (c0 :: cs) done) (hi : i ∈ Region.ready md ops done) (hn : ∀ t ∈ c0 :: cs, t ≠ i) : OrdInv md ops mid (c0 :: cs) (done.setIfInBounds i true) := by
 obtain ⟨_, oi, hoi, hall⟩ := mem_ready.1 hi
 refine ⟨by simp [inv.size], fun j oj hj hl e he hb => ?_, fun t ht => by rw [getD_set_ne true (Ne.symm (hn t ht))]; exact inv.tail t ht, fun k hk hun => ?_⟩
 ·by_cases hij : i = j
  ·subst hij
   have : oj = oi := Option.some.inj (hj.symm.trans hoi)
   subst this
   exact getD_set_true (hall e he hb)
  ·rw [getD_set_ne false hij] at hl
   exact getD_set_true (inv.closed j oj hj hl e he hb)
 ·refine inv.cover k hk ?_
  by_cases hik : i = k
  ·subst hik; exact (mem_ready.1 hi).1
  ·rwa [getD_set_ne true hik] at hun
theorem midAny_first {mid cs : List Nat} {c0 i : Nat} {oi : Oper} {v : Value} {L : Array Bool → Act → Prop} (hi : ops[i]? = some oi) (hsel : ∀ (j : Nat) (o : Oper) cs b, ops[j]? = some o → o.op ≠ .select cs b)
  (hs : sinkL md ops c0 mid = true) (hc : (cs.all fun t => (c0 :: cs).any fun t' => Region.waitsFor md ops t t') = true) (him : i ∈ mid)
  (hend : ∀ done a, L done a → ∀ j ∈ Region.ready md ops done, j ∈ c0 :: cs) (f : Nat) :
  ∀ (done : Array Bool) (a : Act), OrdInv md ops mid (c0 :: cs) done →
   (∀ j oj, ops[j]? = some oj → j ≠ i → done.getD j true = false → (∀ e ∈ oj.after, Region.binds md e = true → e.on ≠ i) → oi.apart ops oj = true) →
   i ∈ Region.ready md ops done → YieldsIn P ops C oi v a → midAny P md ops C mid L f (done.setIfInBounds i true) (a.put oi.dst v) → midAny P md ops C mid L (f + 1) done a := by
 induction f with
 | zero =>
  intro done a inv _ hr hy H
  have hun := (mem_ready.1 hr).1
  have hno := post_waits inv hs hc him hun
  refine ⟨fun h => absurd (h ▸ hr) (by simp), fun j hj => ?_⟩
  rcases Nat.decEq j i with hji | hji
  ·exact absurd hj (hno j (hend _ _ H j (ready_mono hj hji)))
  ·subst hji; exact ⟨him, hy.qOp hi H⟩
 | succ f ih =>
  intro done a inv hfree hr hy H
  have hun := (mem_ready.1 hr).1
  have hno := post_waits inv hs hc him hun
  refine ⟨fun h => absurd (h ▸ hr) (by simp), fun j hj => ?_⟩
  obtain ⟨hjun, oj, hoj, hall⟩ := mem_ready.1 hj
  have hjm : j ∈ mid := by
   rcases inv.cover j (Array.getElem?_eq_some_iff.1 hoj).1 hjun with h | h
   ·exact h
   ·exact absurd hj (hno j h)
  refine ⟨hjm, ?_⟩
  rcases Nat.decEq j i with hji | hji
  ·have h1 := (H.2 j (ready_mono hj hji)).2
   have hnot : ∀ e ∈ oj.after, Region.binds md e = true → e.on ≠ i := by
    intro e he hb heq
    have h2 := hall e he hb
    rw [heq, getD_both hun] at h2
    exact absurd h2 (by simp)
   have h2 := qOp_put hoj (hfree j oj hoj hji hjun hnot) (fun cs b => hsel i oi cs b hi) (fun cs b => hsel j oj cs b hoj) hy h1
   refine qOp_mono (fun a' h3 => ih (done.setIfInBounds j true) a' (inv.set hj (fun t ht e => hno t ht (e ▸ hj))) ?_ (ready_mono hr (Ne.symm hji)) h3.1 ?_) h2
   ·intro k ok hk hki hkun hno'
    refine hfree k ok hk hki ?_ hno'
    rcases Nat.decEq j k with hjk | hjk
    ·rwa [getD_set_ne true hjk] at hkun
    ·subst hjk; exact hjun
   ·rw [Array.setIfInBounds_comm _ _ hji]
    exact h3.2
  ·subst hji; exact hy.qOp hi H
theorem postB_ready {is : List Nat} {done : Array Bool} (h : postB md ops is done = true) : ∀ j ∈ Region.ready md ops done, j ∈ is := by
 cases is with
 | nil => intro j hj; simp only [postB, List.isEmpty_iff] at h; rw [h] at hj; cases hj
 | cons i is =>
  intro j hj
  simp only [postB, Bool.and_eq_true, decide_eq_true_eq] at h
  rw [h.1] at hj
  have : j = i := by simpa using hj
  simp [this]
theorem midAny_lex {mid cs : List Nat} {c0 : Nat} {Lq : Act → Prop} (hsel : Region.noSelect ops = true) (hs : sinkL md ops c0 mid = true) (hc : (cs.all fun t => (c0 :: cs).any fun t' => Region.waitsFor md ops t t') = true) (l : List Nat) :
  ∀ (done : Array Bool) (a : Act), (∀ j ∈ l, j ∈ mid) → OrdInv md ops mid (c0 :: cs) done → midB md ops (c0 :: cs) l done = true → wpQuiet P ops C Lq (pickOps ops.toList l) a →
   midAny P md ops C mid (fun done' a' => postB md ops (c0 :: cs) done' = true ∧ Lq a') l.length done a := by
 induction l with
 | nil => intro done a _ _ hB h; exact ⟨hB, h⟩
 | cons i l ih =>
  intro done a hl inv hB h
  simp only [midB, Bool.and_eq_true] at hB
  have hr : i ∈ Region.ready md ops done := by simpa using hB.1.1
  obtain ⟨hun, o, h0, _⟩ := mem_ready.1 hr
  have hp : pickOps ops.toList (i :: l) = o :: pickOps ops.toList l := by
   unfold pickOps
   rw [List.filterMap_cons_some (by simpa using h0)]
  rw [hp] at h
  have hst : qOp P ops C i (wpQuiet P ops C Lq (pickOps ops.toList l)) a := by unfold qOp; rw [h0]; exact h
  obtain ⟨v, hy, hK⟩ := yieldsIn_of_qOp h0 hst
  have him := hl i (by simp)
  have hno := post_waits inv hs hc him hun
  refine midAny_first h0 (Region.noSelect_spec hsel) hs hc him (fun d a' hL => postB_ready hL.1) l.length done a inv (Region.free_spec h0 hB.1.2) hr hy ?_
  exact ih _ _ (fun j hj => hl j (by simp [hj])) (inv.set hr (fun t ht e => hno t ht (e ▸ hr))) hB.2 hK
theorem wpAny_of_post {Q' : Exit → Act → World → Prop} (is : List Nat) : ∀ (done : Array Bool) (a : Act) (w : World), postB md ops is done = true → wpList P ops Q' (pickOps ops.toList is) a w → wpAny P md ops Q' is.length done a w := by
 induction is with
 | nil => intro done a w hB h; exact ⟨by simpa [postB] using hB, h⟩
 | cons i is ih =>
  intro done a w hB h
  simp only [postB, Bool.and_eq_true, decide_eq_true_eq] at hB
  refine ⟨fun h1 => (by rw [hB.1] at h1; cases h1), fun j hj => ?_⟩
  have hji : j = i := by rw [hB.1] at hj; simpa using hj
  subst hji
  obtain ⟨_, o, h0, _⟩ := mem_ready.1 hj
  have hp : pickOps ops.toList (j :: is) = o :: pickOps ops.toList is := by
   unfold pickOps
   rw [List.filterMap_cons_some (by simpa using h0)]
  rw [hp] at h
  have hw : wpOp P ops Q' j (wpList P ops Q' (pickOps ops.toList is)) a w := by unfold wpOp; simp only [h0]; exact h
  exact wpOp_mono (fun a' w' h' => ih _ a' w' hB.2 h') hw
theorem wpAny_of_pre {Q : Act → Prop} {Q' : Exit → Act → World → Prop} (hQ : ∀ c a d v w, Q' (.panic c) (Act.put a d v) w → Q' (.panic c) a w) (hsel : Region.noSelect ops = true) (g : Nat) (is : List Nat) :
  ∀ (done : Array Bool) (a : Act) (w : World), preB md ops is done = true → (∀ a', Q a' → wpAny P md ops Q' g (preDone is done) a' w) → wpQuiet P ops (fun _ => True) Q (pickOps ops.toList is) a →
   wpAny P md ops Q' (is.length + g) done a w := by
 induction is with
 | nil => intro done a w _ hK h; simpa [preDone] using hK a h
 | cons i is ih =>
  intro done a w hB hK h
  simp only [preB, Bool.and_eq_true] at hB
  obtain ⟨⟨⟨hr0, hf⟩, hpl⟩, hB'⟩ := hB
  have hr : i ∈ Region.ready md ops done := by simpa using hr0
  obtain ⟨_, o, h0, _⟩ := mem_ready.1 hr
  have hp : pickOps ops.toList (i :: is) = o :: pickOps ops.toList is := by
   unfold pickOps
   rw [List.filterMap_cons_some (by simpa using h0)]
  rw [hp] at h
  have hpl' : o.plainB = true := by simpa [h0] using hpl
  have hst : qOp P ops (fun _ => True) i (wpQuiet P ops (fun _ => True) Q (pickOps ops.toList is)) a := by unfold qOp; rw [h0]; exact h
  obtain ⟨v, hy, hK'⟩ := yieldsIn_of_qOp h0 hst
  have hY : Yields P ops o v a := by
   rcases hy with ⟨hw, hv⟩ | hy
   ·refine .inl ⟨hw, fun w' => ?_⟩
    have h3 := hv w' trivial
    unfold Oper.quietAt at h3
    cases hrun : (execOp a.eval o).run P w' with
    | halt x w1 => rw [hrun] at h3; exact h3.elim
    | ok n w1 =>
     have hval : ∃ u, n = .value u := by
      rcases plain_value hpl' hrun with h | ⟨x, hx⟩
      ·exact h
      ·exact nilCheck_value hx hrun
     obtain ⟨u, rfl⟩ := hval
     rw [hrun] at h3
     obtain ⟨e1, e2⟩ := h3
     rw [e1, e2]
   ·exact .inr hy
  have e : (i :: is).length + g = (is.length + g) + 1 := by simp; omega
  rw [e]
  refine wpAny_first h0 (Region.noSelect_spec hsel) (fun c a w => hQ c a _ _ w) (is.length + g) done a w (Region.free_spec h0 hf) hr hY ?_
  exact ih _ _ w hB' hK hK'
theorem preDone_inv (is : List Nat) : ∀ (done : Array Bool), preB md ops is done = true → done.size = ops.size →
  (∀ j oj, ops[j]? = some oj → done.getD j false = true → ∀ e ∈ oj.after, Region.binds md e = true → done.getD e.on false = true) →
  (preDone is done).size = ops.size ∧ (∀ j oj, ops[j]? = some oj → (preDone is done).getD j false = true → ∀ e ∈ oj.after, Region.binds md e = true → (preDone is done).getD e.on false = true) := by
 induction is with
 | nil => intro done _ hs hcl; exact ⟨hs, hcl⟩
 | cons i is ih =>
  intro done hB hs hcl
  simp only [preB, Bool.and_eq_true] at hB
  have hr : i ∈ Region.ready md ops done := by simpa using hB.1.1.1
  obtain ⟨_, oi, hoi, hall⟩ := mem_ready.1 hr
  refine ih (done.setIfInBounds i true) hB.2 (by simp [hs]) fun j oj hj hl e he hb => ?_
  by_cases hij : i = j
  ·subst hij
   have : oj = oi := Option.some.inj (hj.symm.trans hoi)
   subst this
   exact getD_set_true (hall e he hb)
  ·rw [getD_set_ne false hij] at hl
   exact getD_set_true (hcl j oj hj hl e he hb)
theorem wp_region_order {id : Nat} {Q : Exit → Act → World → Prop} {a : Act} {w : World} {l : List Oper} (pre mid : List Nat) (c0 : Nat) (cs : List Nat) (hm : P.follows .mixedOrders = true) (hB : orderB .any l.toArray pre mid c0 cs = true)
  (hQ : ∀ c a d v w, Q (.panic c) (Act.put a d v) w → Q (.panic c) a w)
  (h : wpQuiet P l.toArray (fun _ => True) (fun a1 => wpQuiet P l.toArray (fun w' => ∃ k, w' = w.drewN k) (fun a2 => ∀ w', (∃ k, w' = w.drewN k) → wpList P l.toArray Q (pickOps l (c0 :: cs)) a2 w') (pickOps l mid) a1) (pickOps l pre) a) :
  (Code.region id l.toArray true).wp P Q a w := by
 simp only [orderB, Bool.and_eq_true, decide_eq_true_eq] at hB
 obtain ⟨⟨⟨⟨⟨⟨⟨hsel, hpre⟩, hlen⟩, hcov⟩, htl⟩, hs⟩, hc⟩, hmid⟩ := hB
 have h00 := preDone_inv (md := .any) pre (Array.replicate l.toArray.size false) hpre (by simp) (fun j oj _ hl => by rw [getD_replicate_false] at hl; cases hl)
 have inv : OrdInv .any l.toArray mid (c0 :: cs) (preDone pre (Array.replicate l.toArray.size false)) := by
  refine ⟨h00.1, h00.2, fun t ht => by simpa using List.all_eq_true.1 htl t ht, fun i hi hun => ?_⟩
  have h1 := List.all_eq_true.1 hcov i (List.mem_range.2 hi)
  simp only [Bool.or_eq_true, List.contains_iff_mem] at h1
  rcases h1 with (h1 | h1) | h1
  ·rw [getD_both hun] at h1; cases h1
  ·exact .inl h1
  ·exact .inr h1
 refine wp_region_any hm ?_
 have e : l.toArray.size = pre.length + (mid.length + (c0 :: cs).length) := hlen.symm
 rw [show wpAny P .any l.toArray Q l.toArray.size = wpAny P .any l.toArray Q (pre.length + (mid.length + (c0 :: cs).length)) from by rw [← e]]
 refine wpAny_of_pre hQ hsel (mid.length + (c0 :: cs).length) pre _ a _ hpre (fun a1 h1 => ?_) (by simpa using h)
 have hM := midAny_lex (C := fun w' => ∃ k, w' = w.drewN k) (Lq := fun a2 => ∀ w', (∃ k, w' = w.drewN k) → wpList P l.toArray Q (pickOps l (c0 :: cs)) a2 w') hsel hs hc mid _ a1 (fun j hj => hj) inv hmid (by simpa using h1)
 exact wpAny_of_midAny (fun done a2 w2 hw2 hL => wpAny_of_post (c0 :: cs) done a2 w2 hL.1 (by simpa using hL.2 w2 hw2)) mid.length _ a1 _ ⟨1, rfl⟩ hM
end
section
variable {P : Program} {ops : Array Oper} {Q : Exit → Act → World → Prop} {md : Region.Mode} {S : World → Prop} {z : Nat}
def wpAnyZ (P : Program) (md : Region.Mode) (ops : Array Oper) (Q : Exit → Act → World → Prop) (S : World → Prop) (z : Nat) (fuel : Nat) : Array Bool → Act → World → Prop :=
 match fuel with
 | 0 => fun l a w => Region.ready md ops l = [] ∧ Q .normal a w
 | f + 1 => fun l a w => (Region.ready md ops l = [] → Q .normal a w) ∧ ∀ k, k ∈ Region.ready md ops l → wpOp P ops Q k (fun a' w' => (k = z ∨ S w') ∧ wpAnyZ P md ops Q S z f (l.setIfInBounds k true) a' w') a w
theorem wpAny_of_Z (f : Nat) : ∀ (l : Array Bool) (a : Act) (w : World), wpAnyZ P md ops Q S z f l a w → wpAny P md ops Q f l a w := by
 induction f with
 | zero => exact fun _ _ _ h => h
 | succ f ih => exact fun l a w h => ⟨h.1, fun k hk => wpOp_mono (fun a' w' h' => ih _ a' w' h'.2) (h.2 k hk)⟩
theorem waits_not_ready {i j : Nat} {l : Array Bool} (hw : Region.waitsFor md ops j i = true) (hi : i ∈ Region.ready md ops l) : j ∉ Region.ready md ops l := by
 obtain ⟨oj, ho, e, he, hb, rfl⟩ := Region.waitsFor_spec hw
 intro hj
 obtain ⟨_, o', ho', hall⟩ := mem_ready.1 hj
 rw [ho] at ho'
 injection ho' with ho'
 subst ho'
 have h1 := hall e he hb
 have h0 := (mem_ready.1 hi).1
 rcases Nat.lt_or_ge e.on l.size with h' | h'
 ·simp [h'] at h0 h1; rw [h0] at h1; cases h1
 ·simp [Array.getElem?_eq_none h'] at h1
theorem wpAnyZ_first {i : Nat} {oi : Oper} {v : Value} (hi : ops[i]? = some oi) (hsel : ∀ (j : Nat) (o : Oper) cs b, ops[j]? = some o → o.op ≠ .select cs b) (hz : Region.waitsFor md ops z i = true)
  (hQ : ∀ c a w, Q (.panic c) (a.put oi.dst v) w → Q (.panic c) a w) (f : Nat) :
  ∀ (l : Array Bool) (a : Act) (w : World), (∀ j oj, ops[j]? = some oj → j ≠ i → l.getD j true = false → (∀ e ∈ oj.after, Region.binds md e = true → e.on ≠ i) → oi.apart ops oj = true) →
   i ∈ Region.ready md ops l → YieldsIf P ops S oi v a → S w → wpAnyZ P md ops Q S z f (l.setIfInBounds i true) (a.put oi.dst v) w → wpAnyZ P md ops Q S z (f + 1) l a w := by
 induction f with
 | zero =>
  intro l a w _ hr hy hS H
  refine ⟨fun h => (by rw [h] at hr; cases hr), fun j hj => ?_⟩
  by_cases hji : j = i
  ·subst hji; exact hy.wpOp hi hS ⟨.inr hS, H⟩
  ·have := ready_mono hj hji
   rw [H.1] at this
   cases this
 | succ f ih =>
  intro l a w hfree hr hy hS H
  refine ⟨fun h => (by rw [h] at hr; cases hr), fun j hj => ?_⟩
  by_cases hji : j = i
  ·subst hji; exact hy.wpOp hi hS ⟨.inr hS, H⟩
  ·have hjz : j ≠ z := fun e => waits_not_ready hz hr (e ▸ hj)
   have h1 := H.2 j (ready_mono hj hji)
   obtain ⟨hjun, oj, hoj, _⟩ := mem_ready.1 hj
   have hnot : ∀ e ∈ oj.after, Region.binds md e = true → e.on ≠ i := fun e he hb heq =>
    waits_not_ready (j := j) (by unfold Region.waitsFor; rw [hoj]; simp only [Array.any_eq_true']; exact ⟨e, he, by rw [hb, heq]; simp⟩) hr hj
   have h2 := wpOp_putIf hoj (hfree j oj hoj hji hjun hnot) (fun cs b => hsel i oi cs b hi) (fun cs b => hsel j oj cs b hoj) hQ hy h1
   refine wpOp_mono (fun a' w' h3 => ?_) h2
   have hSw := h3.2.1.resolve_left hjz
   refine ⟨.inr hSw, ih (l.setIfInBounds j true) a' w' (fun k ok hk hki hun hno => hfree k ok hk hki ?_ hno) (ready_mono hr (Ne.symm hji)) h3.1 hSw ?_⟩
   ·by_cases hjk : j = k
    ·subst hjk; exact hjun
    ·rw [getD_set_ne true hjk] at hun; exact hun
   ·rw [Array.setIfInBounds_comm _ _ hji]
    exact h3.2.2
theorem wpAnyZ_take {i : Nat} {oi : Oper} {v : Value} {fuel : Nat} {l : Array Bool} {a : Act} {w : World} (hi : ops[i]? = some oi)
  (hs : Region.noSelect ops = true) (hz : Region.waitsFor md ops z i = true) (hf : Region.free md ops l i = true) (hr : (Region.ready md ops l).contains i = true)
  (hQ : ∀ c a w, Q (.panic c) (a.put oi.dst v) w → Q (.panic c) a w) (hy : YieldsIf P ops S oi v a) (hS : S w)
  (h : wpAnyZ P md ops Q S z fuel (l.setIfInBounds i true) (a.put oi.dst v) w) : wpAnyZ P md ops Q S z (fuel + 1) l a w :=
 wpAnyZ_first hi (Region.noSelect_spec hs) hz hQ fuel l a w (Region.free_spec hi hf) (by simpa using hr) hy hS h
theorem wpAnyZ_step {i : Nat} {o : Oper} {fuel : Nat} {l : Array Bool} {a : Act} {w : World} (hr : Region.ready md ops l = [i]) (ho : ops[i]? = some o)
  (h : ∀ K : Act → World → Prop, Shut (∀ a w, S w → (S w → wpAnyZ P md ops Q S z fuel (l.setIfInBounds i true) a w) → K a w) → if Region.wanted o (yielded ops a.tmps) = true then Oper.wp P o a w K Q else K (a.put o.dst undef) w) :
  wpAnyZ P md ops Q S z (fuel + 1) l a w := by
 refine ⟨fun h0 => (by rw [hr] at h0; cases h0), fun j hj => ?_⟩
 rw [hr] at hj
 obtain rfl := List.mem_singleton.1 hj
 exact wpOp_step ho (fun K hK => h K (fun a w hS hW => hK a w ⟨.inr hS, hW hS⟩))
theorem wpAnyZ_last {o : Oper} {fuel : Nat} {l : Array Bool} {a : Act} {w : World} (hr : Region.ready md ops l = [z]) (hr' : Region.ready md ops (l.setIfInBounds z true) = []) (ho : ops[z]? = some o)
  (h : ∀ K : Act → World → Prop, Shut (∀ a w, Q .normal a w → K a w) → if Region.wanted o (yielded ops a.tmps) = true then Oper.wp P o a w K Q else K (a.put o.dst undef) w) :
  wpAnyZ P md ops Q S z (fuel + 1) l a w := by
 refine ⟨fun h0 => (by rw [hr] at h0; cases h0), fun j hj => ?_⟩
 rw [hr] at hj
 obtain rfl := List.mem_singleton.1 hj
 refine wpOp_step ho (fun K hK => h K (fun a w hQ => hK a w ⟨.inl rfl, ?_⟩))
 cases fuel with
 | zero => exact ⟨hr', hQ⟩
 | succ f => exact ⟨fun _ => hQ, by rw [hr']; intro k hk; cases hk⟩
theorem wp_region_last {id : Nat} {a : Act} {w : World} (z : Nat) (hm : P.follows .mixedOrders = true) (hS : S w.drew)
  (h : S w.drew → wpAnyZ P .any ops Q S z ops.size (Array.replicate ops.size false) a w.drew) : (Code.region id ops true).wp P Q a w :=
 wp_region_any hm (wpAny_of_Z _ _ _ _ (h hS))
end
end Go
namespace Go.Sha
open Go
def tu (x n : Int) : Int := bits .or .u32 (x / 2 ^ n.toNat) (x * 2 ^ (32 - n).toNat % 4294967296)
def hz (B : Nat → Int) (t : Nat) : Nat → Int
 | 0 => 0
 | k + 1 => bits .or .u32 (hz B t k * 256 % 4294967296) (B (4 * t + k))
def nextW (W : Nat → Int) (t : Nat) : Int :=
 (W (t - 16) + W (t - 7) + bits .xor .u32 (bits .xor .u32 (tu (W (t - 15)) 7) (tu (W (t - 15)) 18)) (W (t - 15) / 8)
  + bits .xor .u32 (bits .xor .u32 (tu (W (t - 2)) 17) (tu (W (t - 2)) 19)) (W (t - 2) / 1024)) % 4294967296
def ws (B : Nat → Int) : Nat → List Int
 | 0 => []
 | t + 1 => ws B t ++ [if t < 16 then hz B t 4 else nextW (fun j => (ws B t).getD j 0) t]
def wsv (B : Nat → Int) (t j : Nat) : Int := (ws B t).getD j 0
theorem ws_length (B : Nat → Int) (t : Nat) : (ws B t).length = t := by induction t <;> simp_all [ws]
def wk (B : Nat → Int) (t k j : Nat) : Int := if j = t then hz B t k else wsv B t j
theorem wsv_zero (B : Nat → Int) (j : Nat) : wsv B 0 j = 0 := by simp [wsv, ws]
theorem wsv_ge (B : Nat → Int) (t j : Nat) (h : t ≤ j) : wsv B t j = 0 := by
 unfold wsv; rw [List.getD_eq_getElem?_getD, List.getElem?_eq_none (by rw [ws_length]; exact h)]; rfl
theorem wk_zero (B : Nat → Int) (t j : Nat) : wk B t 0 j = wsv B t j := by
 unfold wk; split
 ·subst_vars; rw [wsv_ge B _ _ (Nat.le_refl _)]; rfl
 ·rfl
theorem wsv_succ_lt (B : Nat → Int) (t j : Nat) (h : t < 16) : wsv B (t + 1) j = wk B t 4 j := by
 unfold wk
 by_cases hj : j = t
 ·subst hj
  rw [if_pos rfl]; unfold wsv
  rw [List.getD_eq_getElem?_getD]; unfold ws; rw [if_pos h, List.getElem?_append_right (by rw [ws_length]; exact Nat.le_refl _), ws_length]; simp
 ·rw [if_neg hj]; unfold wsv
  simp only [List.getD_eq_getElem?_getD]
  rcases Nat.lt_or_ge j t with h1 | h1
  ·rw [ws, List.getElem?_append_left (by rw [ws_length]; exact h1)]
  ·rw [List.getElem?_eq_none (by rw [ws_length]; omega), List.getElem?_eq_none (by rw [ws_length]; omega)]
theorem wsv_succ_ge (B : Nat → Int) (t j : Nat) (h : 16 ≤ t) : wsv B (t + 1) j = if j = t then nextW (wsv B t) t else wsv B t j := by
 by_cases hj : j = t
 ·subst hj
  rw [if_pos rfl]; unfold wsv
  rw [List.getD_eq_getElem?_getD]; conv => lhs; unfold ws
  rw [if_neg (by omega), List.getElem?_append_right (by rw [ws_length]; exact Nat.le_refl _), ws_length]; simp
 ·rw [if_neg hj]; unfold wsv
  simp only [List.getD_eq_getElem?_getD]
  rcases Nat.lt_or_ge j t with h1 | h1
  ·rw [ws, List.getElem?_append_left (by rw [ws_length]; exact h1)]
  ·rw [List.getElem?_eq_none (by rw [ws_length]; omega), List.getElem?_eq_none (by rw [ws_length]; omega)]
def K : List Int := [1116352408, 1899447441, 3049323471, 3921009573, 961987163, 1508970993, 2453635748, 2870763221, 3624381080, 310598401, 607225278, 1426881987, 1925078388, 2162078206, 2614888103, 3248222580, 3835390401, 4022224774, 264347078, 604807628, 770255983, 1249150122, 1555081692, 1996064986, 2554220882, 2821834349, 2952996808, 3210313671, 3336571891, 3584528711, 113926993, 338241895, 666307205, 773529912, 1294757372, 1396182291, 1695183700, 1986661051, 2177026350, 2456956037, 2730485921, 2820302411, 3259730800, 3345764771, 3516065817, 3600352804, 4094571909, 275423344, 430227734, 506948616, 659060556, 883997877, 958139571, 1322822218, 1537002063, 1747873779, 1955562222, 2024104815, 2227730452, 2361852424, 2428436474, 2756734187, 3204031479, 3329325298]
def firstL : List Int := [1779033703, 3144134277, 1013904242, 2773480762, 1359893119, 2600822924, 528734635, 1541459225]
def first (i : Nat) : Int := firstL.getD i 0
def tOne (e f g h k w : Int) : Int :=
 h + k + w + bits .xor .u32 (bits .xor .u32 (tu e 6) (tu e 11)) (tu e 25) + bits .xor .u32 (bits .and .u32 e f) (bits .and .u32 (bits .xor .u32 IntKind.u32.max e) g)
def tTwo (a b c : Int) : Int :=
 bits .xor .u32 (bits .xor .u32 (tu a 2) (tu a 13)) (tu a 22) + bits .xor .u32 (bits .xor .u32 (bits .and .u32 a b) (bits .and .u32 a c)) (bits .and .u32 b c)
def stL (l : List Int) (k w : Int) : List Int :=
 let a := l.getD 0 0; let b := l.getD 1 0; let c := l.getD 2 0; let d := l.getD 3 0
 let e := l.getD 4 0; let f := l.getD 5 0; let g := l.getD 6 0; let h := l.getD 7 0
 [(tOne e f g h k w + tTwo a b c) % 4294967296, a, b, c, (d + tOne e f g h k w) % 4294967296, e, f, g]
def csL (W S : Nat → Int) : Nat → List Int
 | 0 => [S 0, S 1, S 2, S 3, S 4, S 5, S 6, S 7]
 | t + 1 => stL (csL W S t) (K.getD t 0) (W t)
theorem csL_eight (W S : Nat → Int) (t : Nat) : ∃ a b c d e f g h, csL W S t = [a, b, c, d, e, f, g, h] := by
 cases t with
 | zero => exact ⟨_, _, _, _, _, _, _, _, rfl⟩
 | succ t => exact ⟨_, _, _, _, _, _, _, _, rfl⟩
def round (S B : Nat → Int) (i : Nat) : Int := ((csL (wsv B 64) S 64).getD i 0 + S i) % 4294967296
theorem hz_congr (B C : Nat → Int) (t : Nat) (ht : t < 16) (h : ∀ i, i < 64 → B i = C i) (k : Nat) (hk : k ≤ 4) : hz B t k = hz C t k := by
 induction k with
 | zero => rfl
 | succ k ih => unfold hz; rw [ih (by omega), h _ (by omega)]
theorem ws_congr (B C : Nat → Int) (h : ∀ i, i < 64 → B i = C i) (t : Nat) : ws B t = ws C t := by
 induction t with
 | zero => rfl
 | succ t ih =>
  unfold ws
  rw [ih]
  by_cases ht : t < 16
  ·rw [if_pos ht, if_pos ht, hz_congr B C t ht h 4 (by omega)]
  ·rw [if_neg ht, if_neg ht]
theorem round_congr (S B C : Nat → Int) (h : ∀ i, i < 64 → B i = C i) : round S B = round S C := by
 unfold round
 have e : wsv B 64 = wsv C 64 := by funext j; unfold wsv; rw [ws_congr B C h]
 rw [e]
def wl (S : Nat → Int) : List Value := (List.range 8).map fun i => Value.int .u32 (S i)
def bl (B : Nat → Int) : List Value := (List.range 64).map fun i => Value.int .u8 (B i)
end Go.Sha
