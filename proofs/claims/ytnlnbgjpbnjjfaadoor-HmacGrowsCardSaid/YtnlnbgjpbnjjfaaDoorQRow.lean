/-
  Whole rows: an aggregate loaded out of, or stored into, a part of a block that is known whole.
-/
import Derived.WalkKit
import Derived.Deep.Quiet
import Derived.BigQuiet
import Derived.Deep.OwnRows
import Derived.Laws.ResultCell
namespace Go.Aff
open Go
open Go.RowKit

/-- Block g is just the cells cs of element type t, none frozen. -/
def Blk (w : World) (g : Nat) (t : TypeId) (cs : List Value) : Prop := w.heap[g]? = some (.cells cs.toArray t (0, 0))

/-- cs, with vs in the places from o on. -/
def splice (cs : List Value) (o : Nat) (vs : List Value) : List Value := cs.take o ++ vs ++ cs.drop (o + vs.length)

theorem splice_length (cs : List Value) (o : Nat) (vs : List Value) (h : o + vs.length ≤ cs.length) : (splice cs o vs).length = cs.length := by
  simp [splice]; omega
theorem splice_getElem? (cs : List Value) (o : Nat) (vs : List Value) (h : o + vs.length ≤ cs.length) (j : Nat) :
    (splice cs o vs)[j]? = if j < o then cs[j]? else if j < o + vs.length then vs[j - o]? else cs[j]? := by
  unfold splice
  have h1 : (cs.take o).length = o := by simp; omega
  by_cases a : j < o
  · rw [if_pos a, List.append_assoc, List.getElem?_append_left (by omega), List.getElem?_take]; simp [a]
  · rw [if_neg a]
    by_cases b : j < o + vs.length
    · rw [if_pos b, List.getElem?_append_left (by simp; omega), List.getElem?_append_right (by omega), h1]
    · rw [if_neg b, List.getElem?_append_right (by simp; omega), List.getElem?_drop]
      congr 1; simp; omega
theorem splice_all (cs vs : List Value) (h : cs.length = vs.length) : splice cs 0 vs = vs := by
  simp [splice, ← h]

theorem add_at (g o i : Nat) : (⟨g, o, none⟩ : Addr).add i = ⟨g, o + i, none⟩ := by
  unfold Addr.add; split <;> simp_all

section
variable {P : Program} {w w' : World} {g : Nat} {t : TypeId} {cs : List Value}
theorem Blk.lt (h : Blk w g t cs) : g < w.heap.size := by
  rcases Nat.lt_or_ge g w.heap.size with hlt | hge
  · exact hlt
  · unfold Blk at h; rw [Array.getElem?_eq_none hge] at h; cases h
theorem Blk.cell (h : Blk w g t cs) (i : Nat) : w.cell? ⟨g, i, none⟩ = cs[i]? := by
  rw [cell_of_row w g i cs.toArray t (0, 0) h]; simp
theorem Blk.frozen (h : Blk w g t cs) (i : Nat) : w.frozen? ⟨g, i, none⟩ = false := by
  unfold Blk at h
  simp [World.frozen?, h]
theorem Blk.new (w : World) (t : TypeId) (cs : List Value) : Blk (w.alloc (.cells cs.toArray t)) w.heap.size t cs := heap_alloc_new w _
theorem Blk.drew (h : Blk w g t cs) : Blk w.drew g t cs := h
theorem Blk.drewN (h : Blk w g t cs) (n : Nat) : Blk (w.drewN n) g t cs := h
theorem Blk.alloc (h : Blk w g t cs) (o : Obj) : Blk (w.alloc o) g t cs := (Below.heap_alloc w o g h.lt).trans h
theorem Blk.set_ (h : Blk w g t cs) (i : Nat) (u : Value) : Blk (w.setCell ⟨g, i, none⟩ u) g t (cs.set i u) := by
  unfold Blk at h ⊢
  simp [World.setCell, Array.getElem?_modify, h]
theorem Blk.far (h : Blk w g t cs) {p : Addr} (hp : g ≠ p.block) (u : Value) : Blk (w.setCell p u) g t cs := (Below.heap_setCell w p u g hp).trans h
theorem Blk.setRow (h : Blk w g t cs) (vs : List Value) : Blk (w.setRow g vs.toArray) g t vs := setRow_heap w g _ _ t _ h
theorem Blk.setRow_far (h : Blk w g t cs) {k : Nat} (hp : g ≠ k) (vs : Array Value) : Blk (w.setRow k vs) g t cs := (setRow_other w k g vs hp).trans h
theorem Blk.of_block (h : Blk w g t cs) (e : w'.heap[g]? = w.heap[g]?) : Blk w' g t cs := e.trans h
theorem Blk.below {B : Nat} (h : Blk w g t cs) (hb : Below B w w') (hg : g < B) : Blk w' g t cs := (hb.block g hg).trans h
theorem Blk.ne_ {g' : Nat} {t' : TypeId} {cs' : List Value} (h : Blk w g t cs) (h' : Blk w g' t' cs') (hne : t ≠ t') : g ≠ g' := by
  rintro rfl
  unfold Blk at h h'
  rw [h] at h'
  injection h' with h'
  injection h' with _ ht
  exact hne ht

theorem run_storeCells_at (g o : Nat) (t : TypeId) (vs : List Value) : ∀ (i : Nat) (cs : List Value) (w : World), Blk w g t cs → o + i + vs.length ≤ cs.length → (∀ v ∈ vs, v.oneCell' = true) →
    (storeCells ⟨g, o, none⟩ vs i).run P w = .ok () (w.setRow g (splice cs (o + i) vs).toArray) := by
  induction vs with
  | nil =>
    intro i cs w hg hl _
    have e : splice cs (o + i) [] = cs := by simp [splice]
    rw [e]
    simp only [storeCells]
    show Result.ok () w = _
    congr 1
    have hlt := hg.lt
    have hv : w.heap[g] = .cells cs.toArray t (0, 0) := (Array.getElem?_eq_some_iff.1 hg).2
    unfold World.setRow
    cases w with
    | mk heap tape drawn os output =>
      congr 1
      apply Array.ext
      · simp
      · intro k h1 h2
        simp only [Array.getElem_modify]
        split
        · rename_i hk; subst hk; simp at hv; simp [hv]
        · rfl
  | cons v rest ih =>
    intro i cs w hg hl h1
    have hi : o + i < cs.length := by simp at hl; omega
    have hcell : w.cell? ⟨g, o + i, none⟩ = some cs[o + i] := by rw [hg.cell, List.getElem?_eq_getElem hi]
    have hfro : w.frozen? ⟨g, o + i, none⟩ = false := hg.frozen _
    have hst : (store ((⟨g, o, none⟩ : Addr).add i) v).run P w = .ok () (w.setCell ⟨g, o + i, none⟩ v) := by
      rw [add_at, run_store P w _ v _ (h1 v (by simp))]
      simp [hcell, hfro]
    have hn := ih (i + 1) (cs.set (o + i) v) (w.setCell ⟨g, o + i, none⟩ v) (hg.set_ _ _) (by simp at hl ⊢; omega) (fun u hu => h1 u (by simp [hu]))
    simp only [storeCells, Sem.run_bind, hst, Result.andThen_ok, hn]
    congr 1
    have hb : Blk (w.setCell ⟨g, o + i, none⟩ v) g t (cs.set (o + i) v) := hg.set_ _ _
    have e1 : w.setCell ⟨g, o + i, none⟩ v = w.setRow g (cs.set (o + i) v).toArray := by
      rw [setCell_eq_setRow w g (o + i) cs.toArray t (0, 0) v hg]; simp
    rw [e1, setRow_setRow]
    congr 2
    have hl' : o + i + (v :: rest).length ≤ cs.length := by simpa using hl
    apply List.ext_getElem?
    intro j
    rw [splice_getElem? _ _ _ (by simp at hl' ⊢; omega), splice_getElem? _ _ _ hl']
    simp only [List.getElem?_set, List.length_cons]
    by_cases a : j < o + i
    · rw [if_pos (by omega), if_pos a, if_neg (by omega)]
    · by_cases b : j = o + i
      · subst b; rw [if_pos (by omega), if_pos rfl, if_neg a, if_pos (by omega)]; simp
      · rw [if_neg (by omega), if_neg a]
        by_cases c : j < o + (i + 1) + rest.length
        · rw [if_pos c, if_pos (by omega), show j - (o + i) = (j - (o + (i + 1))) + 1 by omega]; simp
        · rw [if_neg c, if_neg (by omega), if_neg (by omega)]

theorem run_storeVar_at (ty : TypeId) (o : Nat) (vs : List Value) (hg : Blk w g t cs) (hl : o + vs.length ≤ cs.length) (hi : (P.info? ty).map (·.size) = some vs.length) (h1 : ∀ v ∈ vs, v.oneCell' = true) :
    (storeVar ty ⟨g, o, none⟩ (.agg vs.toArray)).run P w = .ok () (w.setRow g (splice cs o vs).toArray) := by
  cases hq : P.info? ty with
  | none => simp [hq] at hi
  | some i =>
    have hs : i.size = vs.length := by simpa [hq] using hi
    have := run_storeCells_at (P := P) g o t vs 0 cs w hg (by omega) h1
    simp [storeVar, sizeOf, typeInfo, hq, Value.cells, hs, this]

theorem wpList_store_at {ops : Array Oper} {rest : List Oper} {o : Oper} {a : Act} {Q : Exit → Act → World → Prop} (hgd : o.guard = none) (ty : TypeId) (x v : Operand) (ho : o.op = .store ty x v)
    (off : Nat) (vs : List Value) (hx : a.eval x = .pointer (some ⟨g, off, none⟩)) (hv : a.eval v = .agg vs.toArray) (hg : Blk w g t cs) (hl : off + vs.length ≤ cs.length) (hi : (P.info? ty).map (·.size) = some vs.length) (h1 : ∀ v ∈ vs, v.oneCell' = true)
    (h : wpList P ops Q rest (a.put o.dst undef) (w.setRow g (splice cs off vs).toArray)) : wpList P ops Q (o :: rest) a w :=
  wpList_plain hgd fun _ hK => by
    unfold Oper.wp execOp
    simp only [ho, hx, hv, Instr.storeAt, Instr.sureAddr, Sem.run_bind, Sem.run_pure, Result.andThen_ok, run_storeVar_at ty off vs hg hl hi h1]
    exact hK _ _ h

theorem run_loadVar_at (ty : TypeId) (o n : Nat) (d : TypeDesc) (hg : Blk w g t cs) (hl : o + n ≤ cs.length)
    (hu : P.underlying ty = some d) (hd : (match d with | .struct _ | .array _ _ => true | _ => false) = true) (hi : (P.info? ty).map (·.size) = some n) :
    (loadVar ty ⟨g, o, none⟩).run P w = .ok (.agg ((cs.drop o).take n).toArray) w := by
  have hlen : ((cs.drop o).take n).length = n := by simp; omega
  have hl' : (loadCells ⟨g, o, none⟩ ((cs.drop o).take n).length).run P w = .ok ((cs.drop o).take n).toArray w :=
    run_loadCells_list (P := P) w ⟨g, o, none⟩ ((cs.drop o).take n) (fun j v hv => by
      rw [add_at, hg.cell]
      rw [List.getElem?_take] at hv
      split at hv
      · rwa [List.getElem?_drop] at hv
      · cases hv)
  rw [hlen] at hl'
  cases hq : P.info? ty with
  | none => simp [hq] at hi
  | some i =>
    have hs : i.size = n := by simpa [hq] using hi
    have hagg : (isAgg ty).run P w = .ok true w := by
      unfold isAgg
      rw [Sem.run_bind, run_underlying hu w]
      cases d <;> simp_all
    simp [loadVar, Sem.run_bind, hagg, sizeOf, typeInfo, hq, hs, hl']

theorem wpList_load_at {ops : Array Oper} {rest : List Oper} {o : Oper} {a : Act} {Q : Exit → Act → World → Prop} (hgd : o.guard = none) (ty : TypeId) (x : Operand) (ho : o.op = .load ty x)
    (off n : Nat) (d : TypeDesc) (hx : a.eval x = .pointer (some ⟨g, off, none⟩)) (hg : Blk w g t cs) (hl : off + n ≤ cs.length)
    (hu : P.underlying ty = some d) (hd : (match d with | .struct _ | .array _ _ => true | _ => false) = true) (hi : (P.info? ty).map (·.size) = some n)
    (h : wpList P ops Q rest (a.put o.dst (.agg ((cs.drop off).take n).toArray)) w) : wpList P ops Q (o :: rest) a w :=
  wpList_plain hgd fun _ hK => by
    unfold Oper.wp execOp
    simp only [ho, hx, Instr.loadAt, Instr.sureAddr, Sem.run_bind, Sem.run_pure, Result.andThen_ok, run_loadVar_at ty off n d hg hl hu hd hi]
    exact hK _ _ h

theorem wpQuiet_load_at {ops : Array Oper} {rest : List Oper} {o : Oper} {a : Act} {Q : Act → Prop} (hgd : o.guard = none) (ty : TypeId) (x : Operand) (ho : o.op = .load ty x)
    (off n : Nat) (d : TypeDesc) (hx : a.eval x = .pointer (some ⟨g, off, none⟩)) (hg : Blk w g t cs) (hl : off + n ≤ cs.length)
    (hu : P.underlying ty = some d) (hd : (match d with | .struct _ | .array _ _ => true | _ => false) = true) (hi : (P.info? ty).map (·.size) = some n)
    (h : wpQuiet P ops (fun w' => ∃ k, w' = w.drewN k) Q rest (a.put o.dst (.agg ((cs.drop off).take n).toArray))) : wpQuiet P ops (fun w' => ∃ k, w' = w.drewN k) Q (o :: rest) a := by
  unfold wpQuiet
  rw [if_pos (by simp [Region.wanted, hgd])]
  refine ⟨_, ?_, h⟩
  rintro w' ⟨k, rfl⟩
  unfold Oper.quietAt execOp
  simp only [ho, hx, Instr.loadAt, Instr.sureAddr, Sem.run_bind, Sem.run_pure, Result.andThen_ok, run_loadVar_at ty off n d (hg.drewN k) hl hu hd hi]
  exact ⟨rfl, rfl⟩

/-- From address ⟨g, o⟩ on lie the cells vs. -/
def Lies (w : World) (g o : Nat) (vs : List Value) : Prop := ∀ j, j < vs.length → w.cell? ⟨g, o + j, none⟩ = vs[j]?
theorem Lies.drewN {vs : List Value} {o : Nat} (h : Lies w g o vs) (k : Nat) : Lies (w.drewN k) g o vs := h
theorem Lies.of_blk {vs : List Value} {o : Nat} (h : Blk w g t cs) (e : (cs.drop o).take vs.length = vs) : Lies w g o vs := by
  intro j hj
  rw [h.cell]
  have h1 : ((cs.drop o).take vs.length)[j]? = vs[j]? := by rw [e]
  rw [List.getElem?_take, if_pos hj, List.getElem?_drop] at h1
  exact h1

theorem run_loadVar_lies (ty : TypeId) (o : Nat) (vs : List Value) (d : TypeDesc) (hg : Lies w g o vs)
    (hu : P.underlying ty = some d) (hd : (match d with | .struct _ | .array _ _ => true | _ => false) = true) (hi : (P.info? ty).map (·.size) = some vs.length) :
    (loadVar ty ⟨g, o, none⟩).run P w = .ok (.agg vs.toArray) w := by
  have hl' : (loadCells ⟨g, o, none⟩ vs.length).run P w = .ok vs.toArray w :=
    run_loadCells_list (P := P) w ⟨g, o, none⟩ vs (fun j v hv => by
      rw [add_at, hg j (List.getElem?_eq_some_iff.1 hv).1, hv])
  cases hq : P.info? ty with
  | none => simp [hq] at hi
  | some i =>
    have hs : i.size = vs.length := by simpa [hq] using hi
    have hagg : (isAgg ty).run P w = .ok true w := by
      unfold isAgg
      rw [Sem.run_bind, run_underlying hu w]
      cases d <;> simp_all
    simp [loadVar, Sem.run_bind, hagg, sizeOf, typeInfo, hq, hs, hl']

theorem wpList_load_lies {ops : Array Oper} {rest : List Oper} {o : Oper} {a : Act} {Q : Exit → Act → World → Prop} (hgd : o.guard = none) (ty : TypeId) (x : Operand) (ho : o.op = .load ty x)
    (off : Nat) (vs : List Value) (d : TypeDesc) (hx : a.eval x = .pointer (some ⟨g, off, none⟩)) (hg : Lies w g off vs)
    (hu : P.underlying ty = some d) (hd : (match d with | .struct _ | .array _ _ => true | _ => false) = true) (hi : (P.info? ty).map (·.size) = some vs.length)
    (h : wpList P ops Q rest (a.put o.dst (.agg vs.toArray)) w) : wpList P ops Q (o :: rest) a w :=
  wpList_plain hgd fun _ hK => by
    unfold Oper.wp execOp
    simp only [ho, hx, Instr.loadAt, Instr.sureAddr, Sem.run_bind, Sem.run_pure, Result.andThen_ok, run_loadVar_lies ty off vs d hg hu hd hi]
    exact hK _ _ h

theorem wpQuiet_load_lies {ops : Array Oper} {rest : List Oper} {o : Oper} {a : Act} {Q : Act → Prop} (hgd : o.guard = none) (ty : TypeId) (x : Operand) (ho : o.op = .load ty x)
    (off : Nat) (vs : List Value) (d : TypeDesc) (hx : a.eval x = .pointer (some ⟨g, off, none⟩)) (hg : Lies w g off vs)
    (hu : P.underlying ty = some d) (hd : (match d with | .struct _ | .array _ _ => true | _ => false) = true) (hi : (P.info? ty).map (·.size) = some vs.length)
    (h : wpQuiet P ops (fun w' => ∃ k, w' = w.drewN k) Q rest (a.put o.dst (.agg vs.toArray))) : wpQuiet P ops (fun w' => ∃ k, w' = w.drewN k) Q (o :: rest) a := by
  unfold wpQuiet
  rw [if_pos (by simp [Region.wanted, hgd])]
  refine ⟨_, ?_, h⟩
  rintro w' ⟨k, rfl⟩
  unfold Oper.quietAt execOp
  simp only [ho, hx, Instr.loadAt, Instr.sureAddr, Sem.run_bind, Sem.run_pure, Result.andThen_ok, run_loadVar_lies ty off vs d (hg.drewN k) hu hd hi]
  exact ⟨rfl, rfl⟩

/-! A row by its cells' function, and the block that is known whole. -/
theorem blk_of_row {n : Nat} {f : Nat → Value} (h : w.rowIs g t n f) : Blk w g t ((List.range n).map f) := by
  obtain ⟨c, hc, hs, hf⟩ := h
  unfold Blk
  rw [hc]
  congr 2
  apply Array.ext_getElem?
  intro i
  by_cases hi : i < n
  · rw [hf i hi]; simp [hi]
  · rw [Array.getElem?_eq_none (show c.size ≤ i by omega), Array.getElem?_eq_none (show ((List.range n).map f).toArray.size ≤ i by simp; omega)]
theorem row_of_blk {n : Nat} {f : Nat → Value} (h : Blk w g t ((List.range n).map f)) : w.rowIs g t n f :=
  ⟨_, h, by simp, fun i hi => by simp [hi]⟩

theorem wpList_load_whole {ops : Array Oper} {rest : List Oper} {o : Oper} {a : Act} {Q : Exit → Act → World → Prop} (hgd : o.guard = none) (ty : TypeId) (x : Operand) (ho : o.op = .load ty x)
    (d : TypeDesc) (hx : a.eval x = .pointer (some ⟨g, 0, none⟩)) (hg : Blk w g t cs)
    (hu : P.underlying ty = some d) (hd : (match d with | .struct _ | .array _ _ => true | _ => false) = true) (hi : (P.info? ty).map (·.size) = some cs.length)
    (h : wpList P ops Q rest (a.put o.dst (.agg cs.toArray)) w) : wpList P ops Q (o :: rest) a w :=
  wpList_load_at hgd ty x ho 0 cs.length d hx hg (by omega) hu hd hi (by simpa using h)

theorem wpList_store_whole {ops : Array Oper} {rest : List Oper} {o : Oper} {a : Act} {Q : Exit → Act → World → Prop} (hgd : o.guard = none) (ty : TypeId) (x v : Operand) (ho : o.op = .store ty x v)
    (vs : List Value) (hx : a.eval x = .pointer (some ⟨g, 0, none⟩)) (hv : a.eval v = .agg vs.toArray) (hg : Blk w g t cs) (hl : cs.length = vs.length) (hi : (P.info? ty).map (·.size) = some vs.length) (h1 : ∀ v ∈ vs, v.oneCell' = true)
    (h : wpList P ops Q rest (a.put o.dst undef) (w.setRow g vs.toArray)) : wpList P ops Q (o :: rest) a w :=
  wpList_store_at hgd ty x v ho 0 vs hx hv hg (by omega) hi h1 (by rw [splice_all _ _ hl]; exact h)

theorem results_blk {fn : Func} {p : Tmp} {ty : TypeId} (h : fn.results = #[.cell p ty]) (tmps : Array Value) (d : TypeDesc)
    (hp : tmps.getD p undef = .pointer (some ⟨g, 0, none⟩)) (hg : Blk w g t cs)
    (hu : P.underlying ty = some d) (hd : (match d with | .struct _ | .array _ _ => true | _ => false) = true) (hi : (P.info? ty).map (·.size) = some cs.length) :
    (results fn tmps).run P w = .ok (.agg cs.toArray) w :=
  results_cell_row h tmps w g t cs.toArray (0, 0) d hp hg hu hd (by simpa using hi)
theorem Below.setRow {B : Nat} {a w : World} (h : Below B a w) {g : Nat} (hp : B ≤ g) (cs : Array Value) : Below B a (w.setRow g cs) :=
  ⟨h.os, h.tape, h.output, by simpa using h.size, fun i hi => (setRow_other w g i cs (by omega)).trans (h.block i hi)⟩
theorem Below.drewN {B : Nat} {a w : World} (h : Below B a w) (n : Nat) : Below B a (w.drewN n) := ⟨h.os, h.tape, h.output, h.size, h.block⟩
theorem rowIs_drewN {n : Nat} {f : Nat → Value} (h : w.rowIs g t n f) (k : Nat) : (w.drewN k).rowIs g t n f := h
theorem rowIs_setRow_far {n k : Nat} {f : Nat → Value} (h : w.rowIs g t n f) (hp : g ≠ k) (vs : Array Value) : (w.setRow k vs).rowIs g t n f := h.of_block (setRow_other w k g vs hp)
end
end Go.Aff
