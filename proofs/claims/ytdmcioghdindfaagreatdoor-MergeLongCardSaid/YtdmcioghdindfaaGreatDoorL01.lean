/- Texts. -/
import Derived.StillTail
import Derived.Deep.Quiet
import Derived.BigQuiet
import Derived.WalkKit
import Derived.Deep.OwnRows
import Derived.Laws.ResultCell
import Derived.Deep.RegionHeld3
set_option linter.unusedSimpArgs false
set_option maxRecDepth 100000
set_option maxHeartbeats 4000000
namespace Go
section
variable {P : Program} {ops : Array Oper} {md : Region.Mode} {C : World → Prop}
end
end Go
namespace Go.Aff
open Go
open Go.RowKit
def Blk (w : World) (g : Nat) (t : TypeId) (cs : List Value) : Prop := w.heap[g]? = some (.cells cs.toArray t (0, 0))
def splice (cs : List Value) (o : Nat) (vs : List Value) : List Value := cs.take o ++ vs ++ cs.drop (o + vs.length)
theorem splice_getElem? (cs : List Value) (o : Nat) (vs : List Value) (h : o + vs.length ≤ cs.length) (j : Nat) :
  (splice cs o vs)[j]? = if j < o then cs[j]? else if j < o + vs.length then vs[j - o]? else cs[j]? := by
 unfold splice
 have h1 : (cs.take o).length = o := by simp; omega
 by_cases a : j < o
 ·rw [if_pos a, List.append_assoc, List.getElem?_append_left (by omega), List.getElem?_take]; simp [a]
 rw [if_neg a]
 by_cases b : j < o + vs.length
 ·rw [if_pos b, List.getElem?_append_left (by simp; omega), List.getElem?_append_right (by omega), h1]
 rw [if_neg b, List.getElem?_append_right (by simp; omega), List.getElem?_drop]
 congr 1; simp; omega
theorem splice_all (cs vs : List Value) (h : cs.length = vs.length) : splice cs 0 vs = vs := by
 simp [splice, ← h]
theorem add_at (g o i : Nat) : (⟨g, o, none⟩ : Addr).add i = ⟨g, o + i, none⟩ := by
 unfold Addr.add; split <;> simp_all
section
variable {P : Program} {w w' : World} {g : Nat} {t : TypeId} {cs : List Value}
theorem Blk.lt (h : Blk w g t cs) : g < w.heap.size := by
 rcases Nat.lt_or_ge g w.heap.size with hlt | hge
 ·exact hlt
 unfold Blk at h; rw [Array.getElem?_eq_none hge] at h; cases h
theorem Blk.cell (h : Blk w g t cs) (i : Nat) : w.cell? ⟨g, i, none⟩ = cs[i]? := by
 rw [cell_of_row w g i cs.toArray t (0, 0) h]; simp
theorem Blk.frozen (h : Blk w g t cs) (i : Nat) : w.frozen? ⟨g, i, none⟩ = false := by
 unfold Blk at h
 simp [World.frozen?, h]
theorem Blk.new (w : World) (t : TypeId) (cs : List Value) : Blk (w.alloc (.cells cs.toArray t)) w.heap.size t cs := heap_alloc_new w _
theorem Blk.drew (h : Blk w g t cs) : Blk w.drew g t cs := h
theorem Blk.drewN (h : Blk w g t cs) (n : Nat) : Blk (w.drewN n) g t cs := h
theorem Blk.alloc (h : Blk w g t cs) (o : Obj) : Blk (w.alloc o) g t cs := (Below.heap_alloc w o g h.lt).trans h
theorem Blk.set_ (h : Blk w g t cs) (i : Nat) (u : Value) : Blk (w.setCell ⟨g, i, none⟩ u) g t (cs.set i u) := by
 unfold Blk at h ⊢
 simp [World.setCell, Array.getElem?_modify, h]
theorem Blk.far (h : Blk w g t cs) {p : Addr} (hp : g ≠ p.block) (u : Value) : Blk (w.setCell p u) g t cs := (Below.heap_setCell w p u g hp).trans h
theorem Blk.setRow (h : Blk w g t cs) (vs : List Value) : Blk (w.setRow g vs.toArray) g t vs := setRow_heap w g _ _ t _ h
theorem Blk.of_block (h : Blk w g t cs) (e : w'.heap[g]? = w.heap[g]?) : Blk w' g t cs := e.trans h
theorem Blk.below {B : Nat} (h : Blk w g t cs) (hb : Below B w w') (hg : g < B) : Blk w' g t cs := (hb.block g hg).trans h
theorem run_storeCells_at (g o : Nat) (t : TypeId) (vs : List Value) : ∀ (i : Nat) (cs : List Value) (w : World), Blk w g t cs → o + i + vs.length ≤ cs.length → (∀ v ∈ vs, v.oneCell' = true) →
  (storeCells ⟨g, o, none⟩ vs i).run P w = .ok () (w.setRow g (splice cs (o + i) vs).toArray) := by
 induction vs with
 | nil =>
  intro i cs w hg hl _
  have e : splice cs (o + i) [] = cs := by simp [splice]
  rw [e]
  simp only [storeCells]
  show Result.ok () w = _
  congr 1
  have hlt := hg.lt
  have hv : w.heap[g] = .cells cs.toArray t (0, 0) := (Array.getElem?_eq_some_iff.1 hg).2
  unfold World.setRow
  cases w with
  | mk heap tape drawn os output =>
   congr 1
   apply Array.ext
   ·simp
   intro k h1 h2
   simp only [Array.getElem_modify]
   split
   ·rename_i hk; subst hk; simp at hv; simp [hv]
   rfl
 | cons v rest ih =>
  intro i cs w hg hl h1
  have hi : o + i < cs.length := by simp at hl; omega
  have hcell : w.cell? ⟨g, o + i, none⟩ = some cs[o + i] := by rw [hg.cell, List.getElem?_eq_getElem hi]
  have hfro : w.frozen? ⟨g, o + i, none⟩ = false := hg.frozen _
  have hst : (store ((⟨g, o, none⟩ : Addr).add i) v).run P w = .ok () (w.setCell ⟨g, o + i, none⟩ v) := by
   rw [add_at, run_store P w _ v _ (h1 v (by simp))]
   simp [hcell, hfro]
  have hn := ih (i + 1) (cs.set (o + i) v) (w.setCell ⟨g, o + i, none⟩ v) (hg.set_ _ _) (by simp at hl ⊢; omega) (fun u hu => h1 u (by simp [hu]))
  simp only [storeCells, Sem.run_bind, hst, Result.andThen_ok, hn]
  congr 1
  have hb : Blk (w.setCell ⟨g, o + i, none⟩ v) g t (cs.set (o + i) v) := hg.set_ _ _
  have e1 : w.setCell ⟨g, o + i, none⟩ v = w.setRow g (cs.set (o + i) v).toArray := by
   rw [setCell_eq_setRow w g (o + i) cs.toArray t (0, 0) v hg]; simp
  rw [e1, setRow_setRow]
  congr 2
  have hl' : o + i + (v :: rest).length ≤ cs.length := by simpa using hl
  apply List.ext_getElem?
  intro j
  rw [splice_getElem? _ _ _ (by simp at hl' ⊢; omega), splice_getElem? _ _ _ hl']
  simp only [List.getElem?_set, List.length_cons]
  by_cases a : j < o + i
  ·rw [if_pos (by omega), if_pos a, if_neg (by omega)]
  by_cases b : j = o + i
  ·subst b; rw [if_pos (by omega), if_pos rfl, if_neg a, if_pos (by omega)]; simp
  rw [if_neg (by omega), if_neg a]
  by_cases c : j < o + (i + 1) + rest.length
  ·rw [if_pos c, if_pos (by omega), show j - (o + i) = (j - (o + (i + 1))) + 1 by omega]; simp
  rw [if_neg c, if_neg (by omega), if_neg (by omega)]
theorem run_storeVar_at (ty : TypeId) (o : Nat) (vs : List Value) (hg : Blk w g t cs) (hl : o + vs.length ≤ cs.length) (hi : (P.info? ty).map (·.size) = some vs.length) (h1 : ∀ v ∈ vs, v.oneCell' = true) :
  (storeVar ty ⟨g, o, none⟩ (.agg vs.toArray)).run P w = .ok () (w.setRow g (splice cs o vs).toArray) := by
 cases hq : P.info? ty with
 | none => simp [hq] at hi
 | some i =>
  have hs : i.size = vs.length := by simpa [hq] using hi
  have := run_storeCells_at (P := P) g o t vs 0 cs w hg (by omega) h1
  simp [storeVar, sizeOf, typeInfo, hq, Value.cells, hs, this]
theorem wpList_store_at {ops : Array Oper} {rest : List Oper} {o : Oper} {a : Act} {Q : Exit → Act → World → Prop} (hgd : o.guard = none) (ty : TypeId) (x v : Operand) (ho : o.op = .store ty x v)
  (off : Nat) (vs : List Value) (hx : a.eval x = .pointer (some ⟨g, off, none⟩)) (hv : a.eval v = .agg vs.toArray) (hg : Blk w g t cs) (hl : off + vs.length ≤ cs.length) (hi : (P.info? ty).map (·.size) = some vs.length) (h1 : ∀ v ∈ vs, v.oneCell' = true)
  (h : wpList P ops Q rest (a.put o.dst undef) (w.setRow g (splice cs off vs).toArray)) : wpList P ops Q (o :: rest) a w :=
 wpList_plain hgd fun _ hK => by
  unfold Oper.wp execOp
  simp only [ho, hx, hv, Instr.storeAt, Instr.sureAddr, Sem.run_bind, Sem.run_pure, Result.andThen_ok, run_storeVar_at ty off vs hg hl hi h1]
  exact hK _ _ h
theorem run_loadVar_at (ty : TypeId) (o n : Nat) (d : TypeDesc) (hg : Blk w g t cs) (hl : o + n ≤ cs.length)
  (hu : P.underlying ty = some d) (hd : (match d with | .struct _ | .array _ _ => true | _ => false) = true) (hi : (P.info? ty).map (·.size) = some n) :
  (loadVar ty ⟨g, o, none⟩).run P w = .ok (.agg ((cs.drop o).take n).toArray) w := by
 have hlen : ((cs.drop o).take n).length = n := by simp; omega
 have hl' : (loadCells ⟨g, o, none⟩ ((cs.drop o).take n).length).run P w = .ok ((cs.drop o).take n).toArray w :=
  run_loadCells_list (P := P) w ⟨g, o, none⟩ ((cs.drop o).take n) (fun j v hv => by
   rw [add_at, hg.cell]
   rw [List.getElem?_take] at hv
   split at hv
   ·rwa [List.getElem?_drop] at hv
   cases hv)
 rw [hlen] at hl'
 cases hq : P.info? ty with
 | none => simp [hq] at hi
 | some i =>
  have hs : i.size = n := by simpa [hq] using hi
  have hagg : (isAgg ty).run P w = .ok true w := by
   unfold isAgg
   rw [Sem.run_bind, run_underlying hu w]
   cases d <;> simp_all
  simp [loadVar, Sem.run_bind, hagg, sizeOf, typeInfo, hq, hs, hl']
theorem wpList_load_at {ops : Array Oper} {rest : List Oper} {o : Oper} {a : Act} {Q : Exit → Act → World → Prop} (hgd : o.guard = none) (ty : TypeId) (x : Operand) (ho : o.op = .load ty x)
  (off n : Nat) (d : TypeDesc) (hx : a.eval x = .pointer (some ⟨g, off, none⟩)) (hg : Blk w g t cs) (hl : off + n ≤ cs.length)
  (hu : P.underlying ty = some d) (hd : (match d with | .struct _ | .array _ _ => true | _ => false) = true) (hi : (P.info? ty).map (·.size) = some n)
  (h : wpList P ops Q rest (a.put o.dst (.agg ((cs.drop off).take n).toArray)) w) : wpList P ops Q (o :: rest) a w :=
 wpList_plain hgd fun _ hK => by
  unfold Oper.wp execOp
  simp only [ho, hx, Instr.loadAt, Instr.sureAddr, Sem.run_bind, Sem.run_pure, Result.andThen_ok, run_loadVar_at ty off n d hg hl hu hd hi]
  exact hK _ _ h
def Lies (w : World) (g o : Nat) (vs : List Value) : Prop := ∀ j, j < vs.length → w.cell? ⟨g, o + j, none⟩ = vs[j]?
theorem Lies.drewN {vs : List Value} {o : Nat} (h : Lies w g o vs) (k : Nat) : Lies (w.drewN k) g o vs := h
theorem Lies.of_blk {vs : List Value} {o : Nat} (h : Blk w g t cs) (e : (cs.drop o).take vs.length = vs) : Lies w g o vs := by
 intro j hj
 rw [h.cell]
 have h1 : ((cs.drop o).take vs.length)[j]? = vs[j]? := by rw [e]
 rw [List.getElem?_take, if_pos hj, List.getElem?_drop] at h1
 exact h1
theorem wpList_load_whole {ops : Array Oper} {rest : List Oper} {o : Oper} {a : Act} {Q : Exit → Act → World → Prop} (hgd : o.guard = none) (ty : TypeId) (x : Operand) (ho : o.op = .load ty x)
  (d : TypeDesc) (hx : a.eval x = .pointer (some ⟨g, 0, none⟩)) (hg : Blk w g t cs)
  (hu : P.underlying ty = some d) (hd : (match d with | .struct _ | .array _ _ => true | _ => false) = true) (hi : (P.info? ty).map (·.size) = some cs.length)
  (h : wpList P ops Q rest (a.put o.dst (.agg cs.toArray)) w) : wpList P ops Q (o :: rest) a w :=
 wpList_load_at hgd ty x ho 0 cs.length d hx hg (by omega) hu hd hi (by simpa using h)
theorem wpList_store_whole {ops : Array Oper} {rest : List Oper} {o : Oper} {a : Act} {Q : Exit → Act → World → Prop} (hgd : o.guard = none) (ty : TypeId) (x v : Operand) (ho : o.op = .store ty x v)
  (vs : List Value) (hx : a.eval x = .pointer (some ⟨g, 0, none⟩)) (hv : a.eval v = .agg vs.toArray) (hg : Blk w g t cs) (hl : cs.length = vs.length) (hi : (P.info? ty).map (·.size) = some vs.length) (h1 : ∀ v ∈ vs, v.oneCell' = true)
  (h : wpList P ops Q rest (a.put o.dst undef) (w.setRow g vs.toArray)) : wpList P ops Q (o :: rest) a w :=
 wpList_store_at hgd ty x v ho 0 vs hx hv hg (by omega) hi h1 (by rw [splice_all _ _ hl]; exact h)
theorem results_blk {fn : Func} {p : Tmp} {ty : TypeId} (h : fn.results = #[.cell p ty]) (tmps : Array Value) (d : TypeDesc)
  (hp : tmps.getD p undef = .pointer (some ⟨g, 0, none⟩)) (hg : Blk w g t cs)
  (hu : P.underlying ty = some d) (hd : (match d with | .struct _ | .array _ _ => true | _ => false) = true) (hi : (P.info? ty).map (·.size) = some cs.length) :
  (results fn tmps).run P w = .ok (.agg cs.toArray) w :=
 results_cell_row h tmps w g t cs.toArray (0, 0) d hp hg hu hd (by simpa using hi)
theorem Below.setRow {B : Nat} {a w : World} (h : Below B a w) {g : Nat} (hp : B ≤ g) (cs : Array Value) : Below B a (w.setRow g cs) :=
 ⟨h.os, h.tape, h.output, by simpa using h.size, fun i hi => (setRow_other w g i cs (by omega)).trans (h.block i hi)⟩
theorem Below.drewN {B : Nat} {a w : World} (h : Below B a w) (n : Nat) : Below B a (w.drewN n) := ⟨h.os, h.tape, h.output, h.size, h.block⟩
end
end Go.Aff
namespace Go
section
variable {P : Program} {ops : Array Oper} {md : Region.Mode} {C : World → Prop}
structure OrdInv (md : Region.Mode) (ops : Array Oper) (mid post : List Nat) (done : Array Bool) : Prop where
 size : done.size = ops.size
 closed : ∀ j oj, ops[j]? = some oj → done.getD j false = true → ∀ e ∈ oj.after, Region.binds md e = true → done.getD e.on false = true
 tail : ∀ t ∈ post, done.getD t true = false
 cover : ∀ i, i < ops.size → done.getD i true = false → i ∈ mid ∨ i ∈ post
theorem OrdInv.set {mid cs : List Nat} {c0 i : Nat} {done : Array Bool} (inv : OrdInv md ops mid (c0 :: cs) done) (hi : i ∈ Region.ready md ops done) (hn : ∀ t ∈ c0 :: cs, t ≠ i) : OrdInv md ops mid (c0 :: cs) (done.setIfInBounds i true) := by
 obtain ⟨_, oi, hoi, hall⟩ := mem_ready.1 hi
 refine ⟨by simp [inv.size], fun j oj hj hl e he hb => ?_, fun t ht => by rw [getD_set_ne true (Ne.symm (hn t ht))]; exact inv.tail t ht, fun k hk hun => ?_⟩
 ·by_cases hij : i = j
  ·subst hij
   have : oj = oi := Option.some.inj (hj.symm.trans hoi)
   subst this
   exact getD_set_true (hall e he hb)
  rw [getD_set_ne false hij] at hl
  exact getD_set_true (inv.closed j oj hj hl e he hb)
 refine inv.cover k hk ?_
 by_cases hik : i = k
 ·subst hik; exact (mem_ready.1 hi).1
 rwa [getD_set_ne true hik] at hun
end
section
variable {P : Program} {ops : Array Oper} {Q : Exit → Act → World → Prop} {md : Region.Mode} {S : World → Prop} {z : Nat}
theorem waits_not_ready {i j : Nat} {l : Array Bool} (hw : Region.waitsFor md ops j i = true) (hi : i ∈ Region.ready md ops l) : j ∉ Region.ready md ops l := by
 obtain ⟨oj, ho, e, he, hb, rfl⟩ := Region.waitsFor_spec hw
 intro hj
 obtain ⟨_, o', ho', hall⟩ := mem_ready.1 hj
 rw [ho] at ho'
 injection ho' with ho'
 subst ho'
 have h1 := hall e he hb
 have h0 := (mem_ready.1 hi).1
 rcases Nat.lt_or_ge e.on l.size with h' | h'
 ·simp [h'] at h0 h1; rw [h0] at h1; cases h1
 simp [Array.getElem?_eq_none h'] at h1
end
end Go
namespace Go.Sha
open Go
def tu (x n : Int) : Int := bits .or .u32 (x / 2 ^ n.toNat) (x * 2 ^ (32 - n).toNat % 4294967296)
def hz (B : Nat → Int) (t : Nat) : Nat → Int
 | 0 => 0
 | k + 1 => bits .or .u32 (hz B t k * 256 % 4294967296) (B (4 * t + k))
def nextW (W : Nat → Int) (t : Nat) : Int :=
 (W (t - 16) + W (t - 7) + bits .xor .u32 (bits .xor .u32 (tu (W (t - 15)) 7) (tu (W (t - 15)) 18)) (W (t - 15) / 8)
  + bits .xor .u32 (bits .xor .u32 (tu (W (t - 2)) 17) (tu (W (t - 2)) 19)) (W (t - 2) / 1024)) % 4294967296
def ws (B : Nat → Int) : Nat → List Int
 | 0 => []
 | t + 1 => ws B t ++ [if t < 16 then hz B t 4 else nextW (fun j => (ws B t).getD j 0) t]
def wsv (B : Nat → Int) (t j : Nat) : Int := (ws B t).getD j 0
def K : List Int := [1116352408, 1899447441, 3049323471, 3921009573, 961987163, 1508970993, 2453635748, 2870763221, 3624381080, 310598401, 607225278, 1426881987, 1925078388, 2162078206, 2614888103, 3248222580, 3835390401, 4022224774, 264347078, 604807628, 770255983, 1249150122, 1555081692, 1996064986, 2554220882, 2821834349, 2952996808, 3210313671, 3336571891, 3584528711, 113926993, 338241895, 666307205, 773529912, 1294757372, 1396182291, 1695183700, 1986661051, 2177026350, 2456956037, 2730485921, 2820302411, 3259730800, 3345764771, 3516065817, 3600352804, 4094571909, 275423344, 430227734, 506948616, 659060556, 883997877, 958139571, 1322822218, 1537002063, 1747873779, 1955562222, 2024104815, 2227730452, 2361852424, 2428436474, 2756734187, 3204031479, 3329325298]
def firstL : List Int := [1779033703, 3144134277, 1013904242, 2773480762, 1359893119, 2600822924, 528734635, 1541459225]
def first (i : Nat) : Int := firstL.getD i 0
def tOne (e f g h k w : Int) : Int :=
 h + k + w + bits .xor .u32 (bits .xor .u32 (tu e 6) (tu e 11)) (tu e 25) + bits .xor .u32 (bits .and .u32 e f) (bits .and .u32 (bits .xor .u32 IntKind.u32.max e) g)
def tTwo (a b c : Int) : Int :=
 bits .xor .u32 (bits .xor .u32 (tu a 2) (tu a 13)) (tu a 22) + bits .xor .u32 (bits .xor .u32 (bits .and .u32 a b) (bits .and .u32 a c)) (bits .and .u32 b c)
def stL (l : List Int) (k w : Int) : List Int :=
 let a := l.getD 0 0; let b := l.getD 1 0; let c := l.getD 2 0; let d := l.getD 3 0
 let e := l.getD 4 0; let f := l.getD 5 0; let g := l.getD 6 0; let h := l.getD 7 0
 [(tOne e f g h k w + tTwo a b c) % 4294967296, a, b, c, (d + tOne e f g h k w) % 4294967296, e, f, g]
def csL (W S : Nat → Int) : Nat → List Int
 | 0 => [S 0, S 1, S 2, S 3, S 4, S 5, S 6, S 7]
 | t + 1 => stL (csL W S t) (K.getD t 0) (W t)
def round (S B : Nat → Int) (i : Nat) : Int := ((csL (wsv B 64) S 64).getD i 0 + S i) % 4294967296
end Go.Sha
