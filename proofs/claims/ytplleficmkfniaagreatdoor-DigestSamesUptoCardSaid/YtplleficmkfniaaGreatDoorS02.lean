/- Texts. -/
import Derived.Test.YtplleficmkfniaaGreatDoorS01
import Derived.Laws.OwnMore
import Derived.Maps.AppendAt
import Derived.Laws.AppendOwnNone
import Derived.ChangeKeysEq
import Derived.Laws.StructEq
import Derived.Laws.BytesArg
import Derived.Lib.Bytes
import Derived.OwnWalk
import Derived.Lib.SliceRun
import Derived.Deep.AppendLies
import Derived.Lib.AppendZerosOnto
set_option linter.unusedSimpArgs false
set_option maxRecDepth 100000
set_option maxHeartbeats 4000000
namespace Go.Aff
open Go Go.RowKit
structure Keeps (F : Nat → Prop) (w w' : World) : Prop where
 os : w'.os = w.os
 tape : w'.tape = w.tape
 output : w'.output = w.output
 size : w.heap.size ≤ w'.heap.size
 block : ∀ i, i < w.heap.size → ¬ F i → w'.heap[i]? = w.heap[i]?
section
variable {F G : Nat → Prop} {w w1 w2 : World}
theorem Keeps.refl (F : Nat → Prop) (w : World) : Keeps F w w := ⟨rfl, rfl, rfl, Nat.le_refl _, fun _ _ _ => rfl⟩
theorem Keeps.trans (h : Keeps F w w1) (k : Keeps G w1 w2) (hG : ∀ i, i < w.heap.size → G i → F i) : Keeps F w w2 :=
 ⟨k.os.trans h.os, k.tape.trans h.tape, k.output.trans h.output, Nat.le_trans h.size k.size,
  fun i hi hn => (k.block i (Nat.lt_of_lt_of_le hi h.size) (fun hg => hn (hG i hi hg))).trans (h.block i hi hn)⟩
theorem Keeps.mono (h : Keeps F w w1) (hG : ∀ i, i < w.heap.size → F i → G i) : Keeps G w w1 := ⟨h.os, h.tape, h.output, h.size, fun i hi hn => h.block i hi (fun hf => hn (hG i hi hf))⟩
theorem Keeps.drewN (h : Keeps F w w1) (n : Nat) : Keeps F w (w1.drewN n) := ⟨h.os, h.tape, h.output, h.size, h.block⟩
theorem Keeps.drew (h : Keeps F w w1) : Keeps F w w1.drew := ⟨h.os, h.tape, h.output, h.size, h.block⟩
theorem Keeps.alloc (h : Keeps F w w1) (o : Obj) : Keeps F w (w1.alloc o) :=
 ⟨h.os, h.tape, h.output, Nat.le_trans h.size (by simp), fun i hi hn => (Below.heap_alloc w1 o i (Nat.lt_of_lt_of_le hi h.size)).trans (h.block i hi hn)⟩
theorem Keeps.setCell (h : Keeps F w w1) {p : Addr} (hp : F p.block ∨ w.heap.size ≤ p.block) (u : Value) : Keeps F w (w1.setCell p u) :=
 ⟨h.os, h.tape, h.output, by simpa using h.size, fun i hi hn => (Below.heap_setCell w1 p u i (by rintro rfl; rcases hp with hp | hp; exact hn hp; omega)).trans (h.block i hi hn)⟩
theorem Keeps.setRow (h : Keeps F w w1) {g : Nat} (hp : F g ∨ w.heap.size ≤ g) (cs : Array Value) : Keeps F w (w1.setRow g cs) :=
 ⟨h.os, h.tape, h.output, by simpa using h.size, fun i hi hn => (setRow_other w1 g i cs (by rintro rfl; rcases hp with hp | hp; exact hn hp; omega)).trans (h.block i hi hn)⟩
theorem Keeps.grown {row : Option Nat} (h : Keeps F w w1) (hg : w1.grownBy w2 row) (hr : ∀ g, row = some g → F g ∨ w.heap.size ≤ g) : Keeps F w w2 :=
 ⟨hg.os.trans h.os, hg.tape.trans h.tape, hg.output.trans h.output, Nat.le_trans h.size hg.size,
  fun i hi hn => (hg.block i (Nat.lt_of_lt_of_le hi h.size) (fun e => by rcases hr i e.symm with hp | hp; exact hn hp; omega)).trans (h.block i hi hn)⟩
theorem Keeps.below {B : Nat} (h : Below B w w1) : Keeps (fun i => B ≤ i) w w1 := ⟨h.os, h.tape, h.output, h.size, fun i _ hn => h.block i (by omega)⟩
theorem Keeps.of_below (h : Below w.heap.size w w1) : Keeps F w w1 := ⟨h.os, h.tape, h.output, h.size, fun i hi _ => h.block i hi⟩
theorem Keeps.to_below (h : Keeps F w w1) (hF : ∀ i, i < w.heap.size → ¬ F i) : Below w.heap.size w w1 := ⟨h.os, h.tape, h.output, h.size, fun i hi => h.block i hi (hF i hi)⟩
theorem Keeps.cell (h : Keeps F w w1) {p : Addr} (hp : p.block < w.heap.size) (hn : ¬ F p.block) : w1.cell? p = w.cell? p := World.cell?_of_block (h.block _ hp hn)
theorem Keeps.blk {g : Nat} {t : TypeId} {cs : List Value} (h : Keeps F w w1) (hb : Blk w g t cs) (hn : ¬ F g) : Blk w1 g t cs := hb.of_block (h.block g hb.lt hn)
theorem Keeps.own {base : Nat} {e : TypeId} {size n : Nat} {v : Value} {xs : List Value} (h : Keeps F w w1) (ho : w.ownsRow base e size v n xs) (hn : ∀ g, v.ownBlock = some g → ¬ F g) : w1.ownsRow base e size v n xs := by
 refine ⟨ho.1, ?_⟩
 rcases ho.2 with hz | ⟨g, cap, cur, rfl, hb, hg, rest⟩
 ·exact .inl hz
 ·exact .inr ⟨g, cap, cur, rfl, hb, (h.block g (Array.getElem?_eq_some_iff.1 hg).1 (hn g rfl)).trans hg, rest⟩
end
def Rd (w : World) (A : Option Addr) (n : Nat) (xs : List Value) : Prop :=
 xs.length = n ∧ (0 < n → ∃ g o, A = some ⟨g, o, none⟩ ∧ ∀ j, j < n → w.cell? ⟨g, o + j, none⟩ = xs[j]?)
def Out (F : Nat → Prop) (A : Option Addr) (n : Nat) : Prop := 0 < n → ∀ ad, A = some ad → ¬ F ad.block
def vb (bs : List Int) : List Value := bs.map (Value.int .u8)
def IsBytes (bs : List Int) : Prop := ∀ x ∈ bs, 0 ≤ x ∧ x < 256
section
variable {F : Nat → Prop} {w w' : World} {A : Option Addr} {n : Nat} {xs : List Value}
theorem Rd.nil (w : World) (A : Option Addr) : Rd w A 0 [] := ⟨rfl, fun h => absurd h (by omega)⟩
theorem Rd.lt (h : Rd w A n xs) (hn : 0 < n) : ∃ g o, A = some ⟨g, o, none⟩ ∧ g < w.heap.size := by
 obtain ⟨g, o, rfl, hc⟩ := h.2 hn
 have h0 := hc 0 hn
 rw [List.getElem?_eq_getElem (by rw [h.1]; exact hn)] at h0
 exact ⟨g, o, rfl, World.block_lt_of_cell? w _ h0⟩
theorem Rd.keep (h : Rd w A n xs) (hk : Keeps F w w') (ho : Out F A n) : Rd w' A n xs := by
 refine ⟨h.1, fun hn => ?_⟩
 obtain ⟨g, o, rfl, hc⟩ := h.2 hn
 obtain ⟨_, _, e, hlt⟩ := h.lt hn
 injection e with e
 injection e with e1 e2
 subst e1
 exact ⟨g, o, rfl, fun j hj => (hk.cell (p := ⟨g, o + j, none⟩) hlt (ho hn ⟨g, o, none⟩ rfl)).trans (hc j hj)⟩
theorem Rd.cut (h : Rd w A n xs) {k cap : Nat} (hk : k ≤ n) (hc : n ≤ cap) : Rd w (if cap = k then A else A.map (·.add k)) (n - k) (xs.drop k) := by
 refine ⟨by rw [List.length_drop, h.1], fun hn => ?_⟩
 obtain ⟨g, o, rfl, hcell⟩ := h.2 (by omega)
 rw [if_neg (by omega)]
 refine ⟨g, o + k, by simp [add_at], fun j hj => ?_⟩
 rw [Nat.add_assoc, hcell _ (by omega), List.getElem?_drop]
theorem Rd.of_own {base : Nat} {e : TypeId} {c : Nat} (h : w.ownsRow base e 1 (.slice A n c) n xs) : Rd w A n xs := by
 refine ⟨by simpa using h.1, fun hn => ?_⟩
 rcases h.2 with ⟨_, h0⟩ | ⟨g, cap, cur, hv, hb, hg, hle, hm, hs, ht⟩
 ·omega
 ·injection hv with hA _ _
  subst hA
  refine ⟨g, 0, rfl, fun j hj => ?_⟩
  rw [← ht, Nat.zero_add, cell_of_row w g j cur e (0, 0) hg, List.getElem?_take, if_pos (by omega)]
  simp
theorem Rd.of_blk {g : Nat} {t : TypeId} {cs : List Value} (h : Blk w g t cs) (hl : cs.length = n) : Rd w (some ⟨g, 0, none⟩) n cs :=
 ⟨hl, fun _ => ⟨g, 0, rfl, fun j _ => by rw [Nat.zero_add, h.cell]⟩⟩
theorem Out.cut {k cap : Nat} (h : Out F A n) (hk : k ≤ n) (hc : n ≤ cap) : Out F (if cap = k then A else A.map (·.add k)) (n - k) := by
 intro hn ad he
 rw [if_neg (by omega)] at he
 cases A with
 | none => cases he
 | some a =>
  have e : a.add k = ad := by simpa using he
  have hb : ad.block = a.block := by rw [← e]; unfold Addr.add; split <;> rfl
  rw [hb]
  exact h (by omega) a rfl
theorem Out.take {k : Nat} (h : Out F A n) (hk : k ≤ n) : Out F A k := fun hn ad he => h (by omega) ad he
theorem Out.mono {G : Nat → Prop} (h : Out F A n) (hG : ∀ i, G i → F i) : Out G A n := fun hn ad he hg => h hn ad he (hG _ hg)
theorem Rd.take (h : Rd w A n xs) {k : Nat} (hk : k ≤ n) : Rd w A k (xs.take k) := by
 refine ⟨by rw [List.length_take, h.1]; omega, fun hn => ?_⟩
 obtain ⟨g, o, rfl, hcell⟩ := h.2 (by omega)
 refine ⟨g, o, rfl, fun j hj => ?_⟩
 rw [hcell _ (by omega), List.getElem?_take, if_pos hj]
end
theorem Keeps.of_grown {w w' : World} {row : Option Nat} (h : w.grownBy w' row) : Keeps (fun i => row = some i) w w' := ⟨h.os, h.tape, h.output, h.size, fun i hi hn => h.block i hi (fun e => hn e.symm)⟩
theorem Rd.grown {w w' : World} {A : Option Addr} {n : Nat} {xs : List Value} {row : Option Nat} (h : Rd w A n xs) (hg : w.grownBy w' row) (hr : ∀ g, row = some g → w.heap.size ≤ g) : Rd w' A n xs := by
 refine ⟨h.1, fun hn => ?_⟩
 obtain ⟨g, o, rfl, hc⟩ := h.2 hn
 obtain ⟨_, _, e, hlt⟩ := h.lt hn
 injection e with e
 injection e with e1 e2
 subst e1
 exact ⟨g, o, rfl, fun j hj => (World.cell?_of_block (a := ⟨g, o + j, none⟩) (hg.block g hlt (fun e => by have := hr g e.symm; omega))).trans (hc j hj)⟩
theorem Rd.alloc {w : World} {A : Option Addr} {n : Nat} {xs : List Value} (h : Rd w A n xs) (o : Obj) : Rd (w.alloc o) A n xs :=
 h.grown (World.grownBy_alloc w o none) (fun g e => by cases e)
theorem Rd.drewN {w : World} {A : Option Addr} {n : Nat} {xs : List Value} (h : Rd w A n xs) (k : Nat) : Rd (w.drewN k) A n xs := h
theorem own_shape {w : World} {base : Nat} {e : TypeId} {size : Nat} {v : Value} {n : Nat} {xs : List Value} (h : w.ownsRow base e size v n xs) : ∃ A c, v = .slice A n c := by
 rcases h.2 with ⟨rfl, rfl⟩ | ⟨g, cap, cur, rfl, _⟩
 ·exact ⟨none, 0, rfl⟩
 ·exact ⟨_, _, rfl⟩
theorem wpList_append_rd {P : Program} (w : World) {ops : Array Oper} {rest : List Oper} {o : Oper} {a : Act} {Q : Exit → Act → World → Prop} (hgd : o.guard = none) (s x : Operand) (t : TypeId)
  (ho : o.op = .call { callee := .builtin .append, args := #[s, x], argTypes := #[t, t] })
  (e : TypeId) (z : Value) (bytes : Nat) (ht : P.underlying t = some (.slice e)) (hinfo : (P.info? e).map (fun i => (i.zero, i.size, i.bytes)) = some (some z, 1, bytes)) (hzs : z.cells.size = 1)
  (v : Value) (n : Nat) (xs : List Value) (hs : a.eval s = v) (hown : w.ownsRow 0 e 1 v n xs)
  (A : Option Addr) (m c : Nat) (news : List Value) (hx : a.eval x = .slice A m c) (hr : Rd w A m news) (h1 : ∀ u ∈ news, u.oneCell' = true)
  (h63 : n + m ≤ maxLen) (hbytes : (n + m) * bytes ≤ 140737488355328)
  (h : ∀ A' c' w', w'.ownsRow 0 e 1 (.slice A' (n + m) c') (n + m) (xs ++ news) → w.grownBy w' v.ownBlock → ((Value.slice A' (n + m) c').ownBlock = v.ownBlock ∨ (Value.slice A' (n + m) c').ownBlock = some w.heap.size) → wpList P ops Q rest (a.put o.dst (.slice A' (n + m) c')) w') :
  wpList P ops Q (o :: rest) a w := by
 obtain ⟨i, hi, hzi⟩ := Option.map_eq_some_iff.1 hinfo
 simp only [Prod.mk.injEq] at hzi
 obtain ⟨hz, hsz, hby⟩ := hzi
 rcases A with _ | ad
 ·have hm : m = 0 := by
   rcases Nat.eq_zero_or_pos m with h0 | h0
   ·exact h0
   ·obtain ⟨g, o, e1, _⟩ := hr.2 h0
    cases e1
  subst hm
  have hn : news = [] := List.eq_nil_of_length_eq_zero hr.1
  subst hn
  obtain ⟨A', c', rfl⟩ := own_shape hown
  refine wpList_plain hgd fun K hK => ?_
  have hrun : (Builtin.append_ #[t, t] o.type #[.slice A' n c', .slice none 0 c]).run P w = .ok (.slice A' n c') w := by
   rcases hown.2 with ⟨hv, hn0⟩ | ⟨g, cap, cur, hv, _, _, hnc, _⟩
   ·injection hv with e1 e2 e3
    subst e1 e2 e3
    simp [Builtin.append_, run_underlying ht, sizeOf, typeInfo, hi, Builtin.lenOf, Builtin.firstCells]
   ·injection hv with e1 e2 e3
    subst e1 e3
    simp [Builtin.append_, run_underlying ht, sizeOf, typeInfo, hi, Builtin.lenOf, Builtin.firstCells, hnc, storeCells]
  unfold Oper.wp execOp
  simp only [ho, resolve, invoke, builtin, Sem.run_bind, Sem.run_pure, Result.andThen_ok, List.map_toArray, List.map_cons, List.map_nil, hs, hx, hrun]
  have := h A' c' w (by simpa using hown) (World.grownBy.refl w _) (.inl rfl)
  exact hK _ _ this
 ·have hcells : ∀ j u, news[j]? = some u → w.cell? (ad.add j) = some u := by
   intro j u hu
   have hj : j < news.length := (List.getElem?_eq_some_iff.1 hu).1
   obtain ⟨g, o, e1, hc⟩ := hr.2 (by have := hr.1; omega)
   injection e1 with e1
   subst e1
   rw [add_at, hc j (by have := hr.1; omega), hu]
  refine wpList_append_own_at w hgd s x t ho 0 e i z 1 bytes ht hi hz hsz hby hzs (by omega) v n xs hs hown ad m c news hx (by rw [hr.1]; simp) hcells h1 h63 hbytes (by omega) fun v' w' h2 h3 _ h5 => ?_
  obtain ⟨A', c', rfl⟩ := own_shape h2
  exact h A' c' w' h2 h3 h5
end Go.Aff
namespace Go.Sha
open Go Go.Aff
def blockAt (X : List Int) (k : Nat) (i : Nat) : Int := X.getD (64 * k + i) 0
def stN (S : Nat → Int) (X : List Int) : Nat → Nat → Int
 | 0 => S
 | k + 1 => round (stN S X k) (blockAt X k)
theorem stN_congr (S : Nat → Int) (X Y : List Int) (k : Nat) (h : ∀ i, i < 64 * k → X[i]? = Y[i]?) : stN S X k = stN S Y k := by
 induction k with
 | zero => rfl
 | succ k ih =>
  have e : blockAt X k = blockAt Y k ∨ True := .inr trivial
  unfold stN
  rw [ih (fun i hi => h i (by omega))]
  refine round_congr _ _ _ (fun i hi => ?_)
  unfold blockAt
  rw [List.getD_eq_getElem?_getD, List.getD_eq_getElem?_getD, h _ (by omega)]
end Go.Sha
namespace Go.Aff
open Go Go.RowKit
theorem part_one {P : Program} (w : World) (e : TypeId) (d : TypeDesc) (hd : P.underlying e = some d) (ha : (match d with | .struct _ | .array _ _ => false | _ => true) = true) (cs : Array Value) (i : Nat) (v : Value) (hv : cs[i]? = some v) : (part e cs i).run P w = .ok v w := by
 have hagg : (isAgg e).run P w = .ok false w := by cases d <;> simp [isAgg, run_underlying hd] at ha ⊢
 simp [part, hagg, hv]
theorem run_eqItems_row {P : Program} (w : World) (dd : Nat) (e : TypeId) (k : IntKind) (hd : P.underlying e = some (.int k)) (xs ys : List Int) : ∀ l : List Nat, (∀ i ∈ l, i < xs.length ∧ i < ys.length) →
  (Op.eqItems (dd + 1) e 1 (xs.map (Value.int k)).toArray (ys.map (Value.int k)).toArray l).run P w = .ok (l.all fun i => xs[i]? == ys[i]?) w := by
 intro l
 induction l with
 | nil => intro _; simp [Op.eqItems]
 | cons i l ih =>
  intro h
  obtain ⟨h1, h2⟩ := h i (by simp)
  have p1 := part_one (P := P) w e _ hd rfl (xs.map (Value.int k)).toArray i (.int k xs[i]) (by simp [h1])
  have p2 := part_one (P := P) w e _ hd rfl (ys.map (Value.int k)).toArray i (.int k ys[i]) (by simp [h2])
  have p3 := run_equalIn_int (P := P) w dd e k k xs[i] ys[i] hd
  simp only [Op.eqItems, Sem.run_bind, Nat.mul_one, p1, p2, p3, Result.andThen_ok, List.all_cons, List.getElem?_eq_getElem h1, List.getElem?_eq_getElem h2]
  by_cases hx : xs[i] = ys[i]
  ·simp [hx, ih (fun j hj => h j (by simp [hj]))]
  ·simp [hx]
theorem run_eql_row {P : Program} (w : World) {t e : TypeId} {n : Nat} {k : IntKind} (hu : P.underlying t = some (.array n e)) (hd : P.underlying e = some (.int k)) (hs0 : (P.info? e).map (·.size) = some 1)
  (xs ys : List Int) (hx : xs.length = n) (hy : ys.length = n) : (binOp .eql t (.agg (xs.map (Value.int k)).toArray) (.agg (ys.map (Value.int k)).toArray)).run P w = .ok (.bool (decide (xs = ys))) w := by
 obtain ⟨i, hi, hsz⟩ := Option.map_eq_some_iff.1 hs0
 have hs : P.cellsOf e = 1 := by simp [Program.cellsOf, hi, hsz]
 rw [run_eql_struct, run_equalIn_array w 9999 _ _ hu hi, hs, run_eqItems_row w 9998 e k hd xs ys _ (by intro i hi; simp at hi; omega)]
 simp only [Result.andThen_ok]
 congr 2
 rw [Bool.eq_iff_iff]
 simp only [List.all_eq_true, List.mem_range, beq_iff_eq, decide_eq_true_iff]
 constructor
 ·intro h
  apply List.ext_getElem?
  intro j
  by_cases hj : j < n
  ·exact h j hj
  ·rw [List.getElem?_eq_none (by omega), List.getElem?_eq_none (by omega)]
 ·rintro rfl i _; rfl
section
variable {P : Program} {T e : TypeId}
theorem elem_of (hu : P.underlying T = some (.slice e)) : P.elem T = e := by
 unfold Program.elem; rw [hu]
theorem size_one (hu : P.underlying T = some (.slice e)) (hz : (P.info? e).map (·.size) = some 1) (w : World) : (sizeOf (P.elem T)).run P w = .ok 1 w := by
 rw [elem_of hu]
 obtain ⟨i, hi, hs⟩ := Option.map_eq_some_iff.1 hz
 simp [sizeOf, typeInfo, hi, hs]
def cutA (A : Option Addr) (c l : Nat) : Option Addr := if c = l then A else A.map (·.add l)
theorem cut_l (hu : P.underlying T = some (.slice e)) (hz : (P.info? e).map (·.size) = some 1) (A : Option Addr) (n c l : Nat) (li : Int) (hli : li = l) (h1 : l ≤ n) (w : World) :
  (Instr.sliceAt T (.slice A n c) (some (.int .i64 li)) none none).run P w = .ok (.slice (cutA A c l) (n - l) (c - l)) w := by
 subst hli
 have hu' : P.underlying T = some (.slice (P.elem T)) := by rw [elem_of hu]; exact hu
 rw [run_sliceAt_slice w T _ _ _ _ hu', run_slice_l w T A n c hu' .i64 l (by omega) (by omega), size_one hu hz]
 simp [sliced, cutA]
end
theorem Rd.cutA {w : World} {A : Option Addr} {n : Nat} {xs : List Value} (h : Rd w A n xs) {l c : Nat} (hl : l ≤ n) (hc : n ≤ c) : Rd w (Aff.cutA A c l) (n - l) (xs.drop l) := h.cut hl hc
theorem Out.cutA {F : Nat → Prop} {A : Option Addr} {n : Nat} (h : Out F A n) {l c : Nat} (hl : l ≤ n) (hc : n ≤ c) : Out F (Aff.cutA A c l) (n - l) := h.cut hl hc
end Go.Aff
namespace Go.Sha
open Go Go.Aff
theorem bytesOf_inj {xs ys : List Int} (hx : IsBytes xs) (hy : IsBytes ys) (h : Lib.bytesOf xs = Lib.bytesOf ys) : xs = ys := by
 unfold Lib.bytesOf at h
 induction xs generalizing ys with
 | nil => cases ys with
  | nil => rfl
  | cons y ys => simp at h
 | cons x xs ih => cases ys with
  | nil => simp at h
  | cons y ys =>
   simp only [List.map_cons, List.cons.injEq] at h
   have h1 := hx x (by simp)
   have h2 := hy y (by simp)
   have e := congrArg UInt8.toNat h.1
   have e1 : x = y := by
    simp at e
    omega
   rw [e1, ih (fun z hz => hx z (by simp [hz])) (fun z hz => hy z (by simp [hz])) h.2]
end Go.Sha
namespace Go.Aff
open Go Go.RowKit
section
variable {P : Program}
theorem convert_zero (w : World) (src e : TypeId) (hs : P.underlying src = some (.slice e)) (he : P.underlying e = some (.int .u8)) (p : Option Addr) (c : Nat) (dst : TypeId) (hd : P.underlying dst = some .string) :
  (convert src dst (.slice p 0 c)).run P w = .ok (.string (strOfNums [])) w := by
 rw [run_convert_bytes_string w src dst e _ 0 c hs he hd]
 cases p <;> simp [Conv.bytesToString, loadCells]
 all_goals rfl
theorem convert_rd (w : World) {src e dst : TypeId} (hs : P.underlying src = some (.slice e)) (he : P.underlying e = some (.int .u8)) (hd : P.underlying dst = some .string) {A : Option Addr} {n : Nat} (c : Nat) {xs : List Int} (h : Rd w A n (vb xs)) :
  (convert src dst (.slice A n c)).run P w = .ok (.string (strOfNums xs)) w := by
 have hl : xs.length = n := by have := h.1; simpa [vb] using this
 rcases Nat.eq_zero_or_pos n with h0 | h0
 ·subst h0
  obtain rfl : xs = [] := List.eq_nil_of_length_eq_zero hl
  exact convert_zero w src e hs he A c dst hd
 ·obtain ⟨g, o, rfl, hc⟩ := h.2 h0
  refine run_convert_bytes_arg w src e hs he g o n c xs hl (fun i hi => ?_) dst hd
  rw [hc i hi]
  simp [vb, hl, hi]
theorem str_inj {xs ys : List Int} (hx : IsBytes xs) (hy : IsBytes ys) (h : strOfNums xs = strOfNums ys) : xs = ys := by
 have h1 : (strOfNums xs).data.toList = (strOfNums ys).data.toList := by rw [h]
 rw [strOfNums_data, strOfNums_data] at h1
 exact Go.Sha.bytesOf_inj hx hy h1
theorem toList_inj {a b : ByteArray} (h : a.toList = b.toList) : a = b := by
 have h1 : a.data.toList = b.data.toList := by
  rw [← ByteArray.toList_eq, ← ByteArray.toList_eq]
  exact h
 exact ByteArray.ext (Array.toList_inj.1 h1)
end
section
variable {w w' : World} {base : Nat} {e : TypeId} {g n c : Nat} {xs : List Value}
theorem own_cap {w : World} {base : Nat} {e : TypeId} {size : Nat} {a : Addr} {n c : Nat} {xs : List Value} (h : w.ownsRow base e size (.slice (some a) n c) n xs) : n ≤ c := by
 rcases h.2 with ⟨h, _⟩ | ⟨g, cap, cur, hv, _, _, hle, _⟩
 ·cases h
 ·injection hv with _ _ h3
  omega
theorem own_types {w : World} {b b' : Nat} {e e' : TypeId} {s s' : Nat} {v v' : Value} {n n' : Nat} {xs xs' : List Value} (h : w.ownsRow b e s v n xs) (h' : w.ownsRow b' e' s' v' n' xs') (hne : e ≠ e') {g : Nat} (hg : v.ownBlock = some g) : v'.ownBlock ≠ some g := by
 intro hg'
 rcases h.2 with ⟨rfl, _⟩ | ⟨g1, c1, cur, rfl, _, hh, _⟩
 ·cases hg
 ·rcases h'.2 with ⟨rfl, _⟩ | ⟨g2, c2, cur2, rfl, _, hh2, _⟩
  ·cases hg'
  ·have e1 : some g1 = some g := hg
   have e2 : some g2 = some g := hg'
   injection e1 with e1
   injection e2 with e2
   subst e1 e2
   rw [hh] at hh2
   injection hh2 with hh2
   injection hh2 with _ ht
   exact hne ht
theorem own_blk {w : World} {b : Nat} {e t : TypeId} {s n p : Nat} {v : Value} {xs cs : List Value} (h : w.ownsRow b e s v n xs) (hb : Blk w p t cs) (hne : e ≠ t) : v.ownBlock ≠ some p := by
 intro hg
 rcases h.2 with ⟨rfl, _⟩ | ⟨g1, c1, cur, rfl, _, hh, _⟩
 ·cases hg
 ·have e1 : some g1 = some p := hg
  injection e1 with e1
  subst e1
  unfold Blk at hb
  rw [hb] at hh
  injection hh with hh
  injection hh with _ ht
  exact hne ht.symm
theorem own_ltN (h : w.ownsRow base e 1 (.slice (some ⟨g, 0, none⟩) n c) n xs) : g < w.heap.size := (h.lt g rfl).2
end
def Mine (w wr : World) (e : TypeId) (A : Option Addr) (m c : Nat) (xs : List Value) : Prop := wr.ownsRow 0 e 1 (.slice A m c) m xs ∧ Keeps (fun _ => False) w wr ∧ ∀ g, (Value.slice A m c).ownBlock = some g → w.heap.size ≤ g
theorem Mine.app {w wr w' : World} {e : TypeId} {A A' : Option Addr} {m c m' c' : Nat} {xs ys : List Value} {o : Obj} (h : Mine w wr e A m c xs) (hown : w'.ownsRow 0 e 1 (.slice A' m' c') m' ys) (hg : (wr.alloc o).grownBy w' (Value.slice A m c).ownBlock)
  (hb : (Value.slice A' m' c').ownBlock = (Value.slice A m c).ownBlock ∨ (Value.slice A' m' c').ownBlock = some (wr.heap.size + 1)) : Mine w w' e A' m' c' ys := by
 refine ⟨hown, (h.2.1.alloc o).grown hg (fun g e => .inr (h.2.2 g e)), fun g hg' => ?_⟩
 rcases hb with h1 | h1
 ·exact h.2.2 g (h1.symm.trans hg')
 ·rw [h1] at hg'
  injection hg' with e1
  have := h.2.1.size
  omega
theorem Mine.app0 {w wr w' : World} {e : TypeId} {A A' : Option Addr} {m c m' c' : Nat} {xs ys : List Value} (h : Mine w wr e A m c xs) (hown : w'.ownsRow 0 e 1 (.slice A' m' c') m' ys) (hg : wr.grownBy w' (Value.slice A m c).ownBlock)
  (hb : (Value.slice A' m' c').ownBlock = (Value.slice A m c).ownBlock ∨ (Value.slice A' m' c').ownBlock = some wr.heap.size) : Mine w w' e A' m' c' ys := by
 refine ⟨hown, h.2.1.grown hg (fun g e => .inr (h.2.2 g e)), fun g hg' => ?_⟩
 rcases hb with h1 | h1
 ·exact h.2.2 g (h1.symm.trans hg')
 ·rw [h1] at hg'
  injection hg' with e1
  have := h.2.1.size
  omega
theorem Mine.made {w w' : World} {e : TypeId} {n : Nat} (ho : w'.ownsRow 0 e 1 (.slice (some ⟨w.heap.size, 0, none⟩) 0 n) 0 []) (hg : w.grownBy w' none) : Mine w w' e (some ⟨w.heap.size, 0, none⟩) 0 n [] :=
 ⟨ho, (Keeps.refl _ w).grown hg (fun g e => by cases e), fun g e => by have e1 : some w.heap.size = some g := e; injection e1 with e1; omega⟩
theorem Mine.keep {w wr w' : World} {e : TypeId} {A : Option Addr} {m c : Nat} {xs : List Value} (h : Mine w wr e A m c xs) (hk : Keeps (fun _ => False) wr w') : Mine w w' e A m c xs := ⟨hk.own h.1 (fun _ _ h => h), h.2.1.trans hk (fun _ _ h => h), h.2.2⟩
theorem Mine.form {w wr : World} {e : TypeId} {A : Option Addr} {m c : Nat} {xs : List Value} (h : Mine w wr e A m c xs) (hm : 0 < m) : ∃ g, A = some ⟨g, 0, none⟩ ∧ w.heap.size ≤ g ∧ m ≤ c := by
 obtain ⟨g, cap, e1, _, _⟩ := h.1.form hm
 injection e1 with e1 _ e3
 subst e1
 exact ⟨g, rfl, h.2.2 g rfl, own_cap h.1⟩
theorem gen_world {P : Program} {ops : Array Oper} {rest : List Oper} {a : Act} {Q : Exit → Act → World → Prop} {w : World} (R : World → Prop) (hR : R w) (h : ∀ W, R W → wpList P ops Q rest a W) : wpList P ops Q rest a w := h w hR
def Split (w w' : World) (A : Option Addr) (n c : Nat) (A' : Option Addr) (c' : Nat) : Prop :=
 (A' = A ∧ c' = c ∧ w.grownBy w' (Value.slice A n c).ownBlock) ∨ (A' = some ⟨w.heap.size, 0, none⟩ ∧ w.grownBy w' none)
theorem Split.grown {w w' : World} {A A' : Option Addr} {n c c' : Nat} (h : Split w w' A n c A' c') : w.grownBy w' (Value.slice A n c).ownBlock := by
 rcases h with ⟨_, _, h⟩ | ⟨_, h⟩
 ·exact h
 ·exact ⟨h.os, h.tape, h.output, h.size, fun k hk _ => h.block k hk (by simp)⟩
theorem Split.block {w w' : World} {A A' : Option Addr} {n m c c' : Nat} (h : Split w w' A n c A' c') : (Value.slice A' m c').ownBlock = (Value.slice A n c).ownBlock ∨ (Value.slice A' m c').ownBlock = some w.heap.size := by
 rcases h with ⟨rfl, _, _⟩ | ⟨rfl, _⟩
 ·exact .inl (by cases A' <;> rfl)
 ·exact .inr rfl
theorem own_short {w : World} {base : Nat} {e : TypeId} {A : Option Addr} {n k c : Nat} {xs : List Value} (h : w.ownsRow base e 1 (.slice A n c) n xs) (hk : k ≤ n) : w.ownsRow base e 1 (.slice A k c) k (xs.take k) := by
 refine ⟨by rw [List.length_take, h.1]; omega, ?_⟩
 rcases h.2 with ⟨hv, hn⟩ | ⟨g, cap, cur, hv, hb, hg, hle, hm, hs, ht⟩
 ·injection hv with h1 _ h3
  subst h1 h3
  obtain rfl : k = 0 := by omega
  exact .inl ⟨rfl, rfl⟩
 ·injection hv with h1 _ h3
  subst h1 h3
  refine .inr ⟨g, c, cur, rfl, hb, hg, by omega, hm, hs, ?_⟩
  rw [← ht, List.take_take]
  congr 1
  omega
section
variable {P : Program} (w : World)
end
end Go.Aff
