/-
  Words for memory: what a call keeps; a slice that reads as a list of bytes.
-/
import Derived.Test.YtnlnbgjpbnjjfaaDoorQRow
import Derived.Laws.OwnMore
import Derived.Maps.AppendAt
import Derived.Laws.AppendOwnNone
namespace Go.Aff
open Go Go.RowKit

/-- w' is w with new blocks, and with writes to blocks of F alone. -/
structure Keeps (F : Nat → Prop) (w w' : World) : Prop where
  os : w'.os = w.os
  tape : w'.tape = w.tape
  output : w'.output = w.output
  size : w.heap.size ≤ w'.heap.size
  block : ∀ i, i < w.heap.size → ¬ F i → w'.heap[i]? = w.heap[i]?

section
variable {F G : Nat → Prop} {w w1 w2 : World}
theorem Keeps.refl (F : Nat → Prop) (w : World) : Keeps F w w := ⟨rfl, rfl, rfl, Nat.le_refl _, fun _ _ _ => rfl⟩
theorem Keeps.trans (h : Keeps F w w1) (k : Keeps G w1 w2) (hG : ∀ i, i < w.heap.size → G i → F i) : Keeps F w w2 :=
  ⟨k.os.trans h.os, k.tape.trans h.tape, k.output.trans h.output, Nat.le_trans h.size k.size,
    fun i hi hn => (k.block i (Nat.lt_of_lt_of_le hi h.size) (fun hg => hn (hG i hi hg))).trans (h.block i hi hn)⟩
theorem Keeps.mono (h : Keeps F w w1) (hG : ∀ i, i < w.heap.size → F i → G i) : Keeps G w w1 := ⟨h.os, h.tape, h.output, h.size, fun i hi hn => h.block i hi (fun hf => hn (hG i hi hf))⟩
theorem Keeps.drewN (h : Keeps F w w1) (n : Nat) : Keeps F w (w1.drewN n) := ⟨h.os, h.tape, h.output, h.size, h.block⟩
theorem Keeps.drew (h : Keeps F w w1) : Keeps F w w1.drew := ⟨h.os, h.tape, h.output, h.size, h.block⟩
theorem Keeps.alloc (h : Keeps F w w1) (o : Obj) : Keeps F w (w1.alloc o) :=
  ⟨h.os, h.tape, h.output, Nat.le_trans h.size (by simp), fun i hi hn => (Below.heap_alloc w1 o i (Nat.lt_of_lt_of_le hi h.size)).trans (h.block i hi hn)⟩
theorem Keeps.setCell (h : Keeps F w w1) {p : Addr} (hp : F p.block ∨ w.heap.size ≤ p.block) (u : Value) : Keeps F w (w1.setCell p u) :=
  ⟨h.os, h.tape, h.output, by simpa using h.size, fun i hi hn => (Below.heap_setCell w1 p u i (by rintro rfl; rcases hp with hp | hp; exact hn hp; omega)).trans (h.block i hi hn)⟩
theorem Keeps.setRow (h : Keeps F w w1) {g : Nat} (hp : F g ∨ w.heap.size ≤ g) (cs : Array Value) : Keeps F w (w1.setRow g cs) :=
  ⟨h.os, h.tape, h.output, by simpa using h.size, fun i hi hn => (setRow_other w1 g i cs (by rintro rfl; rcases hp with hp | hp; exact hn hp; omega)).trans (h.block i hi hn)⟩
theorem Keeps.grown {row : Option Nat} (h : Keeps F w w1) (hg : w1.grownBy w2 row) (hr : ∀ g, row = some g → F g ∨ w.heap.size ≤ g) : Keeps F w w2 :=
  ⟨hg.os.trans h.os, hg.tape.trans h.tape, hg.output.trans h.output, Nat.le_trans h.size hg.size,
    fun i hi hn => (hg.block i (Nat.lt_of_lt_of_le hi h.size) (fun e => by rcases hr i e.symm with hp | hp; exact hn hp; omega)).trans (h.block i hi hn)⟩
theorem Keeps.below {B : Nat} (h : Below B w w1) : Keeps (fun i => B ≤ i) w w1 := ⟨h.os, h.tape, h.output, h.size, fun i _ hn => h.block i (by omega)⟩
theorem Keeps.of_below (h : Below w.heap.size w w1) : Keeps F w w1 := ⟨h.os, h.tape, h.output, h.size, fun i hi _ => h.block i hi⟩
theorem Keeps.to_below (h : Keeps F w w1) (hF : ∀ i, i < w.heap.size → ¬ F i) : Below w.heap.size w w1 := ⟨h.os, h.tape, h.output, h.size, fun i hi => h.block i hi (hF i hi)⟩
theorem Keeps.cell (h : Keeps F w w1) {p : Addr} (hp : p.block < w.heap.size) (hn : ¬ F p.block) : w1.cell? p = w.cell? p := World.cell?_of_block (h.block _ hp hn)
theorem Keeps.blk {g : Nat} {t : TypeId} {cs : List Value} (h : Keeps F w w1) (hb : Blk w g t cs) (hn : ¬ F g) : Blk w1 g t cs := hb.of_block (h.block g hb.lt hn)
theorem Keeps.own {base : Nat} {e : TypeId} {size n : Nat} {v : Value} {xs : List Value} (h : Keeps F w w1) (ho : w.ownsRow base e size v n xs) (hn : ∀ g, v.ownBlock = some g → ¬ F g) : w1.ownsRow base e size v n xs := by
  refine ⟨ho.1, ?_⟩
  rcases ho.2 with hz | ⟨g, cap, cur, rfl, hb, hg, rest⟩
  · exact .inl hz
  · exact .inr ⟨g, cap, cur, rfl, hb, (h.block g (Array.getElem?_eq_some_iff.1 hg).1 (hn g rfl)).trans hg, rest⟩
end

/-- The slice value '.slice A n c' reads as xs. -/
def Rd (w : World) (A : Option Addr) (n : Nat) (xs : List Value) : Prop :=
  xs.length = n ∧ (0 < n → ∃ g o, A = some ⟨g, o, none⟩ ∧ ∀ j, j < n → w.cell? ⟨g, o + j, none⟩ = xs[j]?)
/-- .. and lies outside F. -/
def Out (F : Nat → Prop) (A : Option Addr) (n : Nat) : Prop := 0 < n → ∀ ad, A = some ad → ¬ F ad.block
/-- As bytes. -/
def vb (bs : List Int) : List Value := bs.map (Value.int .u8)
def IsBytes (bs : List Int) : Prop := ∀ x ∈ bs, 0 ≤ x ∧ x < 256

section
variable {F : Nat → Prop} {w w' : World} {A : Option Addr} {n : Nat} {xs : List Value}
theorem Rd.nil (w : World) (A : Option Addr) : Rd w A 0 [] := ⟨rfl, fun h => absurd h (by omega)⟩
theorem Rd.lt (h : Rd w A n xs) (hn : 0 < n) : ∃ g o, A = some ⟨g, o, none⟩ ∧ g < w.heap.size := by
  obtain ⟨g, o, rfl, hc⟩ := h.2 hn
  have h0 := hc 0 hn
  rw [List.getElem?_eq_getElem (by rw [h.1]; exact hn)] at h0
  exact ⟨g, o, rfl, World.block_lt_of_cell? w _ h0⟩
theorem Rd.keep (h : Rd w A n xs) (hk : Keeps F w w') (ho : Out F A n) : Rd w' A n xs := by
  refine ⟨h.1, fun hn => ?_⟩
  obtain ⟨g, o, rfl, hc⟩ := h.2 hn
  obtain ⟨_, _, e, hlt⟩ := h.lt hn
  injection e with e
  injection e with e1 e2
  subst e1
  exact ⟨g, o, rfl, fun j hj => (hk.cell (p := ⟨g, o + j, none⟩) hlt (ho hn ⟨g, o, none⟩ rfl)).trans (hc j hj)⟩
theorem Rd.cut (h : Rd w A n xs) {k cap : Nat} (hk : k ≤ n) (hc : n ≤ cap) : Rd w (if cap = k then A else A.map (·.add k)) (n - k) (xs.drop k) := by
  refine ⟨by rw [List.length_drop, h.1], fun hn => ?_⟩
  obtain ⟨g, o, rfl, hcell⟩ := h.2 (by omega)
  rw [if_neg (by omega)]
  refine ⟨g, o + k, by simp [add_at], fun j hj => ?_⟩
  rw [Nat.add_assoc, hcell _ (by omega), List.getElem?_drop]
theorem Rd.of_own {base : Nat} {e : TypeId} {c : Nat} (h : w.ownsRow base e 1 (.slice A n c) n xs) : Rd w A n xs := by
  refine ⟨by simpa using h.1, fun hn => ?_⟩
  rcases h.2 with ⟨_, h0⟩ | ⟨g, cap, cur, hv, hb, hg, hle, hm, hs, ht⟩
  · omega
  · injection hv with hA _ _
    subst hA
    refine ⟨g, 0, rfl, fun j hj => ?_⟩
    rw [← ht, Nat.zero_add, cell_of_row w g j cur e (0, 0) hg, List.getElem?_take, if_pos (by omega)]
    simp
theorem Rd.of_blk {g : Nat} {t : TypeId} {cs : List Value} (h : Blk w g t cs) (hl : cs.length = n) : Rd w (some ⟨g, 0, none⟩) n cs :=
  ⟨hl, fun _ => ⟨g, 0, rfl, fun j _ => by rw [Nat.zero_add, h.cell]⟩⟩
theorem Out.cut {k cap : Nat} (h : Out F A n) (hk : k ≤ n) (hc : n ≤ cap) : Out F (if cap = k then A else A.map (·.add k)) (n - k) := by
  intro hn ad he
  rw [if_neg (by omega)] at he
  cases A with
  | none => cases he
  | some a =>
    have e : a.add k = ad := by simpa using he
    have hb : ad.block = a.block := by rw [← e]; unfold Addr.add; split <;> rfl
    rw [hb]
    exact h (by omega) a rfl
theorem Out.take {k : Nat} (h : Out F A n) (hk : k ≤ n) : Out F A k := fun hn ad he => h (by omega) ad he
theorem Out.mono {G : Nat → Prop} (h : Out F A n) (hG : ∀ i, G i → F i) : Out G A n := fun hn ad he hg => h hn ad he (hG _ hg)
theorem Rd.take (h : Rd w A n xs) {k : Nat} (hk : k ≤ n) : Rd w A k (xs.take k) := by
  refine ⟨by rw [List.length_take, h.1]; omega, fun hn => ?_⟩
  obtain ⟨g, o, rfl, hcell⟩ := h.2 (by omega)
  refine ⟨g, o, rfl, fun j hj => ?_⟩
  rw [hcell _ (by omega), List.getElem?_take, if_pos hj]
end

/-- Keeping a source of reading over a law's world. -/
theorem Keeps.of_grown {w w' : World} {row : Option Nat} (h : w.grownBy w' row) : Keeps (fun i => row = some i) w w' := ⟨h.os, h.tape, h.output, h.size, fun i hi hn => h.block i hi (fun e => hn e.symm)⟩
theorem Rd.grown {w w' : World} {A : Option Addr} {n : Nat} {xs : List Value} {row : Option Nat} (h : Rd w A n xs) (hg : w.grownBy w' row) (hr : ∀ g, row = some g → w.heap.size ≤ g) : Rd w' A n xs := by
  refine ⟨h.1, fun hn => ?_⟩
  obtain ⟨g, o, rfl, hc⟩ := h.2 hn
  obtain ⟨_, _, e, hlt⟩ := h.lt hn
  injection e with e
  injection e with e1 e2
  subst e1
  exact ⟨g, o, rfl, fun j hj => (World.cell?_of_block (a := ⟨g, o + j, none⟩) (hg.block g hlt (fun e => by have := hr g e.symm; omega))).trans (hc j hj)⟩
theorem Rd.alloc {w : World} {A : Option Addr} {n : Nat} {xs : List Value} (h : Rd w A n xs) (o : Obj) : Rd (w.alloc o) A n xs :=
  h.grown (World.grownBy_alloc w o none) (fun g e => by cases e)
theorem Rd.drewN {w : World} {A : Option Addr} {n : Nat} {xs : List Value} (h : Rd w A n xs) (k : Nat) : Rd (w.drewN k) A n xs := h
theorem own_shape {w : World} {base : Nat} {e : TypeId} {size : Nat} {v : Value} {n : Nat} {xs : List Value} (h : w.ownsRow base e size v n xs) : ∃ A c, v = .slice A n c := by
  rcases h.2 with ⟨rfl, rfl⟩ | ⟨g, cap, cur, rfl, _⟩
  · exact ⟨none, 0, rfl⟩
  · exact ⟨_, _, rfl⟩

/-- append onto a row of the call's own, from a slice that reads as a list (nil, empty or not). -/
theorem wpList_append_rd {P : Program} (w : World) {ops : Array Oper} {rest : List Oper} {o : Oper} {a : Act} {Q : Exit → Act → World → Prop} (hgd : o.guard = none) (s x : Operand) (t : TypeId)
    (ho : o.op = .call { callee := .builtin .append, args := #[s, x], argTypes := #[t, t] })
    (e : TypeId) (z : Value) (bytes : Nat) (ht : P.underlying t = some (.slice e)) (hinfo : (P.info? e).map (fun i => (i.zero, i.size, i.bytes)) = some (some z, 1, bytes)) (hzs : z.cells.size = 1)
    (v : Value) (n : Nat) (xs : List Value) (hs : a.eval s = v) (hown : w.ownsRow 0 e 1 v n xs)
    (A : Option Addr) (m c : Nat) (news : List Value) (hx : a.eval x = .slice A m c) (hr : Rd w A m news) (h1 : ∀ u ∈ news, u.oneCell' = true)
    (h63 : n + m ≤ maxLen) (hbytes : (n + m) * bytes ≤ 140737488355328)
    (h : ∀ A' c' w', w'.ownsRow 0 e 1 (.slice A' (n + m) c') (n + m) (xs ++ news) → w.grownBy w' v.ownBlock → ((Value.slice A' (n + m) c').ownBlock = v.ownBlock ∨ (Value.slice A' (n + m) c').ownBlock = some w.heap.size) → wpList P ops Q rest (a.put o.dst (.slice A' (n + m) c')) w') :
    wpList P ops Q (o :: rest) a w := by
  obtain ⟨i, hi, hzi⟩ := Option.map_eq_some_iff.1 hinfo
  simp only [Prod.mk.injEq] at hzi
  obtain ⟨hz, hsz, hby⟩ := hzi
  rcases A with _ | ad
  · have hm : m = 0 := by
      rcases Nat.eq_zero_or_pos m with h0 | h0
      · exact h0
      · obtain ⟨g, o, e1, _⟩ := hr.2 h0
        cases e1
    subst hm
    have hn : news = [] := List.eq_nil_of_length_eq_zero hr.1
    subst hn
    obtain ⟨A', c', rfl⟩ := own_shape hown
    refine wpList_plain hgd fun K hK => ?_
    have hrun : (Builtin.append_ #[t, t] o.type #[.slice A' n c', .slice none 0 c]).run P w = .ok (.slice A' n c') w := by
      rcases hown.2 with ⟨hv, hn0⟩ | ⟨g, cap, cur, hv, _, _, hnc, _⟩
      · injection hv with e1 e2 e3
        subst e1 e2 e3
        simp [Builtin.append_, run_underlying ht, sizeOf, typeInfo, hi, Builtin.lenOf, Builtin.firstCells]
      · injection hv with e1 e2 e3
        subst e1 e3
        simp [Builtin.append_, run_underlying ht, sizeOf, typeInfo, hi, Builtin.lenOf, Builtin.firstCells, hnc, storeCells]
    unfold Oper.wp execOp
    simp only [ho, resolve, invoke, builtin, Sem.run_bind, Sem.run_pure, Result.andThen_ok, List.map_toArray, List.map_cons, List.map_nil, hs, hx, hrun]
    have := h A' c' w (by simpa using hown) (World.grownBy.refl w _) (.inl rfl)
    exact hK _ _ this
  · have hcells : ∀ j u, news[j]? = some u → w.cell? (ad.add j) = some u := by
      intro j u hu
      have hj : j < news.length := (List.getElem?_eq_some_iff.1 hu).1
      obtain ⟨g, o, e1, hc⟩ := hr.2 (by have := hr.1; omega)
      injection e1 with e1
      subst e1
      rw [add_at, hc j (by have := hr.1; omega), hu]
    refine wpList_append_own_at w hgd s x t ho 0 e i z 1 bytes ht hi hz hsz hby hzs (by omega) v n xs hs hown ad m c news hx (by rw [hr.1]; simp) hcells h1 h63 hbytes (by omega) fun v' w' h2 h3 _ h5 => ?_
    obtain ⟨A', c', rfl⟩ := own_shape h2
    exact h A' c' w' h2 h3 h5
end Go.Aff
