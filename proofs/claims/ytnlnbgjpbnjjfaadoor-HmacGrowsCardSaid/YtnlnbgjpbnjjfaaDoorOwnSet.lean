/-
  Rows of the call's own: a cell of one read, written, cleared; make; which block it is.
-/
import Derived.Test.YtnlnbgjpbnjjfaaDoorMem
import Derived.OwnWalk
import Derived.Lib.SliceRun
import Derived.Deep.AppendLies
namespace Go.Aff
open Go Go.RowKit
section
variable {w w' : World} {base : Nat} {e : TypeId} {g n c : Nat} {xs : List Value}
/-- Cell i of an owned row. -/
theorem own_cell (h : w.ownsRow base e 1 (.slice (some ⟨g, 0, none⟩) n c) n xs) (i : Nat) (hi : i < n) : w.cell? ⟨g, i, none⟩ = xs[i]? := by
  obtain ⟨g', o, e1, hc⟩ := (Rd.of_own h).2 (by omega)
  injection e1 with e1
  injection e1 with e1 e2
  subst e1 e2
  have := hc i hi
  rwa [Nat.zero_add] at this
theorem own_frozen (h : w.ownsRow base e 1 (.slice (some ⟨g, 0, none⟩) n c) n xs) (i : Nat) : w.frozen? ⟨g, i, none⟩ = false := by
  rcases h.2 with ⟨hv, _⟩ | ⟨g1, cap, cur, hv, _, hh, _⟩
  · cases hv
  · injection hv with hv _ _
    injection hv with hv
    injection hv with hv
    subst hv
    simp [World.frozen?, hh]
/-- .. written. -/
theorem own_set (h : w.ownsRow base e 1 (.slice (some ⟨g, 0, none⟩) n c) n xs) (i : Nat) (_hi : i < n) (u : Value) : (w.setCell ⟨g, i, none⟩ u).ownsRow base e 1 (.slice (some ⟨g, 0, none⟩) n c) n (xs.set i u) := by
  refine ⟨by simpa using h.1, .inr ?_⟩
  rcases h.2 with ⟨hv, _⟩ | ⟨g1, cap, cur, hv, hb, hh, hle, hm, hs, ht⟩
  · cases hv
  · injection hv with hv hn hc
    injection hv with hv
    injection hv with hv
    subst hv hc
    refine ⟨g, c, cur.setIfInBounds i u, rfl, hb, ?_, hle, hm, by simpa using hs, ?_⟩
    · rw [setCell_eq_setRow w g i cur e (0, 0) u hh]
      exact setRow_heap w g _ _ e _ hh
    · rw [Nat.mul_one] at ht ⊢
      rw [Array.toList_setIfInBounds, ← ht]
      exact (List.take_set ..)
/-- A shorter cut of an owned row reads as its first bytes. -/
theorem own_take {A : Option Addr} (h : w.ownsRow base e 1 (.slice A n c) n xs) (k : Nat) (hk : k ≤ n) : Rd w A k (xs.take k) := (Rd.of_own h).take hk
theorem own_keepN {F : Nat → Prop} (hk : Keeps F w w') (h : w.ownsRow base e 1 (.slice (some ⟨g, 0, none⟩) n c) n xs) (hF : ¬ F g) : w'.ownsRow base e 1 (.slice (some ⟨g, 0, none⟩) n c) n xs :=
  hk.own h (fun i hi => by have e1 : some g = some i := hi; injection e1 with e1; rw [← e1]; exact hF)
theorem own_cap {w : World} {base : Nat} {e : TypeId} {size : Nat} {a : Addr} {n c : Nat} {xs : List Value} (h : w.ownsRow base e size (.slice (some a) n c) n xs) : n ≤ c := by
  rcases h.2 with ⟨h, _⟩ | ⟨g, cap, cur, hv, _, _, hle, _⟩
  · cases h
  · injection hv with _ _ h3
    omega
/-- Rows of unlike elements lie apart. -/
theorem own_types {w : World} {b b' : Nat} {e e' : TypeId} {s s' : Nat} {v v' : Value} {n n' : Nat} {xs xs' : List Value} (h : w.ownsRow b e s v n xs) (h' : w.ownsRow b' e' s' v' n' xs') (hne : e ≠ e') {g : Nat} (hg : v.ownBlock = some g) : v'.ownBlock ≠ some g := by
  intro hg'
  rcases h.2 with ⟨rfl, _⟩ | ⟨g1, c1, cur, rfl, _, hh, _⟩
  · cases hg
  · rcases h'.2 with ⟨rfl, _⟩ | ⟨g2, c2, cur2, rfl, _, hh2, _⟩
    · cases hg'
    · have e1 : some g1 = some g := hg
      have e2 : some g2 = some g := hg'
      injection e1 with e1
      injection e2 with e2
      subst e1 e2
      rw [hh] at hh2
      injection hh2 with hh2
      injection hh2 with _ ht
      exact hne ht
/-- An owned row and a block of another kind of cells lie apart. -/
theorem own_blk {w : World} {b : Nat} {e t : TypeId} {s n p : Nat} {v : Value} {xs cs : List Value} (h : w.ownsRow b e s v n xs) (hb : Blk w p t cs) (hne : e ≠ t) : v.ownBlock ≠ some p := by
  intro hg
  rcases h.2 with ⟨rfl, _⟩ | ⟨g1, c1, cur, rfl, _, hh, _⟩
  · cases hg
  · have e1 : some g1 = some p := hg
    injection e1 with e1
    subst e1
    unfold Blk at hb
    rw [hb] at hh
    injection hh with hh
    injection hh with _ ht
    exact hne ht.symm
theorem own_ltN (h : w.ownsRow base e 1 (.slice (some ⟨g, 0, none⟩) n c) n xs) : g < w.heap.size := (h.lt g rfl).2
end

/-- A row of the call's own, newer than world w. -/
def Mine (w wr : World) (e : TypeId) (A : Option Addr) (m c : Nat) (xs : List Value) : Prop := wr.ownsRow 0 e 1 (.slice A m c) m xs ∧ Keeps (fun _ => False) w wr ∧ ∀ g, (Value.slice A m c).ownBlock = some g → w.heap.size ≤ g
theorem Mine.app {w wr w' : World} {e : TypeId} {A A' : Option Addr} {m c m' c' : Nat} {xs ys : List Value} {o : Obj} (h : Mine w wr e A m c xs) (hown : w'.ownsRow 0 e 1 (.slice A' m' c') m' ys) (hg : (wr.alloc o).grownBy w' (Value.slice A m c).ownBlock)
    (hb : (Value.slice A' m' c').ownBlock = (Value.slice A m c).ownBlock ∨ (Value.slice A' m' c').ownBlock = some (wr.heap.size + 1)) : Mine w w' e A' m' c' ys := by
  refine ⟨hown, (h.2.1.alloc o).grown hg (fun g e => .inr (h.2.2 g e)), fun g hg' => ?_⟩
  rcases hb with h1 | h1
  · exact h.2.2 g (h1.symm.trans hg')
  · rw [h1] at hg'
    injection hg' with e1
    have := h.2.1.size
    omega
theorem Mine.app0 {w wr w' : World} {e : TypeId} {A A' : Option Addr} {m c m' c' : Nat} {xs ys : List Value} (h : Mine w wr e A m c xs) (hown : w'.ownsRow 0 e 1 (.slice A' m' c') m' ys) (hg : wr.grownBy w' (Value.slice A m c).ownBlock)
    (hb : (Value.slice A' m' c').ownBlock = (Value.slice A m c).ownBlock ∨ (Value.slice A' m' c').ownBlock = some wr.heap.size) : Mine w w' e A' m' c' ys := by
  refine ⟨hown, h.2.1.grown hg (fun g e => .inr (h.2.2 g e)), fun g hg' => ?_⟩
  rcases hb with h1 | h1
  · exact h.2.2 g (h1.symm.trans hg')
  · rw [h1] at hg'
    injection hg' with e1
    have := h.2.1.size
    omega
theorem Mine.made {w w' : World} {e : TypeId} {n : Nat} (ho : w'.ownsRow 0 e 1 (.slice (some ⟨w.heap.size, 0, none⟩) 0 n) 0 []) (hg : w.grownBy w' none) : Mine w w' e (some ⟨w.heap.size, 0, none⟩) 0 n [] :=
  ⟨ho, (Keeps.refl _ w).grown hg (fun g e => by cases e), fun g e => by have e1 : some w.heap.size = some g := e; injection e1 with e1; omega⟩
theorem Mine.keep {w wr w' : World} {e : TypeId} {A : Option Addr} {m c : Nat} {xs : List Value} (h : Mine w wr e A m c xs) (hk : Keeps (fun _ => False) wr w') : Mine w w' e A m c xs := ⟨hk.own h.1 (fun _ _ h => h), h.2.1.trans hk (fun _ _ h => h), h.2.2⟩
theorem Mine.form {w wr : World} {e : TypeId} {A : Option Addr} {m c : Nat} {xs : List Value} (h : Mine w wr e A m c xs) (hm : 0 < m) : ∃ g, A = some ⟨g, 0, none⟩ ∧ w.heap.size ≤ g ∧ m ≤ c := by
  obtain ⟨g, cap, e1, _, _⟩ := h.1.form hm
  injection e1 with e1 _ e3
  subst e1
  exact ⟨g, rfl, h.2.2 g rfl, own_cap h.1⟩

/-- The world behind a step, by what is known of it alone. -/
theorem gen_world {P : Program} {ops : Array Oper} {rest : List Oper} {a : Act} {Q : Exit → Act → World → Prop} {w : World} (R : World → Prop) (hR : R w) (h : ∀ W, R W → wpList P ops Q rest a W) : wpList P ops Q rest a w := h w hR

/-- 'make([]T, 0, n)' as a row of the call's own. -/
theorem wpList_make0 {P : Program} (w : World) {ops : Array Oper} {rest : List Oper} {o : Oper} {a : Act} {Q : Exit → Act → World → Prop} (hg : o.guard = none) (l c : Operand) (t : TypeId) (hop : o.op = Op.makeSlice t l c)
    (e : TypeId) (z : Value) (bytes : Nat) (ht : P.underlying t = some (.slice e)) (hinfo : (P.info? e).map (fun i => (i.zero, i.size, i.bytes)) = some (some z, 1, bytes))
    (kl kc : IntKind) (C : Int) (n : Nat) (hl : a.eval l = .int kl 0) (hc : a.eval c = .int kc C) (hC : C = (n : Int)) (b2 : bytes * n ≤ 281474976710656) (b3 : n ≤ maxLen)
    (hK : ∀ w', w'.ownsRow 0 e 1 (.slice (some ⟨w.heap.size, 0, none⟩) 0 n) 0 [] → w.grownBy w' none → wpList P ops Q rest (a.put o.dst (.slice (some ⟨w.heap.size, 0, none⟩) 0 n)) w') :
    wpList P ops Q (o :: rest) a w := by
  obtain ⟨i, h2, h3, h4, h5⟩ := info_parts hinfo
  exact wpList_make_own w hg l c t hop 0 e i z 1 ht h2 h3 h4 kl kc C n hl hc hC (by rw [h5]; exact b2) b3 (Nat.zero_le _) hK

/-- 'make([]T, n)': n zeros of the call's own. -/
theorem wpList_makeN {P : Program} (w : World) {ops : Array Oper} {rest : List Oper} {o : Oper} {a : Act} {Q : Exit → Act → World → Prop} (hg : o.guard = none) (l c : Operand) (t : TypeId) (hop : o.op = Op.makeSlice t l c)
    (e : TypeId) (z : Value) (bytes : Nat) (ht : P.underlying t = some (.slice e)) (hinfo : (P.info? e).map (fun i => (i.zero, i.size, i.bytes)) = some (some z, 1, bytes)) (hz : z.cells = #[z])
    (kl kc : IntKind) (L C : Int) (n : Nat) (hl : a.eval l = .int kl L) (hc : a.eval c = .int kc C) (hL : L = (n : Int)) (hC : C = (n : Int)) (b2 : bytes * n ≤ 281474976710656) (b3 : n ≤ maxLen)
    (hK : ∀ w', w'.ownsRow 0 e 1 (.slice (some ⟨w.heap.size, 0, none⟩) n n) n (List.replicate n z) → w.grownBy w' none → wpList P ops Q rest (a.put o.dst (.slice (some ⟨w.heap.size, 0, none⟩) n n)) w') :
    wpList P ops Q (o :: rest) a w := by
  obtain ⟨i, h2, h3, h4, h5⟩ := info_parts hinfo
  refine wpList_make_full w hg l c t hop 0 e i z 1 ht h2 h3 h4 kl kc L C n hl hc hL hC (by rw [h5]; exact b2) b3 (Nat.zero_le _) fun w' h => ?_
  rw [hz, Nat.mul_one, toList_madeCells_one] at h
  exact hK w' h
end Go.Aff
