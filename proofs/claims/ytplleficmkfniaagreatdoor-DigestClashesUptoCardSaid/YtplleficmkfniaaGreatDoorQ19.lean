/- Texts. -/
import Derived.RangeFuncCalls
import Derived.OwnWalkIn
import Derived.OrdersIn
import Derived.RangeFuncNested
import Derived.RangeFuncBound
import Derived.RangeFuncLeaves
import Derived.RangeFuncWrites
import Derived.Shelf.RegionOpen
import Derived.TacticsInMore
import Derived.LoopNIn
import Derived.LoopIn
import Derived.Laws.EntriesVeiled
import Derived.Test.YtplleficmkfniaaGreatDoorQ11
set_option linter.unusedSimpArgs false
set_option maxRecDepth 100000
set_option maxHeartbeats 4000000
namespace Go
section
variable {P : Program} {ops : Array Oper} {Q : Exit → Act → World → Prop} {r n : Nat}
end
end Go
namespace Go.Rng
open Go Go.RowKit Go.Aff
def SeqNext {α : Type} (ok : List α → α → Prop) (F : Fence) (n : Nat) (P : Program) (g : Nat) (lb : Array Value) (encs : α → Array Value) (Kp : World → World → Prop) (S Sp : List α → Prop) (w : World) : Prop :=
 ∀ (l : Nat) (J Jx : List α → World → Prop) (W : World), Below w.heap.size w W → AbidesFrom W.heap.size J → AbidesFrom W.heap.size Jx →
  (∀ pre x W1, J pre W1 → ok pre x → YieldAt F (n - 1) P l (encs x) W1 fun e W' =>
   (e = .returned (.bool true) ∧ J (pre ++ [x]) W' ∧ Kp W1 W') ∨ (e = .returned (.bool false) ∧ Jx (pre ++ [x]) W')) →
  J [] W →
  CallsIn F n P g (#[.func (.yield l) #[] #[]] ++ lb) W fun e W' => (∃ v, e = .returned v) ∧ ((∃ xs, S xs ∧ J xs W') ∨ (∃ pre, Sp pre ∧ Jx pre W'))
theorem grown_keep {W W' : World} (h : Keeps (fun _ => False) W W') : W.grownBy W' none := ⟨h.os, h.tape, h.output, h.size, fun k hk _ => h.block k hk (fun h => h)⟩
structure Stands (W : World) (L : Nat) (r : Loop) (st : LoopState) (pe : Option Code) : Prop where
 rec_ : W.heap[L + 1]? = some (.loop { r with state := st, pending := pe })
 defs : W.heap[L]? = some (.deferred (some []))
section
variable {W W' : World} {L B : Nat} {r : Loop} {st st' : LoopState} {pe pe' : Option Code}
theorem Stands.turn (h : Stands W L r st pe) : Stands (W.putObj (L + 1) (.loop { r with state := st', pending := pe' })) L r st' pe' :=
 ⟨World.putObj_heap_same (Array.getElem?_eq_some_iff.1 h.rec_).1, (World.putObj_heap_other (by omega)).trans h.defs⟩
theorem Stands.from (h : Stands W L r st pe) (k : KeepsFrom B W W') (hB : B ≤ L) : Stands W' L r st pe := ⟨k.same _ _ (by omega) h.rec_ rfl, k.same _ _ hB h.defs rfl⟩
theorem Stands.grown {row : Option Nat} (h : Stands W L r st pe) (hg : W.grownBy W' row) (hr : ∀ k, row = some k → ∃ o : Obj, W.heap[k]? = some o ∧ o.isWalk = true) : Stands W' L r st pe :=
 ⟨(grownBy_keeps hg hr h.rec_ rfl).trans h.rec_, (grownBy_keeps hg hr h.defs rfl).trans h.defs⟩
theorem Stands.new (w : World) (r : Loop) : Stands ((w.alloc (.deferred (some []))).alloc (.loop r)) w.heap.size r r.state r.pending := by
 refine ⟨?_, (Below.heap_alloc _ _ _ (by simp)).trans (World.alloc_heap_new w _)⟩
 have h := World.alloc_heap_new (w.alloc (.deferred (some []))) (.loop r)
 rw [World.size_alloc] at h
 exact h
end
structure CK (m : Nat) (W W' : World) : Prop where
 os : W'.os = W.os
 tape : W'.tape = W.tape
 output : W'.output = W.output
 size : W.heap.size ≤ W'.heap.size
 low : ∀ k, k < m → k < W.heap.size → W'.heap[k]? = W.heap[k]?
 cells : ∀ (k : Nat) (c : Array Value) (t : TypeId) (fr : Nat × Nat), W.heap[k]? = some (Obj.cells c t fr) → W'.heap[k]? = some (Obj.cells c t fr)
theorem ownFrom_cells {β : Type} (m : Nat) (I : β → World → Prop) (h : ∀ s W W', I s W → CK m W W' → I s W') : OwnFrom m I := fun s W W' row hs hg hr =>
 h s W W' hs ⟨hg.os, hg.tape, hg.output, hg.size, fun k hk hl => hg.block k hl (fun e => by have := (hr k e.symm).1; omega),
  fun k c t fr hk => (hg.block k (Array.getElem?_eq_some_iff.1 hk).1 (fun e => by
   obtain ⟨_, o, ho, hc⟩ := hr k e.symm
   rw [hk] at ho
   injection ho with ho
   subst ho
   simp [Obj.isCells] at hc)).trans hk⟩
section
variable {m : Nat} {w W W' : World}
theorem CK.putObj {l : Nat} {o : Obj} (h : W.heap[l]? = some o) (ho : o.isCells = false) (hm : m ≤ l) (o' : Obj) : CK m W (W.putObj l o') :=
 ⟨rfl, rfl, rfl, by simp, fun k hk _ => World.putObj_heap_other (by omega), fun k c t fr hk => (World.putObj_heap_other (fun e => by
  subst e
  rw [hk] at h
  injection h with h
  subst h
  simp [Obj.isCells] at ho)).trans hk⟩
theorem CK.keeps {F : Nat → Prop} (h : CK m W W') (hk : Keeps F w W) (hm : w.heap.size ≤ m) : Keeps F w W' :=
 ⟨h.os.trans hk.os, h.tape.trans hk.tape, h.output.trans hk.output, Nat.le_trans hk.size h.size, fun i hi hn => (h.low i (by omega) (Nat.lt_of_lt_of_le hi hk.size)).trans (hk.block i hi hn)⟩
theorem CK.blk {g : Nat} {t : TypeId} {cs : List Value} (h : CK m W W') (hb : Blk W g t cs) : Blk W' g t cs := h.cells _ _ _ _ hb
theorem CK.own {base : Nat} {e : TypeId} {size n : Nat} {v : Value} {xs : List Value} (h : CK m W W') (ho : W.ownsRow base e size v n xs) : W'.ownsRow base e size v n xs := by
 refine ⟨ho.1, ?_⟩
 rcases ho.2 with hz | ⟨g, cap, cur, hv, hb, hg, rest⟩
 ·exact .inl hz
 ·exact .inr ⟨g, cap, cur, hv, hb, h.cells _ _ _ _ hg, rest⟩
theorem keepsFrom_of {F : Nat → Prop} (B : Nat) (hk : Keeps F W W') (hF : ∀ i, F i → ∃ c t fr, W.heap[i]? = some (Obj.cells c t fr)) : KeepsFrom B W W' :=
 ⟨hk.size, fun k o _ ho hc => (hk.block k (Array.getElem?_eq_some_iff.1 ho).1 (fun hf => by
  obtain ⟨c, t, fr, h⟩ := hF k hf
  rw [ho] at h
  injection h with h
  subst h
  simp [Obj.isCells] at hc)).trans ho⟩
end
theorem own_cells {W : World} {base : Nat} {e : TypeId} {size n : Nat} {v : Value} {xs : List Value} (ho : W.ownsRow base e size v n xs) : ∀ g, v.ownBlock = some g → ∃ c t fr, W.heap[g]? = some (Obj.cells c t fr) := fun g hg => by
 rcases ho.2 with ⟨hz, _⟩ | ⟨g', cap, cur, hv, hb, hh, rest⟩
 ·rw [hz] at hg; cases hg
 ·rw [hv] at hg
  injection hg with hg
  subst hg
  exact ⟨_, _, _, hh⟩
end Go.Rng
namespace Go.Proofs.YtplleficmkfniaaGreatDoor
open Go Go.RowKit Go.Aff Go.Json Go.Shelf
end Go.Proofs.YtplleficmkfniaaGreatDoor
namespace Go.Json
theorem sumN_append (a b : List Nat) : sumN (a ++ b) = sumN a + sumN b := by
 induction a with
 | nil => simp [sumN]
 | cons x a ih => simp [sumN, ih]; omega
end Go.Json
namespace Go.Proofs.YtplleficmkfniaaGreatDoor
open Go Go.RowKit Go.Aff Go.Json Go.Shelf
def sums (L : List JV) : Nat × Nat × Nat := (sumN (L.map fun x => x.nodes), sumN (L.map fun x => x.bytes), maxN (L.map fun x => x.deep))
end Go.Proofs.YtplleficmkfniaaGreatDoor
