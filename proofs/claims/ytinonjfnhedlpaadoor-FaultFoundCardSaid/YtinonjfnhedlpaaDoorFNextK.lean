/-
  A range over a function whose rounds come along a list: the body is asked only of what comes next.
-/
import Derived.RangeFuncWrites
import Derived.Test.YtinonjfnhedlpaaDoorFEachW
namespace Go.Fault
open Go Go.RowKit
/-- The loop's record and the list of its deferred calls, side by side from place L on. -/
structure Stands (W : World) (L : Nat) (r : Loop) (st : LoopState) (pe : Option Code) : Prop where
  rec_ : W.heap[L + 1]? = some (.loop { r with state := st, pending := pe })
  defs : W.heap[L]? = some (.deferred (some []))
section
variable {W W' : World} {L B : Nat} {r : Loop} {st st' : LoopState} {pe pe' : Option Code}
theorem Stands.turn (h : Stands W L r st pe) : Stands (W.putObj (L + 1) (.loop { r with state := st', pending := pe' })) L r st' pe' :=
  ⟨World.putObj_heap_same (Array.getElem?_eq_some_iff.1 h.rec_).1, (World.putObj_heap_other (by omega)).trans h.defs⟩
theorem Stands.from (h : Stands W L r st pe) (k : KeepsFrom B W W') (hB : B ≤ L) : Stands W' L r st pe := ⟨k.same _ _ (by omega) h.rec_ rfl, k.same _ _ hB h.defs rfl⟩
theorem Stands.grown {row : Option Nat} (h : Stands W L r st pe) (hg : W.grownBy W' row) (hr : ∀ k, row = some k → ∃ o : Obj, W.heap[k]? = some o ∧ o.isWalk = true) : Stands W' L r st pe :=
  ⟨(grownBy_keeps hg hr h.rec_ rfl).trans h.rec_, (grownBy_keeps hg hr h.defs rfl).trans h.defs⟩
theorem Stands.new (w : World) (r : Loop) : Stands ((w.alloc (.deferred (some []))).alloc (.loop r)) w.heap.size r r.state r.pending := by
  refine ⟨?_, (Below.heap_alloc _ _ _ (by simp)).trans (World.alloc_heap_new w _)⟩
  have h := World.alloc_heap_new (w.alloc (.deferred (some []))) (.loop r)
  rw [World.size_alloc] at h
  exact h
end
theorem wpIn_rangeFunc_next {α : Type} {P : Program} {n : Nat} {g : Operand} {ps : Array Tmp} {assign body : Code} {Q : Exit → Act → World → Prop} {a : Act} {w : World} (h1 : 1 ≤ n) {gf : Nat} {lb : Array Value}
    (hg : a.eval g = .func (.func gf) #[] lb) (eg : ∀ args w, (callFunc gf args).run P w = .ok (.enter gf args) w) {ok : List α → α → Prop} {encs : α → Array Value} {Kp : World → World → Prop} {S Sp : List α → Prop}
    (hseq : SeqNext ok Fence.wide (n - 1) P gf lb encs Kp S Sp w) (hKt : ∀ {A B C : World}, Kp A B → Kp B C → Kp A C)
    (hKb : ∀ (W : World) (l : Nat) (o o' : Obj), w.heap.size ≤ l → W.heap[l]? = some o → o.isCells = false → o.isWalk = false → Kp W (W.putObj l o')) (hps : ∀ x, (encs x).size = ps.size)
    (I : List α → World → Prop) (Ix : Code → List α → World → Prop) (hI : OwnFrom w.heap.size I) (hIx : ∀ c, OwnFrom w.heap.size (Ix c)) (h0 : I [] w) (a₁ : α → Act)
    (hassign : ∀ (l : Nat) (x : α) (W : World) (K : Act → World → Prop), K (a₁ x) W → assign.wpIn (Fence.wide.inRound l) (n - 1 - 1) P (Exit.then K (fun _ _ _ => False)) { tmps := (ps.zip (encs x)).foldl (fun t (p, v) => t.setIfInBounds p v) a.tmps, defers := [] } W)
    (hbody : ∀ (l : Nat) (pre : List α) (x : α) (W : World), I pre W → ok pre x → body.wpIn (Fence.wide.inRound l) (n - 1 - 1) P (ownPostG w.heap.size Kp I Ix (pre ++ [x]) W) (a₁ x) W)
    (hdone : ∀ (D : Nat) (xs : List α) (W : World), w.heap.size ≤ D → S xs → I xs W → W.heap[D]? = some (.deferred (some [])) → Q .normal { a with defers := { target := .collected D, args := #[] } :: a.defers } W)
    (hstop : ∀ (D : Nat) (c : Code) (pre : List α) (W : World), w.heap.size ≤ D → Sp pre → Ix c pre W → W.heap[D]? = some (.deferred (some [])) → c.wpIn Fence.wide n P Q { a with defers := { target := .collected D, args := #[] } :: a.defers } W) :
    (Code.rangeFunc g ps assign body).wpIn Fence.wide n P Q a w := by
  refine wpIn_rangeFunc fun fn _ => ?_
  obtain ⟨r, hr⟩ : ∃ r : Loop, r = { state := .ready, pending := none, fn, tmps := a.tmps, params := ps, assign, body, defers := w.heap.size } := ⟨_, rfl⟩
  obtain ⟨W1, hW1⟩ : ∃ W1, W1 = (w.alloc (.deferred (some []))).alloc (.loop r) := ⟨_, rfl⟩
  have hst : Stands W1 w.heap.size r .ready none := by
    have h := Stands.new w r
    rw [hr] at h
    rw [hW1, hr]
    exact h
  have hsz : W1.heap.size = w.heap.size + 2 := by rw [hW1]; simp
  have hbel : Below w.heap.size w W1 := by rw [hW1]; exact ((Below.refl _ w).alloc (Nat.le_refl _) _).alloc (by simp) _
  refine ⟨w.heap.size + 1, [{ target := .collected w.heap.size, args := #[] }], W1, { target := .fn (.func gf) lb, args := #[.func (.yield (w.heap.size + 1)) #[] #[]] }, W1, gf, #[.func (.yield (w.heap.size + 1)) #[] #[]] ++ lb, W1, ?_, ?_, fun _ _ => trivial, ?_, fun _ => h1, ?_⟩
  · rw [hW1, hr]
    exact run_enterLoop_outer _ _ _ _ _
  · simp only [resolve, hg]
    simp [go_sem]
  · simp [invoke, go_sem, eg]
  · refine (hseq (w.heap.size + 1) (fun pre W => I pre W ∧ Stands W w.heap.size r .ready none) (fun pre W => ∃ c, Ix c pre W ∧ Stands W w.heap.size r .done (some c)) W1 hbel ?_ ?_ ?_ ⟨?_, hst⟩).mono ?_
    · intro s A B row hs hgr hrow
      exact ⟨hI s A B row hs.1 hgr fun k e => ⟨by have := (hrow k e).1; omega, by obtain ⟨_, o, ho, hw⟩ := hrow k e; exact ⟨o, ho, Obj.not_cells_of_walk hw⟩⟩, hs.2.grown hgr fun k e => (hrow k e).2⟩
    · rintro s A B row ⟨c, hc, hs⟩ hgr hrow
      exact ⟨c, hIx c s A B row hc hgr fun k e => ⟨by have := (hrow k e).1; omega, by obtain ⟨_, o, ho, hw⟩ := hrow k e; exact ⟨o, ho, Obj.not_cells_of_walk hw⟩⟩, hs.grown hgr fun k e => (hrow k e).2⟩
    · rintro pre x W ⟨hi, hs⟩ hok
      have hy : (Instr.yield (w.heap.size + 1) (encs x)).run P W = .ok (.round (w.heap.size + 1) fn ((ps.zip (encs x)).foldl (fun t (p, v) => t.setIfInBounds p v) a.tmps) assign body) W := by
        have h := hs.rec_
        rw [hr] at h
        exact run_yield (P := P) (args := encs x) h (hps x)
      refine ⟨_, _, _, _, hy, roundIn_of_wpIn trivial (hassign _ x W _ ⟨_, run_beginRound hs.rec_ rfl, ?_⟩)⟩
      have hs2 : Stands (W.putObj (w.heap.size + 1) (.loop { r with state := .busy, pending := none })) w.heap.size r .busy none := hs.turn
      have hk2 : Kp W (W.putObj (w.heap.size + 1) (.loop { r with state := .busy, pending := none })) := hKb _ _ _ _ (by omega) hs.rec_ rfl rfl
      refine wpIn_mono (hbody _ pre x _ (hI.putObj _ hi (by omega) hs.rec_ rfl) hok) fun e a3 W3 hp => ?_
      cases e with
      | normal =>
        obtain ⟨hk3, hkp, hi3⟩ := hp
        have hs3 := hs2.from hk3 (Nat.le_refl _)
        exact ⟨_, _, run_endRound none hs3.rec_, .inl ⟨rfl, ⟨hI.putObj _ hi3 (by omega) hs3.rec_ rfl, hs3.turn⟩, hKt (hKt hk2 hkp) (hKb _ _ _ _ (by omega) hs3.rec_ rfl rfl)⟩⟩
      | ret =>
        have hs3 := hs2.from hp.1 (Nat.le_refl _)
        exact ⟨_, _, run_endRound (some .ret) hs3.rec_, .inr ⟨rfl, .ret, (hIx _).putObj _ hp.2 (by omega) hs3.rec_ rfl, hs3.turn⟩⟩
      | exit id =>
        have hs3 := hs2.from hp.1 (Nat.le_refl _)
        exact ⟨_, _, run_endRound (some (.exit id)) hs3.rec_, .inr ⟨rfl, .exit id, (hIx _).putObj _ hp.2 (by omega) hs3.rec_ rfl, hs3.turn⟩⟩
      | goto t =>
        have hs3 := hs2.from hp.1 (Nat.le_refl _)
        exact ⟨_, _, run_endRound (some (.goto t)) hs3.rec_, .inr ⟨rfl, .goto t, (hIx _).putObj _ hp.2 (by omega) hs3.rec_ rfl, hs3.turn⟩⟩
      | panic ch => exact hp.elim
      | outgrown => exact hp.elim
    · rw [hW1]
      exact hI.alloc _ (hI.alloc _ h0)
    · rintro e W2 ⟨⟨v, rfl⟩, h | h⟩
      · obtain ⟨xs, hS, hi, hs⟩ := h
        exact ⟨_, _, run_endLoop hs.rec_ (by simp), hdone _ xs _ (Nat.le_refl _) hS (hI.putObj _ hi (by omega) hs.rec_ rfl) ((World.putObj_heap_other (by omega)).trans hs.defs)⟩
      · obtain ⟨pre, hSp, c, hi, hs⟩ := h
        exact ⟨_, _, run_endLoop hs.rec_ (by simp), hstop _ c pre _ (Nat.le_refl _) hSp ((hIx c).putObj _ hi (by omega) hs.rec_ rfl) ((World.putObj_heap_other (by omega)).trans hs.defs)⟩
end Go.Fault
