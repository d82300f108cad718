/-
  For the walks of laws over the iterator.
-/
import Derived.Test.YtinonjfnhedlpaaDoorFKindW
import Derived.Test.YtinonjfnhedlpaaDoorFLookW
import Derived.Test.YtinonjfnhedlpaaDoorFNextK
set_option linter.unusedSimpArgs false
namespace Go.Proofs.YtinonjfnhedlpaaDoor
open Go Go.RowKit Go.Shelf Go.Aff Go.Fault
attribute [local go_sem] Oper.semAt_some
theorem results_bool {fn : Func} {p : Tmp} (h : fn.results = #[.cell p 4]) (tmps : Array Value) (w : World) (g : Nat) (bv : Bool) (hp : tmps.getD p undef = .pointer (some ⟨g, 0, none⟩)) (hc : w.cell? ⟨g, 0, none⟩ = some (.bool bv)) : (results fn tmps).run Tryd.prog w = .ok (.bool bv) w := by
  have hp' : tmps[p]?.getD undef = .pointer (some ⟨g, 0, none⟩) := by rw [← hp, Array.getD_eq_getD_getElem?]
  have hu := run_underlying (w := w) Tryd.underlying4
  simp only [results, h]
  simp [Sem.run_bind, Result.andThen, hp', go_sem, hc, hu]
/-- Left in the plain way alone. -/
def onlyN (Q : Exit → Act → World → Prop) : Exit → Act → World → Prop
  | .normal, a, w => Q .normal a w
  | _, _, _ => False
theorem wp_onlyN {P : Program} {c : Code} {Q : Exit → Act → World → Prop} {a : Act} {w : World} (h : c.wp P (onlyN Q) a w) : c.wp P Q a w := wp_mono h fun e _ _ h => by
  cases e <;> first | exact h | exact h.elim
theorem seen_at (l : List (Nat × VT)) : ∀ (j f : Nat) (p : Nat × VT), l[j]? = some p → f < 6 → (looksF l)[j * 6 + f]? = (seenV p.1 p.2)[f]? := by
  induction l with
  | nil => intro j f p h; cases h
  | cons x l ih =>
    intro j f p h hf
    have hl : (seenV x.1 x.2).length = 6 := seenV_length _ _
    have e : looksF (x :: l) = seenV x.1 x.2 ++ looksF l := by simp [looksF]
    cases j with
    | zero =>
      simp only [List.getElem?_cons_zero, Option.some.injEq] at h
      subst h
      rw [e, List.getElem?_append_left (by omega), Nat.zero_mul, Nat.zero_add]
    | succ j =>
      rw [e, List.getElem?_append_right (by omega), hl, show (j + 1) * 6 + f - 6 = j * 6 + f by omega]
      exact ih j f p h hf
/-- The row of what was seen, at a place. -/
theorem seen_range {W : World} {A : Option Addr} {n c : Nat} {l : List (Nat × VT)} (h : W.ownsRow 0 36 6 (.slice A n c) n (looksF l)) {j : Nat} {p : Nat × VT} (hj : j < n) (hp : l[j]? = some p) :
    ∃ g, A = some ⟨g, 0, none⟩ ∧ W.rangeAt g (j * 6) (seenV p.1 p.2) := by
  rcases h.2 with ⟨hv, hz⟩ | ⟨g, cap, cur, hv, hb, hg, hle, hms, hs, ht⟩
  · injection hv with h1 h2 h3
    omega
  · injection hv with h1 h2 h3
    refine ⟨g, h1, fun f y hf => ?_⟩
    have hl : f < 6 := by have := (List.getElem?_eq_some_iff.1 hf).1; rw [seenV_length] at this; exact this
    have e := seen_at l j f p hp hl
    rw [cell_of_row W g _ cur _ _ hg, ← hf, ← e, ← ht, List.getElem?_take, if_pos (by omega)]
    simp
theorem next_item {t : VT} {pre : List (XI (t.items 1))} {x : XI (t.items 1)} (h : pre ++ [x] <+: (t.items 1).attach) : (t.items 1)[pre.length]? = some x.1 := by
  obtain ⟨r, hr⟩ := h
  have h1 := congrArg (List.map Subtype.val) hr
  rw [List.attach_map_subtype_val] at h1
  have h2 : (List.map Subtype.val (pre ++ [x] ++ r))[pre.length]? = some x.1 := by simp
  rw [h1] at h2
  exact h2
/-- Between two rounds. -/
structure TyI (w : World) (r p i : Nat) (v : Value) (t : VT) (vt : VT) (pre : List (XI (vt.items 1))) (W : World) : Prop where
  keep : Keeps (fun _ => False) w W
  at_ : At (fun k => ¬ OwnB [i] W k) W vt
  res : Blk W r 4 [.bool false]
  list : Blk W p 28 [v]
  idx : Blk W i 3 [.int .i64 pre.length]
  row : W.ownsRow 0 36 6 v t.count (looksF (t.items 1))
theorem TyI.ck {w : World} {r p i m : Nat} {v : Value} {t vt : VT} {pre : List (XI (vt.items 1))} {W W' : World} (h : TyI w r p i v t vt pre W) (k : CK m W W') (hm : w.heap.size ≤ m) : TyI w r p i v t vt pre W' := by
  refine ⟨k.keeps h.keep hm, (h.at_.ck k).mono fun j hj _ ho => hj (OwnB.ck k (fun B' hB' => ?_) ho), k.blk h.res, k.blk h.list, k.blk h.idx, k.own h.row⟩
  obtain rfl := List.mem_singleton.1 hB'
  exact ⟨_, _, _, h.idx⟩
/-- A round is over. -/
theorem TyI.next {w : World} {r p i B j : Nat} {v : Value} {t vt : VT} {pre : List (XI (vt.items 1))} {x : XI (vt.items 1)} {W W' : World} (h : TyI w r p i v t vt pre W) (hk : Keeps (fun _ => False) W W') (hi : w.heap.size ≤ i) (hri : r ≠ i) (hpi : p ≠ i) (hj : j = pre.length) :
    KeepsFrom B W (W'.setCell ⟨i, 0, none⟩ (.int .i64 ((j : Int) + 1))) ∧ KpO (OwnB [i]) W (W'.setCell ⟨i, 0, none⟩ (.int .i64 ((j : Int) + 1))) ∧ TyI w r p i v t vt (pre ++ [x]) (W'.setCell ⟨i, 0, none⟩ (.int .i64 ((j : Int) + 1))) := by
  obtain ⟨Wf, hWf⟩ : ∃ Wf, Wf = W'.setCell ⟨i, 0, none⟩ (.int .i64 ((j : Int) + 1)) := ⟨_, rfl⟩
  rw [← hWf]
  have ks : Keeps (fun k => k = i) W' Wf := by rw [hWf]; exact (Keeps.refl (fun k => k = i) W').setCell (p := ⟨i, 0, none⟩) (.inl rfl) _
  have kf : Keeps (fun k => k = i) W Wf := (hk.mono (fun _ _ h => h.elim)).trans ks (fun _ _ h => h)
  have bi : Blk Wf i 3 [.int .i64 ((j : Int) + 1)] := by rw [hWf]; exact (hk.blk h.idx (fun h => h)).set_ 0 _
  have hO : ∀ k, OwnB [i] Wf k → k = i := fun k ho => by
    rcases ho with h | ⟨B', hB', a, n', c', hc, rfl⟩
    · exact List.mem_singleton.1 h
    · obtain rfl := List.mem_singleton.1 hB'
      have h1 : Wf.cell? ⟨B', 0, none⟩ = some (.int .i64 ((j : Int) + 1)) := bi.cell 0
      rw [hc] at h1
      injection h1 with h1
      cases h1
  have kp : KpO (OwnB [i]) W Wf := ⟨kf.size, fun k c t fr hc hn => (kf.block k (Array.getElem?_eq_some_iff.1 hc).1 (fun e => hn (.inl (List.mem_singleton.2 e)))).trans hc, fun k ho => .inl (.inl (List.mem_singleton.2 (hO k ho)))⟩
  refine ⟨keepsFrom_of _ kf (fun k hk => by subst hk; exact ⟨_, _, _, h.idx⟩), kp, h.keep.trans kf (fun k hl e => by omega), h.at_.kp kp, kf.blk h.res hri, kf.blk h.list hpi, ?_, kf.own h.row (fun g hg e => own_blk h.row h.idx (by decide) (e ▸ hg))⟩
  rw [List.length_append, List.length_singleton, ← hj]
  exact bi
theorem eql_func (f : Nat) (cap : Array Value) (w : World) : (binOp .eql 70 (.func (.func f) #[] cap) .nilFunc).run Tryd.prog w = .ok (.bool false) w := by kernel_rfl
end Go.Proofs.YtinonjfnhedlpaaDoor
