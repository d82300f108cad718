/-
  Small words that several walks share: a whole store inside a drawn region; parts.
-/
import Derived.Test.YtnlnbgjpbnjjfaaDoorEqW
import Derived.Deep.RegionHeld3
namespace Go.Aff
open Go Go.RowKit
/-- A whole store, inside a region that draws its order. -/
theorem stepH_store {P : Program} {Q : Exit → Act → World → Prop} {K : Act → World → Prop} {ops : Array Oper} {a : Act} {w : World} {o : Oper} {g : Nat} {t : TypeId} {cs : List Value} (hgd : o.guard = none) (ty : TypeId) (x v : Operand) (ho : o.op = .store ty x v)
    (vs : List Value) (hx : a.eval x = .pointer (some ⟨g, 0, none⟩)) (hv : a.eval v = .agg vs.toArray) (hg : Blk w g t cs) (hl : cs.length = vs.length) (hi : (P.info? ty).map (·.size) = some vs.length) (h1 : ∀ v ∈ vs, v.oneCell' = true)
    (h : K (a.put o.dst undef) (w.setRow g vs.toArray)) : if Region.wanted o (yielded ops a.tmps) = true then Oper.wp P o a w K Q else K (a.put o.dst undef) w := by
  have hw : Region.wanted o (yielded ops a.tmps) = true := by simp [Region.wanted, hgd]
  rw [if_pos hw]
  have hst := run_storeVar_at (P := P) ty 0 vs hg (by omega) hi h1
  rw [splice_all _ _ hl] at hst
  unfold Oper.wp execOp
  simp only [ho, hx, hv, Instr.storeAt, Instr.sureAddr, Sem.run_bind, Sem.run_pure, Result.andThen_ok, hst]
  exact h
end Go.Aff
namespace Go.Proofs.YtnlnbgjpbnjjfaaDoor
open Go Go.RowKit Go.Sha Go.Aff

theorem hcells_one (S : Nat → Int) (nb : Int) (A : Option Addr) (n c : Nat) : ∀ u ∈ hcells S nb (.slice A n c), u.oneCell' = true := by
  intro u hu
  rcases List.mem_append.1 hu with h | h
  · obtain ⟨i, _, rfl⟩ := List.mem_map.1 h; rfl
  · simp at h; rcases h with rfl | rfl <;> rfl

/-- A slice of byte slices, all outside F, reads as a list of rows. -/
def RdPartsO (F : Nat → Prop) (w : World) (A : Option Addr) (pss : List (List Int)) : Prop :=
  ∃ vals : List Value, Rd w A pss.length vals ∧ Out F A pss.length ∧ ∀ (i : Nat) (bs : List Int), pss[i]? = some bs →
    ∃ A' c', vals[i]? = some (Value.slice A' bs.length c') ∧ Rd w A' bs.length (vb bs) ∧ Out F A' bs.length ∧ IsBytes bs ∧ bs.length ≤ c' ∧ bs.length ≤ 140737488351232

theorem RdPartsO.keep {F G : Nat → Prop} {w w' : World} {A : Option Addr} {pss : List (List Int)} (h : RdPartsO F w A pss) (hk : Keeps G w w') (hG : ∀ i, G i → F i) : RdPartsO F w' A pss := by
  obtain ⟨vals, h1, h2, h3⟩ := h
  refine ⟨vals, h1.keep hk (h2.mono hG), h2, fun i bs hi => ?_⟩
  obtain ⟨A', c', a, b, c, d⟩ := h3 i bs hi
  exact ⟨A', c', a, b.keep hk (c.mono hG), c, d⟩

/-- Parts that were laid in a row of the call's own. -/
theorem parts_of (F : Nat → Prop) (w : World) (T : TypeId) (vals : List Value) (pss : List (List Int)) (hF : ∀ i, F i → i < w.heap.size) (hl : vals.length = pss.length)
    (h : ∀ (i : Nat) (bs : List Int), pss[i]? = some bs → ∃ A c, vals[i]? = some (Value.slice A bs.length c) ∧ Rd w A bs.length (vb bs) ∧ Out F A bs.length ∧ IsBytes bs ∧ bs.length ≤ c ∧ bs.length ≤ 140737488351232) :
    RdPartsO F (w.alloc (.cells vals.toArray T)) (some ⟨w.heap.size, 0, none⟩) pss := by
  refine ⟨vals, Rd.of_blk (Blk.new w T vals) hl, ?_, fun i bs hi => ?_⟩
  · intro _ ad e hf
    injection e with e
    subst e
    exact Nat.lt_irrefl _ (hF _ hf)
  · obtain ⟨A, c, h1, h2, h3⟩ := h i bs hi
    exact ⟨A, c, h1, h2.alloc _, h3⟩
theorem parts_one (F : Nat → Prop) (w : World) (T : TypeId) (A : Option Addr) (n c : Nat) (bs : List Int) (hF : ∀ i, F i → i < w.heap.size) (hn : bs.length = n) (hr : Rd w A n (vb bs)) (ho : Out F A n) (hb : IsBytes bs) (hc : n ≤ c) (hm : n ≤ 140737488351232) :
    RdPartsO F (w.alloc (.cells #[.slice A n c] T)) (some ⟨w.heap.size, 0, none⟩) [bs] := by
  subst hn
  refine parts_of F w T [.slice A bs.length c] [bs] hF rfl (fun i b hi => ?_)
  cases i with
  | zero => simp at hi; subst hi; exact ⟨A, c, rfl, hr, ho, hb, hc, hm⟩
  | succ i => simp at hi
theorem parts_two (F : Nat → Prop) (w : World) (T : TypeId) (A A' : Option Addr) (n c n' c' : Nat) (bs bs' : List Int) (hF : ∀ i, F i → i < w.heap.size) (hn : bs.length = n) (hr : Rd w A n (vb bs)) (ho : Out F A n) (hb : IsBytes bs) (hc : n ≤ c) (hm : n ≤ 140737488351232)
    (hn' : bs'.length = n') (hr' : Rd w A' n' (vb bs')) (ho' : Out F A' n') (hb' : IsBytes bs') (hc' : n' ≤ c') (hm' : n' ≤ 140737488351232) :
    RdPartsO F (w.alloc (.cells #[.slice A n c, .slice A' n' c'] T)) (some ⟨w.heap.size, 0, none⟩) [bs, bs'] := by
  subst hn hn'
  refine parts_of F w T [.slice A bs.length c, .slice A' bs'.length c'] [bs, bs'] hF rfl (fun i b hi => ?_)
  match i, hi with
  | 0, hi => simp at hi; subst hi; exact ⟨A, c, rfl, hr, ho, hb, hc, hm⟩
  | 1, hi => simp at hi; subst hi; exact ⟨A', c', rfl, hr', ho', hb', hc', hm'⟩
  | i + 2, hi => simp at hi
theorem parts_three (F : Nat → Prop) (w : World) (T : TypeId) (A A' A2 : Option Addr) (n c n' c' n2 c2 : Nat) (bs bs' bs2 : List Int) (hF : ∀ i, F i → i < w.heap.size) (hn : bs.length = n) (hr : Rd w A n (vb bs)) (ho : Out F A n) (hb : IsBytes bs) (hc : n ≤ c) (hm : n ≤ 140737488351232)
    (hn' : bs'.length = n') (hr' : Rd w A' n' (vb bs')) (ho' : Out F A' n') (hb' : IsBytes bs') (hc' : n' ≤ c') (hm' : n' ≤ 140737488351232) (hn2 : bs2.length = n2) (hr2 : Rd w A2 n2 (vb bs2)) (ho2 : Out F A2 n2) (hb2 : IsBytes bs2) (hc2 : n2 ≤ c2) (hm2 : n2 ≤ 140737488351232) :
    RdPartsO F (w.alloc (.cells #[.slice A n c, .slice A' n' c', .slice A2 n2 c2] T)) (some ⟨w.heap.size, 0, none⟩) [bs, bs', bs2] := by
  subst hn hn' hn2
  refine parts_of F w T [.slice A bs.length c, .slice A' bs'.length c', .slice A2 bs2.length c2] [bs, bs', bs2] hF rfl (fun i b hi => ?_)
  match i, hi with
  | 0, hi => simp at hi; subst hi; exact ⟨A, c, rfl, hr, ho, hb, hc, hm⟩
  | 1, hi => simp at hi; subst hi; exact ⟨A', c', rfl, hr', ho', hb', hc', hm'⟩
  | 2, hi => simp at hi; subst hi; exact ⟨A2, c2, rfl, hr2, ho2, hb2, hc2, hm2⟩
  | i + 3, hi => simp at hi
theorem RdPartsO.plain {F : Nat → Prop} {w : World} {A : Option Addr} {pss : List (List Int)} (h : RdPartsO F w A pss) : RdParts w A pss := by
  obtain ⟨vals, h1, _, h3⟩ := h
  refine ⟨vals, h1, fun i bs hi => ?_⟩
  obtain ⟨A', c', a, b, _, d, e, _⟩ := h3 i bs hi
  exact ⟨A', c', a, b, d, e⟩
theorem no_out (A : Option Addr) (n : Nat) : Out (fun _ => False) A n := fun _ _ _ h => h

/-- Sum of parts that lie in a row of the call's own. -/
theorem sums_one (w : World) (hG : Glob w) (A : Option Addr) (n c : Nat) (bs : List Int) (hn : bs.length = n) (hr : Rd w A n (vb bs)) (hb : IsBytes bs) (hc : n ≤ c) (hm : n ≤ 140737488351232) :
    Calls Tryd.prog 20 #[.slice (some ⟨w.heap.size, 0, none⟩) 1 1] (w.alloc (.cells #[.slice A n c] 22)) fun e w' => e = .returned (.agg (vb (sumF first 0 bs)).toArray) ∧ Keeps (fun _ => False) w w' := by
  have hp := (parts_one (fun _ => False) w 22 A n c bs (fun _ h => h.elim) hn hr (no_out _ _) hb hc hm).plain
  have := sums_any _ (hG.keep ((Keeps.refl (fun _ => False) w).alloc (.cells #[.slice A n c] 22)) (fun _ h => h.elim)) _ 1 [bs] hp (by simp) (by simp; omega)
  simp only [List.length_cons, List.length_nil, List.flatten_cons, List.flatten_nil, List.append_nil] at this
  exact this.mono fun e w' ⟨he, hk⟩ => ⟨he, ((Keeps.refl _ w).alloc _).trans hk (fun _ _ h => h)⟩
end Go.Proofs.YtnlnbgjpbnjjfaaDoor
