/-
  A region that draws its order and ends with one operation behind all others (a store into a block that the region loads): a condition S on the world holds behind every operation but that last one. Made after the kit's walk 'held' (Derived.OrdersHeld, Derived.Deep.RegionHeld), with one operation excepted.
-/
import Derived.StillTail
import Derived.Deep.RegionHeld3
namespace Go
section
variable {P : Program} {ops : Array Oper} {Q : Exit → Act → World → Prop} {md : Region.Mode} {S : World → Prop} {z : Nat}

/-- S holds behind every operation that is carried out, number z excepted. -/
def wpAnyZ (P : Program) (md : Region.Mode) (ops : Array Oper) (Q : Exit → Act → World → Prop) (S : World → Prop) (z : Nat) (fuel : Nat) : Array Bool → Act → World → Prop :=
  match fuel with
  | 0 => fun l a w => Region.ready md ops l = [] ∧ Q .normal a w
  | f + 1 => fun l a w => (Region.ready md ops l = [] → Q .normal a w) ∧ ∀ k, k ∈ Region.ready md ops l → wpOp P ops Q k (fun a' w' => (k = z ∨ S w') ∧ wpAnyZ P md ops Q S z f (l.setIfInBounds k true) a' w') a w

theorem wpAny_of_Z (f : Nat) : ∀ (l : Array Bool) (a : Act) (w : World), wpAnyZ P md ops Q S z f l a w → wpAny P md ops Q f l a w := by
  induction f with
  | zero => exact fun _ _ _ h => h
  | succ f ih => exact fun l a w h => ⟨h.1, fun k hk => wpOp_mono (fun a' w' h' => ih _ a' w' h'.2) (h.2 k hk)⟩

/-- Number i is not listed: nothing that waits for it comes up. -/
theorem waits_not_ready {i j : Nat} {l : Array Bool} (hw : Region.waitsFor md ops j i = true) (hi : i ∈ Region.ready md ops l) : j ∉ Region.ready md ops l := by
  obtain ⟨oj, ho, e, he, hb, rfl⟩ := Region.waitsFor_spec hw
  intro hj
  obtain ⟨_, o', ho', hall⟩ := mem_ready.1 hj
  rw [ho] at ho'
  injection ho' with ho'
  subst ho'
  have h1 := hall e he hb
  have h0 := (mem_ready.1 hi).1
  rcases Nat.lt_or_ge e.on l.size with h' | h'
  · simp [h'] at h0 h1; rw [h0] at h1; cases h1
  · simp [Array.getElem?_eq_none h'] at h1

theorem wpAnyZ_first {i : Nat} {oi : Oper} {v : Value} (hi : ops[i]? = some oi) (hsel : ∀ (j : Nat) (o : Oper) cs b, ops[j]? = some o → o.op ≠ .select cs b) (hz : Region.waitsFor md ops z i = true)
    (hQ : ∀ c a w, Q (.panic c) (a.put oi.dst v) w → Q (.panic c) a w) (f : Nat) :
    ∀ (l : Array Bool) (a : Act) (w : World), (∀ j oj, ops[j]? = some oj → j ≠ i → l.getD j true = false → (∀ e ∈ oj.after, Region.binds md e = true → e.on ≠ i) → oi.apart ops oj = true) →
      i ∈ Region.ready md ops l → YieldsIf P ops S oi v a → S w → wpAnyZ P md ops Q S z f (l.setIfInBounds i true) (a.put oi.dst v) w → wpAnyZ P md ops Q S z (f + 1) l a w := by
  induction f with
  | zero =>
    intro l a w _ hr hy hS H
    refine ⟨fun h => (by rw [h] at hr; cases hr), fun j hj => ?_⟩
    by_cases hji : j = i
    · subst hji; exact hy.wpOp hi hS ⟨.inr hS, H⟩
    · have := ready_mono hj hji
      rw [H.1] at this
      cases this
  | succ f ih =>
    intro l a w hfree hr hy hS H
    refine ⟨fun h => (by rw [h] at hr; cases hr), fun j hj => ?_⟩
    by_cases hji : j = i
    · subst hji; exact hy.wpOp hi hS ⟨.inr hS, H⟩
    · have hjz : j ≠ z := fun e => waits_not_ready hz hr (e ▸ hj)
      have h1 := H.2 j (ready_mono hj hji)
      obtain ⟨hjun, oj, hoj, _⟩ := mem_ready.1 hj
      have hnot : ∀ e ∈ oj.after, Region.binds md e = true → e.on ≠ i := fun e he hb heq =>
        waits_not_ready (j := j) (by unfold Region.waitsFor; rw [hoj]; simp only [Array.any_eq_true']; exact ⟨e, he, by rw [hb, heq]; simp⟩) hr hj
      have h2 := wpOp_putIf hoj (hfree j oj hoj hji hjun hnot) (fun cs b => hsel i oi cs b hi) (fun cs b => hsel j oj cs b hoj) hQ hy h1
      refine wpOp_mono (fun a' w' h3 => ?_) h2
      have hSw := h3.2.1.resolve_left hjz
      refine ⟨.inr hSw, ih (l.setIfInBounds j true) a' w' (fun k ok hk hki hun hno => hfree k ok hk hki ?_ hno) (ready_mono hr (Ne.symm hji)) h3.1 hSw ?_⟩
      · by_cases hjk : j = k
        · subst hjk; exact hjun
        · rw [getD_set_ne true hjk] at hun; exact hun
      · rw [Array.setIfInBounds_comm _ _ hji]
        exact h3.2.2

theorem wpAnyZ_take {i : Nat} {oi : Oper} {v : Value} {fuel : Nat} {l : Array Bool} {a : Act} {w : World} (hi : ops[i]? = some oi)
    (hs : Region.noSelect ops = true) (hz : Region.waitsFor md ops z i = true) (hf : Region.free md ops l i = true) (hr : (Region.ready md ops l).contains i = true)
    (hQ : ∀ c a w, Q (.panic c) (a.put oi.dst v) w → Q (.panic c) a w) (hy : YieldsIf P ops S oi v a) (hS : S w)
    (h : wpAnyZ P md ops Q S z fuel (l.setIfInBounds i true) (a.put oi.dst v) w) : wpAnyZ P md ops Q S z (fuel + 1) l a w :=
  wpAnyZ_first hi (Region.noSelect_spec hs) hz hQ fuel l a w (Region.free_spec hi hf) (by simpa using hr) hy hS h

/-- The one that may come up next comes up; behind it S is shown. -/
theorem wpAnyZ_step {i : Nat} {o : Oper} {fuel : Nat} {l : Array Bool} {a : Act} {w : World} (hr : Region.ready md ops l = [i]) (ho : ops[i]? = some o)
    (h : ∀ K : Act → World → Prop, Shut (∀ a w, S w → (S w → wpAnyZ P md ops Q S z fuel (l.setIfInBounds i true) a w) → K a w) → if Region.wanted o (yielded ops a.tmps) = true then Oper.wp P o a w K Q else K (a.put o.dst undef) w) :
    wpAnyZ P md ops Q S z (fuel + 1) l a w := by
  refine ⟨fun h0 => (by rw [hr] at h0; cases h0), fun j hj => ?_⟩
  rw [hr] at hj
  obtain rfl := List.mem_singleton.1 hj
  exact wpOp_step ho (fun K hK => h K (fun a w hS hW => hK a w ⟨.inr hS, hW hS⟩))

/-- The last one: nothing is asked of the world behind it. -/
theorem wpAnyZ_last {o : Oper} {fuel : Nat} {l : Array Bool} {a : Act} {w : World} (hr : Region.ready md ops l = [z]) (hr' : Region.ready md ops (l.setIfInBounds z true) = []) (ho : ops[z]? = some o)
    (h : ∀ K : Act → World → Prop, Shut (∀ a w, Q .normal a w → K a w) → if Region.wanted o (yielded ops a.tmps) = true then Oper.wp P o a w K Q else K (a.put o.dst undef) w) :
    wpAnyZ P md ops Q S z (fuel + 1) l a w := by
  refine ⟨fun h0 => (by rw [hr] at h0; cases h0), fun j hj => ?_⟩
  rw [hr] at hj
  obtain rfl := List.mem_singleton.1 hj
  refine wpOp_step ho (fun K hK => h K (fun a w hQ => hK a w ⟨.inl rfl, ?_⟩))
  cases fuel with
  | zero => exact ⟨hr', hQ⟩
  | succ f => exact ⟨fun _ => hQ, by rw [hr']; intro k hk; cases hk⟩

/-- The beginning. -/
theorem wp_region_last {id : Nat} {a : Act} {w : World} (z : Nat) (hm : P.follows .mixedOrders = true) (hS : S w.drew)
    (h : S w.drew → wpAnyZ P .any ops Q S z ops.size (Array.replicate ops.size false) a w.drew) : (Code.region id ops true).wp P Q a w :=
  wp_region_any hm (wpAny_of_Z _ _ _ _ (h hS))
end
end Go
