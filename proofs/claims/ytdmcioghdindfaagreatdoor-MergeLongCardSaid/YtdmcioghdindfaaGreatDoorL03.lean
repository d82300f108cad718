/- Texts. -/
import Derived.Test.YtdmcioghdindfaaGreatDoorL02
import Derived.OrdersHeld
import Derived.Lib.Hide
import Derived.Deep.RegionHeld
import Derived.Great.BuildSlice
set_option linter.unusedSimpArgs false
set_option maxRecDepth 100000
set_option maxHeartbeats 4000000
namespace Go
section
variable {P : Program} {ops : Array Oper} {Q : Exit → Act → World → Prop} {md : Region.Mode} {S : World → Prop} {z : Nat}
def wpAnyT (P : Program) (md : Region.Mode) (ops : Array Oper) (Q : Exit → Act → World → Prop) (S : World → Prop) (z : Nat) (fuel : Nat) : Array Bool → Act → World → Prop :=
 match fuel with
 | 0 => fun l a w => Region.ready md ops l = [] ∧ Q .normal a w
 | f + 1 => fun l a w => (Region.ready md ops l = [] → Q .normal a w) ∧ ∀ k, k ∈ Region.ready md ops l → wpOp P ops Q k (fun a' w' => (z ≤ k ∨ (S w → S w')) ∧ wpAnyT P md ops Q S z f (l.setIfInBounds k true) a' w') a w
theorem wpAny_of_T (f : Nat) : ∀ (l : Array Bool) (a : Act) (w : World), wpAnyT P md ops Q S z f l a w → wpAny P md ops Q f l a w := by
 induction f with
 | zero => exact fun _ _ _ h => h
 | succ f ih => exact fun l a w h => ⟨h.1, fun k hk => wpOp_mono (fun a' w' h' => ih _ a' w' h'.2) (h.2 k hk)⟩
def covers (md : Region.Mode) (ops : Array Oper) (z i : Nat) (U : List Nat) : Bool :=
 (U.all fun q => q == i || U.any fun p => Region.waitsFor md ops q p) && (List.range ops.size).all fun k => decide (k < z) || U.any fun p => Region.waitsFor md ops k p
def undone (l : Array Bool) (U : List Nat) : Bool := U.all fun q => !(l.getD q true)
theorem waits_undone {i j : Nat} {l : Array Bool} (hw : Region.waitsFor md ops j i = true) (hi : l.getD i true = false) : j ∉ Region.ready md ops l := by
 obtain ⟨oj, ho, e, he, hb, rfl⟩ := Region.waitsFor_spec hw
 intro hj
 obtain ⟨_, o', ho', hall⟩ := mem_ready.1 hj
 rw [ho] at ho'
 injection ho' with ho'
 subst ho'
 have h1 := hall e he hb
 rcases Nat.lt_or_ge e.on l.size with h' | h'
 ·simp [h'] at hi h1; rw [hi] at h1; cases h1
 simp [Array.getElem?_eq_none h'] at hi
theorem undone_at {l : Array Bool} {U : List Nat} (h : undone l U = true) {q : Nat} (hq : q ∈ U) : l.getD q true = false := by
 have := List.all_eq_true.1 h q hq
 simpa using this
theorem covers_not {i j : Nat} {U : List Nat} {l : Array Bool} (hc : covers md ops z i U = true) (hu : undone l U = true) (hj : j ∈ Region.ready md ops l) (hji : j ≠ i) : j ∉ U ∧ ¬ z ≤ j := by
 unfold covers at hc
 rw [Bool.and_eq_true] at hc
 constructor
 ·intro hU
  have := List.all_eq_true.1 hc.1 j hU
  simp only [Bool.or_eq_true, beq_iff_eq, List.any_eq_true] at this
  rcases this with h | ⟨p, hp, hw⟩
  ·exact hji h
  exact waits_undone hw (undone_at hu hp) hj
 intro hz
 obtain ⟨_, oj, hoj, _⟩ := mem_ready.1 hj
 have := List.all_eq_true.1 hc.2 j (List.mem_range.2 (Array.getElem?_eq_some_iff.1 hoj).1)
 simp only [Bool.or_eq_true, decide_eq_true_eq, List.any_eq_true] at this
 rcases this with h | ⟨p, hp, hw⟩
 ·omega
 exact waits_undone hw (undone_at hu hp) hj
theorem wpAnyT_first {i : Nat} {U : List Nat} {oi : Oper} {v : Value} (hi : ops[i]? = some oi) (hsel : ∀ (j : Nat) (o : Oper) cs b, ops[j]? = some o → o.op ≠ .select cs b) (hc : covers md ops z i U = true)
  (hQ : ∀ c a w, Q (.panic c) (a.put oi.dst v) w → Q (.panic c) a w) (f : Nat) :
  ∀ (l : Array Bool) (a : Act) (w : World), (∀ j oj, ops[j]? = some oj → j ≠ i → l.getD j true = false → (∀ e ∈ oj.after, Region.binds md e = true → e.on ≠ i) → oi.apart ops oj = true) →
   i ∈ Region.ready md ops l → undone l U = true → YieldsIf P ops S oi v a → S w → wpAnyT P md ops Q S z f (l.setIfInBounds i true) (a.put oi.dst v) w → wpAnyT P md ops Q S z (f + 1) l a w := by
 induction f with
 | zero =>
  intro l a w _ hr hu hy hS H
  refine ⟨fun h => (by rw [h] at hr; cases hr), fun j hj => ?_⟩
  by_cases hji : j = i
  ·subst hji; exact hy.wpOp hi hS ⟨.inr id, H⟩
  have := ready_mono hj hji
  rw [H.1] at this
  cases this
 | succ f ih =>
  intro l a w hfree hr hu hy hS H
  refine ⟨fun h => (by rw [h] at hr; cases hr), fun j hj => ?_⟩
  by_cases hji : j = i
  ·subst hji; exact hy.wpOp hi hS ⟨.inr id, H⟩
  have h1 := H.2 j (ready_mono hj hji)
  obtain ⟨hjun, oj, hoj, _⟩ := mem_ready.1 hj
  obtain ⟨hjU, hjz⟩ := covers_not hc hu hj hji
  have hu' : undone (l.setIfInBounds j true) U = true := List.all_eq_true.2 fun q hq => by
   have hjq : j ≠ q := fun e => hjU (by rw [e]; exact hq)
   rw [getD_set_ne true hjq, undone_at hu hq]
   rfl
  have hnot : ∀ e ∈ oj.after, Region.binds md e = true → e.on ≠ i := fun e he hb heq =>
   waits_not_ready (j := j) (by unfold Region.waitsFor; rw [hoj]; simp only [Array.any_eq_true']; exact ⟨e, he, by rw [hb, heq]; simp⟩) hr hj
  have h2 := wpOp_putIf hoj (hfree j oj hoj hji hjun hnot) (fun cs b => hsel i oi cs b hi) (fun cs b => hsel j oj cs b hoj) hQ hy h1
  refine wpOp_mono (fun a' w' h3 => ?_) h2
  have hSw := h3.2.1.resolve_left hjz hS
  refine ⟨.inr fun _ => hSw, ih (l.setIfInBounds j true) a' w' (fun k ok hk hki hun hno => hfree k ok hk hki ?_ hno) (ready_mono hr (Ne.symm hji)) hu' h3.1 hSw ?_⟩
  ·by_cases hjk : j = k
   ·subst hjk; exact hjun
   rw [getD_set_ne true hjk] at hun; exact hun
  rw [Array.setIfInBounds_comm _ _ hji]
  exact h3.2.2
theorem wpAnyT_pure0 {i : Nat} {oi : Oper} {v : Value} (hi : ops[i]? = some oi) (hsel : ∀ (j : Nat) (o : Oper) cs b, ops[j]? = some o → o.op ≠ .select cs b)
  (hQ : ∀ c a w, Q (.panic c) (a.put oi.dst v) w → Q (.panic c) a w) (f : Nat) :
  ∀ (l : Array Bool) (a : Act) (w : World), (∀ j oj, ops[j]? = some oj → j ≠ i → l.getD j true = false → (∀ e ∈ oj.after, Region.binds md e = true → e.on ≠ i) → oi.apart ops oj = true) →
   i ∈ Region.ready md ops l → YieldsIf P ops (fun _ => True) oi v a → wpAnyT P md ops Q S z f (l.setIfInBounds i true) (a.put oi.dst v) w → wpAnyT P md ops Q S z (f + 1) l a w := by
 induction f with
 | zero =>
  intro l a w _ hr hy H
  refine ⟨fun h => (by rw [h] at hr; cases hr), fun j hj => ?_⟩
  by_cases hji : j = i
  ·subst hji; exact hy.wpOp hi trivial ⟨.inr id, H⟩
  have := ready_mono hj hji
  rw [H.1] at this
  cases this
 | succ f ih =>
  intro l a w hfree hr hy H
  refine ⟨fun h => (by rw [h] at hr; cases hr), fun j hj => ?_⟩
  by_cases hji : j = i
  ·subst hji; exact hy.wpOp hi trivial ⟨.inr id, H⟩
  have h1 := H.2 j (ready_mono hj hji)
  obtain ⟨hjun, oj, hoj, _⟩ := mem_ready.1 hj
  have hnot : ∀ e ∈ oj.after, Region.binds md e = true → e.on ≠ i := fun e he hb heq =>
   waits_not_ready (j := j) (by unfold Region.waitsFor; rw [hoj]; simp only [Array.any_eq_true']; exact ⟨e, he, by rw [hb, heq]; simp⟩) hr hj
  have h2 := wpOp_putIf hoj (hfree j oj hoj hji hjun hnot) (fun cs b => hsel i oi cs b hi) (fun cs b => hsel j oj cs b hoj) hQ hy h1
  refine wpOp_mono (fun a' w' h3 => ?_) h2
  refine ⟨h3.2.1, ih (l.setIfInBounds j true) a' w' (fun k ok hk hki hun hno => hfree k ok hk hki ?_ hno) (ready_mono hr (Ne.symm hji)) h3.1 ?_⟩
  ·by_cases hjk : j = k
   ·subst hjk; exact hjun
   rw [getD_set_ne true hjk] at hun; exact hun
  rw [Array.setIfInBounds_comm _ _ hji]
  exact h3.2.2
theorem wpAnyT_pure {i : Nat} {oi : Oper} {v : Value} {fuel : Nat} {l : Array Bool} {a : Act} {w : World} (hi : ops[i]? = some oi)
  (hs : Region.noSelect ops = true) (hf : Region.free md ops l i = true) (hr : (Region.ready md ops l).contains i = true)
  (hQ : ∀ c a w, Q (.panic c) (a.put oi.dst v) w → Q (.panic c) a w) (hy : YieldsIf P ops (fun _ => True) oi v a)
  (h : wpAnyT P md ops Q S z fuel (l.setIfInBounds i true) (a.put oi.dst v) w) : wpAnyT P md ops Q S z (fuel + 1) l a w :=
 wpAnyT_pure0 hi (Region.noSelect_spec hs) hQ fuel l a w (Region.free_spec hi hf) (by simpa using hr) hy h
theorem wpAnyT_take (U : List Nat) {i : Nat} {oi : Oper} {v : Value} {fuel : Nat} {l : Array Bool} {a : Act} {w : World} (hi : ops[i]? = some oi)
  (hs : Region.noSelect ops = true) (hz : covers md ops z i U = true) (hu : undone l U = true) (hf : Region.free md ops l i = true) (hr : (Region.ready md ops l).contains i = true)
  (hQ : ∀ c a w, Q (.panic c) (a.put oi.dst v) w → Q (.panic c) a w) (hy : YieldsIf P ops S oi v a) (hS : S w)
  (h : wpAnyT P md ops Q S z fuel (l.setIfInBounds i true) (a.put oi.dst v) w) : wpAnyT P md ops Q S z (fuel + 1) l a w :=
 wpAnyT_first hi (Region.noSelect_spec hs) hz hQ fuel l a w (Region.free_spec hi hf) (by simpa using hr) hu hy hS h
theorem wpAnyT_step {i : Nat} {o : Oper} {fuel : Nat} {l : Array Bool} {a : Act} {w : World} (hr : Region.ready md ops l = [i]) (ho : ops[i]? = some o)
  (h : ∀ K : Act → World → Prop, Shut (∀ a w, S w → (S w → wpAnyT P md ops Q S z fuel (l.setIfInBounds i true) a w) → K a w) → if Region.wanted o (yielded ops a.tmps) = true then Oper.wp P o a w K Q else K (a.put o.dst undef) w) :
  wpAnyT P md ops Q S z (fuel + 1) l a w := by
 refine ⟨fun h0 => (by rw [hr] at h0; cases h0), fun j hj => ?_⟩
 rw [hr] at hj
 obtain rfl := List.mem_singleton.1 hj
 exact wpOp_step ho (fun K hK => h K (fun a w hS hW => hK a w ⟨.inr fun _ => hS, hW hS⟩))
theorem wpAnyT_two {i j : Nat} {oi oj : Oper} {fuel : Nat} {l : Array Bool} {a : Act} {w : World} (hr : Region.ready md ops l = [i, j]) (hoi : ops[i]? = some oi) (hoj : ops[j]? = some oj)
  (hi : ∀ K : Act → World → Prop, Shut (∀ a w, S w → (S w → wpAnyT P md ops Q S z fuel (l.setIfInBounds i true) a w) → K a w) → if Region.wanted oi (yielded ops a.tmps) = true then Oper.wp P oi a w K Q else K (a.put oi.dst undef) w)
  (hj : ∀ K : Act → World → Prop, Shut (∀ a w, S w → (S w → wpAnyT P md ops Q S z fuel (l.setIfInBounds j true) a w) → K a w) → if Region.wanted oj (yielded ops a.tmps) = true then Oper.wp P oj a w K Q else K (a.put oj.dst undef) w) :
  wpAnyT P md ops Q S z (fuel + 1) l a w := by
 refine ⟨fun h0 => (by rw [hr] at h0; cases h0), fun k hk => ?_⟩
 rw [hr] at hk
 rcases List.mem_cons.1 hk with rfl | hk
 ·exact wpOp_step hoi (fun K hK => hi K (fun a w hS hW => hK a w ⟨.inr fun _ => hS, hW hS⟩))
 obtain rfl := List.mem_singleton.1 hk
 exact wpOp_step hoj (fun K hK => hj K (fun a w hS hW => hK a w ⟨.inr fun _ => hS, hW hS⟩))
theorem wpAnyT_tail {i : Nat} {o : Oper} {fuel : Nat} {l : Array Bool} {a : Act} {w : World} (hr : Region.ready md ops l = [i]) (hzi : Nat.ble z i = true) (ho : ops[i]? = some o)
  (h : ∀ K : Act → World → Prop, Shut (∀ a w, wpAnyT P md ops Q S z fuel (l.setIfInBounds i true) a w → K a w) → if Region.wanted o (yielded ops a.tmps) = true then Oper.wp P o a w K Q else K (a.put o.dst undef) w) :
  wpAnyT P md ops Q S z (fuel + 1) l a w := by
 refine ⟨fun h0 => (by rw [hr] at h0; cases h0), fun j hj => ?_⟩
 rw [hr] at hj
 obtain rfl := List.mem_singleton.1 hj
 exact wpOp_step ho (fun K hK => h K (fun a w hW => hK a w ⟨.inl (Nat.le_of_ble_eq_true hzi), hW⟩))
theorem wpAnyT_done {fuel : Nat} {l : Array Bool} {a : Act} {w : World} (hr : Region.ready md ops l = []) (hQ : Q .normal a w) : wpAnyT P md ops Q S z fuel l a w := by
 cases fuel with
 | zero => exact ⟨hr, hQ⟩
 | succ f => exact ⟨fun _ => hQ, by rw [hr]; intro k hk; cases hk⟩
theorem wp_region_tail {id : Nat} {a : Act} {w : World} (z : Nat) (hm : P.follows .mixedOrders = true) (hS : S w.drew)
  (h : S w.drew → wpAnyT P .any ops Q S z ops.size (Array.replicate ops.size false) a w.drew) : (Code.region id ops true).wp P Q a w :=
 wp_region_any hm (wpAny_of_T _ _ _ _ (h hS))
end
end Go
namespace Go.Aff
open Go Go.RowKit Go.Sha
theorem gen_KA {K : Act → World → Prop} {a : Act} {w : World} (R : World → Prop) (hR : R w) (h : ∀ W, R W → K a W) : K a w := h w hR
theorem step_append_own {P : Program} {Q : Exit → Act → World → Prop} {K : Act → World → Prop} {ops : Array Oper} {a : Act} {w : World} {o : Oper} (hgd : o.guard = none) (s x : Operand) (t : TypeId)
  (ho : o.op = .call { callee := .builtin .append, args := #[s, x], argTypes := #[t, t] })
  (e : TypeId) (z : Value) (size bytes : Nat) (ht : P.underlying t = some (.slice e)) (hinfo : (P.info? e).map (fun i => (i.zero, i.size, i.bytes)) = some (some z, size, bytes)) (hzs : z.cells.size = size) (hsz : 0 < size)
  (B : Option Addr) (n d : Nat) (xs : List Value) (hs : a.eval s = .slice B n d) (hown : w.ownsRow 0 e size (.slice B n d) n xs)
  (ad : Addr) (m c : Nat) (news : List Value) (hx : a.eval x = .slice (some ad) m c) (hl : news.length = m * size) (hnews : ∀ j u, news[j]? = some u → w.cell? (ad.add j) = some u) (h1 : ∀ u ∈ news, u.oneCell' = true)
  (h63 : n + m ≤ maxLen) (hbytes : (n + m) * bytes ≤ 140737488355328)
  (h : ∀ A' c' w', w'.ownsRow 0 e size (.slice A' (n + m) c') (n + m) (xs ++ news) → w.grownBy w' (Value.slice B n d).ownBlock → ((Value.slice A' (n + m) c').ownBlock = (Value.slice B n d).ownBlock ∨ (Value.slice A' (n + m) c').ownBlock = some w.heap.size) → K (a.put o.dst (.slice A' (n + m) c')) w') :
  if Region.wanted o (yielded ops a.tmps) = true then Oper.wp P o a w K Q else K (a.put o.dst undef) w := by
 have hw : Region.wanted o (yielded ops a.tmps) = true := by simp [Region.wanted, hgd]
 rw [if_pos hw]
 obtain ⟨i, hi, hzi⟩ := Option.map_eq_some_iff.1 hinfo
 simp only [Prod.mk.injEq] at hzi
 obtain ⟨hz, hsz', hby⟩ := hzi
 obtain ⟨v', w', hr, h2, h3, _, h5⟩ := run_append_own_at (P := P) w 0 t o.type e i z size bytes ht hi hz hsz' hby hzs hsz (.slice B n d) n xs hown ad m c news hl hnews h1 h63 hbytes (Nat.zero_le _)
 obtain ⟨A', c', rfl⟩ := own_shape h2
 unfold Oper.wp execOp
 simp only [ho, resolve, invoke, builtin, Sem.run_bind, Sem.run_pure, Result.andThen_ok, List.map_toArray, List.map_cons, List.map_nil, hs, hx, hr]
 exact h A' c' w' h2 h3 h5
end Go.Aff
namespace Go
open Go.Aff
theorem pu : (∀ (a : Act) (d : Tmp) (v : Value), a.put (some d) v = { a with tmps := a.tmps.setIfInBounds d v }) ∧ (∀ (a : Act) (v : Value), a.put none v = a) ∧ (∀ {α : Type} (l : List α) (i : Nat) (x : α), l.toArray.setIfInBounds i x = (l.set i x).toArray) ∧ (∀ {α : Type} (x : α) (l : List α) (y : α), (x :: l).set 0 y = y :: l) ∧ (∀ {α : Type} (x : α) (l : List α) (n : Nat) (y : α), (x :: l).set (n + 1) y = x :: l.set n y) :=
 ⟨fun _ _ _ => rfl, fun _ _ => rfl, fun l i x => List.setIfInBounds_toArray l i x, fun _ _ _ => rfl, fun _ _ _ _ => rfl⟩
section
variable {P : Program} {ops : Array Oper} {Q : Exit → Act → World → Prop} {md : Region.Mode} {S : World → Prop} {z : Nat}
theorem tH {i : Nat} {oi : Oper} {v : Value} {fuel : Nat} {listed : Array Bool} {a : Act} {w : World} (hi : ops[i]? = some oi) (hy : YieldsIf P ops S oi v a) (hS : S w)
  (h : wpAnyH P md ops Q S fuel (listed.setIfInBounds i true) (a.put oi.dst v) w)
  (hs : Region.noSelect ops = true := by kernel_rfl) (hf : Region.free md ops listed i = true := by kernel_rfl) (hr : (Region.ready md ops listed).contains i = true := by kernel_rfl)
  (hQ : ∀ c a w, Q (.panic c) (a.put oi.dst v) w → Q (.panic c) a w := by exact fun _ _ _ h => h) : wpAnyH P md ops Q S (fuel + 1) listed a w := wpAnyH_take hi hs hf hr hQ hy hS h
theorem tP {i : Nat} {oi : Oper} {v : Value} {fuel : Nat} {l : Array Bool} {a : Act} {w : World} (hi : ops[i]? = some oi) (hy : YieldsIf P ops (fun _ => True) oi v a)
  (h : wpAnyT P md ops Q S z fuel (l.setIfInBounds i true) (a.put oi.dst v) w)
  (hs : Region.noSelect ops = true := by kernel_rfl) (hf : Region.free md ops l i = true := by kernel_rfl) (hr : (Region.ready md ops l).contains i = true := by kernel_rfl)
  (hQ : ∀ c a w, Q (.panic c) (a.put oi.dst v) w → Q (.panic c) a w := by exact fun _ _ _ h => h) : wpAnyT P md ops Q S z (fuel + 1) l a w := wpAnyT_pure hi hs hf hr hQ hy h
theorem tT (U : List Nat) {i : Nat} {oi : Oper} {v : Value} {fuel : Nat} {l : Array Bool} {a : Act} {w : World} (hi : ops[i]? = some oi) (hy : YieldsIf P ops S oi v a) (hS : S w)
  (h : wpAnyT P md ops Q S z fuel (l.setIfInBounds i true) (a.put oi.dst v) w)
  (hs : Region.noSelect ops = true := by kernel_rfl) (hz : covers md ops z i U = true := by kernel_rfl) (hu : undone l U = true := by kernel_rfl) (hf : Region.free md ops l i = true := by kernel_rfl) (hr : (Region.ready md ops l).contains i = true := by kernel_rfl)
  (hQ : ∀ c a w, Q (.panic c) (a.put oi.dst v) w → Q (.panic c) a w := by exact fun _ _ _ h => h) : wpAnyT P md ops Q S z (fuel + 1) l a w := wpAnyT_take U hi hs hz hu hf hr hQ hy hS h
theorem tI (i d : Nat) {oi : Oper} {v : Value} {fuel : Nat} {listed : Array Bool} {a : Act} {w : World} (hS : S w)
  (h : wpAnyH P md ops Q S fuel (listed.setIfInBounds i true) (a.put (some d) v) w)
  (hi : ops[i]? = some oi := by rfl) (hd : oi.dst = some d := by rfl) (hy : YieldsIf P ops S oi v a := by exact Or.inl ⟨by rfl, by intro w' hSw; go_simp; first | done | rfl⟩)
  (hs : Region.noSelect ops = true := by kernel_rfl) (hf : Region.free md ops listed i = true := by kernel_rfl) (hr : (Region.ready md ops listed).contains i = true := by kernel_rfl)
  (hQ : ∀ c a w, Q (.panic c) (a.put oi.dst v) w → Q (.panic c) a w := by exact fun _ _ _ h => h) : wpAnyH P md ops Q S (fuel + 1) listed a w := wpAnyH_take hi hs hf hr hQ hy hS (by rw [hd]; exact h)
theorem tJ (i d : Nat) {oi : Oper} {v : Value} {fuel : Nat} {l : Array Bool} {a : Act} {w : World}
  (h : wpAnyT P md ops Q S z fuel (l.setIfInBounds i true) (a.put (some d) v) w)
  (hi : ops[i]? = some oi := by rfl) (hd : oi.dst = some d := by rfl) (hy : YieldsIf P ops (fun _ => True) oi v a := by exact Or.inl ⟨by rfl, by intro w' hSw; go_simp; first | done | rfl⟩)
  (hs : Region.noSelect ops = true := by kernel_rfl) (hf : Region.free md ops l i = true := by kernel_rfl) (hr : (Region.ready md ops l).contains i = true := by kernel_rfl)
  (hQ : ∀ c a w, Q (.panic c) (a.put oi.dst v) w → Q (.panic c) a w := by exact fun _ _ _ h => h) : wpAnyT P md ops Q S z (fuel + 1) l a w := wpAnyT_pure hi hs hf hr hQ hy (by rw [hd]; exact h)
theorem rH (i : Nat) (d : Option Tmp) {o : Oper} {fuel : Nat} {listed : Array Bool} {a : Act} {w : World}
  (h : ∀ K' : Act → World → Prop, Shut (∀ a w, S w → (S w → wpAnyH P md ops Q S fuel (listed.setIfInBounds i true) a w) → K' a w) → if Region.wanted o (yielded ops a.tmps) = true then Oper.wp P o a w K' Q else K' (a.put d undef) w)
  (ho : ops[i]? = some o := by rfl) (hd : o.dst = d := by rfl) (hr : Region.ready md ops listed = [i] := by kernel_rfl) : wpAnyH P md ops Q S (fuel + 1) listed a w :=
 wpAnyH_ready hr (by simp) (AllReadyH.cons ho (by rw [hd]; exact h) AllReadyH.nil)
end
namespace Aff
theorem H_ {p : Prop} (h : p) : RowKit.Hid p := Lib.hid h
end Aff
end Go
namespace Go.Aff
open Go Go.RowKit
def RdS (s : Nat) (w : World) (A : Option Addr) (k : Nat) (xs : List Value) : Prop := xs.length = k * s ∧ (0 < k → ∃ g o, A = some ⟨g, o, none⟩ ∧ ∀ j, j < k * s → w.cell? ⟨g, o + j, none⟩ = xs[j]?)
def MineS (s : Nat) (w wr : World) (e : TypeId) (A : Option Addr) (m c : Nat) (xs : List Value) : Prop :=
 wr.ownsRow 0 e s (.slice A m c) m xs ∧ Keeps (fun _ => False) w wr ∧ ∀ g, (Value.slice A m c).ownBlock = some g → w.heap.size ≤ g
theorem MineS.nil (s : Nat) (w : World) (e : TypeId) : MineS s w w e none 0 0 [] := ⟨World.ownsRow_nil w 0 e s, Keeps.refl _ w, fun g h => by simp [Value.ownBlock] at h⟩
theorem MineS.keep {s : Nat} {w wr w' : World} {e : TypeId} {A : Option Addr} {m c : Nat} {xs : List Value} (h : MineS s w wr e A m c xs) (hk : Keeps (fun _ => False) wr w') : MineS s w w' e A m c xs :=
 ⟨hk.own h.1 (fun _ _ h => h), h.2.1.trans hk (fun _ _ h => h), h.2.2⟩
theorem MineS.alloc {s : Nat} {w wr : World} {e : TypeId} {A : Option Addr} {m c : Nat} {xs : List Value} (h : MineS s w wr e A m c xs) (o : Obj) : MineS s w (wr.alloc o) e A m c xs := h.keep ((Keeps.refl _ wr).alloc o)
theorem MineS.len {s : Nat} {w wr : World} {e : TypeId} {A : Option Addr} {m c : Nat} {xs : List Value} (h : MineS s w wr e A m c xs) : xs.length = m * s := h.1.1
structure Two (w wr : World) (e : TypeId) (s : Nat) (A : Option Addr) (n c : Nat) (xs : List Value) (f : TypeId) (t : Nat) (B : Option Addr) (m d : Nat) (ys : List Value) : Prop where
 a : MineS s w wr e A n c xs
 b : MineS t w wr f B m d ys
 ap : ∀ g, (Value.slice A n c).ownBlock = some g → (Value.slice B m d).ownBlock ≠ some g
section
variable {w0 w wr w' : World} {e f : TypeId} {s t : Nat} {A B : Option Addr} {n c m d : Nat} {xs ys : List Value}
theorem Two.nil (w : World) (e f : TypeId) (s t : Nat) : Two w w e s none 0 0 [] f t none 0 0 [] := ⟨MineS.nil s w e, MineS.nil t w f, fun g h => by simp [Value.ownBlock] at h⟩
theorem Two.swap (h : Two w wr e s A n c xs f t B m d ys) : Two w wr f t B m d ys e s A n c xs := ⟨h.b, h.a, fun g h1 h2 => h.ap g h2 h1⟩
theorem Two.keep (h : Two w wr e s A n c xs f t B m d ys) (hk : Keeps (fun _ => False) wr w') : Two w w' e s A n c xs f t B m d ys := ⟨h.a.keep hk, h.b.keep hk, h.ap⟩
theorem Two.alloc (h : Two w wr e s A n c xs f t B m d ys) (o : Obj) : Two w (wr.alloc o) e s A n c xs f t B m d ys := h.keep ((Keeps.refl _ wr).alloc o)
theorem MineS.own_lt (h : MineS s w wr e A n c xs) {g : Nat} (hg : (Value.slice A n c).ownBlock = some g) : g < wr.heap.size := (h.1.lt g hg).2
theorem MineS.grown {A' : Option Addr} {k c' : Nat} {zs : List Value} (h : MineS s w wr e A n c xs) (ho : w'.ownsRow 0 e s (.slice A' k c') k zs) (hg : wr.grownBy w' (Value.slice A n c).ownBlock)
  (hb : (Value.slice A' k c').ownBlock = (Value.slice A n c).ownBlock ∨ (Value.slice A' k c').ownBlock = some wr.heap.size) : MineS s w w' e A' k c' zs := by
 refine ⟨ho, h.2.1.grown hg (fun g e => .inr (h.2.2 g e)), fun g hg' => ?_⟩
 rcases hb with h1 | h1
 ·exact h.2.2 g (h1.symm.trans hg')
 rw [h1] at hg'
 injection hg' with e1
 have := h.2.1.size
 omega
theorem Two.grown {A' : Option Addr} {k c' : Nat} {zs : List Value} (h : Two w wr e s A n c xs f t B m d ys) (ho : w'.ownsRow 0 e s (.slice A' k c') k zs) (hg : wr.grownBy w' (Value.slice A n c).ownBlock)
  (hb : (Value.slice A' k c').ownBlock = (Value.slice A n c).ownBlock ∨ (Value.slice A' k c').ownBlock = some wr.heap.size) : Two w w' e s A' k c' zs f t B m d ys := by
 refine ⟨h.a.grown ho hg hb, ⟨(Keeps.of_grown hg).own h.b.1 (fun i hi he => h.ap i he hi), h.a.2.1.grown hg (fun g e => .inr (h.a.2.2 g e)), h.b.2.2⟩, fun g hg' => ?_⟩
 rcases hb with h1 | h1
 ·exact h.ap g (h1.symm.trans hg')
 rw [h1] at hg'
 injection hg' with e1
 intro hB
 have := h.b.own_lt hB
 omega
theorem RdS.keep {F : Nat → Prop} (h : RdS s w A n xs) (hk : Keeps F w w') (hF : 0 < n → ∀ a, A = some a → ¬ F a.block) : RdS s w' A n xs := by
 refine ⟨h.1, fun hn => ?_⟩
 obtain ⟨g, o, e1, hc⟩ := h.2 hn
 refine ⟨g, o, e1, fun j hj => ?_⟩
 have h1 := hc j hj
 rw [List.getElem?_eq_getElem (by rw [h.1]; exact hj)] at h1 ⊢
 exact (hk.cell (World.block_lt_of_cell? w _ h1) (fun hb => hF hn ⟨g, o, none⟩ e1 hb)).trans h1
theorem RdS.stay (h : RdS s w A n xs) (hk : Keeps (fun _ => False) w w') : RdS s w' A n xs := h.keep hk (fun _ _ _ h => h)
theorem RdS.blk {p : Nat} {ty : TypeId} {cs : List Value} (h : Blk w p ty cs) (hl : cs.length = n * s) : RdS s w (some ⟨p, 0, none⟩) n cs := ⟨hl, fun _ => ⟨p, 0, rfl, fun j hj => by rw [Nat.zero_add]; exact h.cell j⟩⟩
end
section
variable {P : Program}
theorem wpList_append_S (w : World) {ops : Array Oper} {rest : List Oper} {o : Oper} {a : Act} {Q : Exit → Act → World → Prop} (hgd : o.guard = none) (s x : Operand) (t : TypeId)
  (ho : o.op = .call { callee := .builtin .append, args := #[s, x], argTypes := #[t, t] })
  (e : TypeId) (z : Value) (sz bytes : Nat) (ht : P.underlying t = some (.slice e)) (hinfo : (P.info? e).map (fun i => (i.zero, i.size, i.bytes)) = some (some z, sz, bytes)) (hzs : z.cells.size = sz) (hpos : 0 < sz)
  (A0 : Option Addr) (n c0 : Nat) (xs : List Value) (hs : a.eval s = .slice A0 n c0) (hown : w.ownsRow 0 e sz (.slice A0 n c0) n xs)
  (A : Option Addr) (m c : Nat) (news : List Value) (hx : a.eval x = .slice A m c) (hr : RdS sz w A m news) (h1 : ∀ u ∈ news, u.oneCell' = true)
  (h63 : n + m ≤ maxLen) (hbytes : (n + m) * bytes ≤ 140737488355328)
  (h : ∀ A' c' w', w'.ownsRow 0 e sz (.slice A' (n + m) c') (n + m) (xs ++ news) → w.grownBy w' (Value.slice A0 n c0).ownBlock → ((Value.slice A' (n + m) c').ownBlock = (Value.slice A0 n c0).ownBlock ∨ (Value.slice A' (n + m) c').ownBlock = some w.heap.size) → wpList P ops Q rest (a.put o.dst (.slice A' (n + m) c')) w') :
  wpList P ops Q (o :: rest) a w := by
 obtain ⟨i, hi, hzi⟩ := Option.map_eq_some_iff.1 hinfo
 simp only [Prod.mk.injEq] at hzi
 obtain ⟨hz, hsz, hby⟩ := hzi
 rcases A with _ | ad
 ·have hm : m = 0 := by
   rcases Nat.eq_zero_or_pos m with h0 | h0
   ·exact h0
   obtain ⟨g, o, e1, _⟩ := hr.2 h0
   cases e1
  subst hm
  have hn : news = [] := List.eq_nil_of_length_eq_zero (by rw [hr.1]; simp)
  subst hn
  refine wpList_plain hgd fun K hK => ?_
  have hrun : (Builtin.append_ #[t, t] o.type #[.slice A0 n c0, .slice none 0 c]).run P w = .ok (.slice A0 n c0) w := by
   rcases hown.2 with ⟨hv, hn0⟩ | ⟨g, cap, cur, hv, _, _, hnc, _⟩
   ·injection hv with e1 e2 e3
    subst e1 e2 e3
    simp [Builtin.append_, run_underlying ht, sizeOf, typeInfo, hi, Builtin.lenOf, Builtin.firstCells]
   injection hv with e1 e2 e3
   subst e1 e3
   simp [Builtin.append_, run_underlying ht, sizeOf, typeInfo, hi, Builtin.lenOf, Builtin.firstCells, hnc, storeCells]
  unfold Oper.wp execOp
  simp only [ho, resolve, invoke, builtin, Sem.run_bind, Sem.run_pure, Result.andThen_ok, List.map_toArray, List.map_cons, List.map_nil, hs, hx, hrun]
  have := h A0 c0 w (by simpa using hown) (World.grownBy.refl w _) (.inl rfl)
  exact hK _ _ this
 ·have hcells : ∀ j u, news[j]? = some u → w.cell? (ad.add j) = some u := by
   intro j u hu
   have hj : j < news.length := (List.getElem?_eq_some_iff.1 hu).1
   have hm0 : 0 < m := by
    rcases Nat.eq_zero_or_pos m with h0 | h0
    ·subst h0; rw [hr.1] at hj; simp at hj
    exact h0
   obtain ⟨g, o, e1, hc⟩ := hr.2 hm0
   injection e1 with e1
   subst e1
   have hj2 : j < m * sz := by rw [← hr.1]; exact hj
   have := hc j hj2
   rw [hu] at this
   rw [add_at]
   exact this
  refine wpList_append_own_at w hgd s x t ho 0 e i z sz bytes ht hi hz hsz hby hzs hpos (.slice A0 n c0) n xs hs hown ad m c news hx hr.1 hcells h1 h63 hbytes (by omega) fun v' w' h2 h3 _ h5 => ?_
  obtain ⟨A', c', rfl⟩ := own_shape h2
  exact h A' c' w' h2 h3 h5
theorem wpList_append_two (w0 w : World) {ops : Array Oper} {rest : List Oper} {o : Oper} {a : Act} {Q : Exit → Act → World → Prop} (hgd : o.guard = none) (s x : Operand) (t : TypeId)
  (ho : o.op = .call { callee := .builtin .append, args := #[s, x], argTypes := #[t, t] })
  (e : TypeId) (z : Value) (sz bytes : Nat) (ht : P.underlying t = some (.slice e)) (hinfo : (P.info? e).map (fun i => (i.zero, i.size, i.bytes)) = some (some z, sz, bytes)) (hzs : z.cells.size = sz) (hpos : 0 < sz)
  {A0 : Option Addr} {n c0 : Nat} {xs : List Value} {f : TypeId} {sz2 : Nat} {B : Option Addr} {m2 d : Nat} {ys : List Value} (hs : a.eval s = .slice A0 n c0) (hT : Two w0 w e sz A0 n c0 xs f sz2 B m2 d ys)
  (A : Option Addr) (m c : Nat) (news : List Value) (hx : a.eval x = .slice A m c) (hr : RdS sz w A m news) (h1 : ∀ u ∈ news, u.oneCell' = true)
  (h63 : n + m ≤ maxLen) (hbytes : (n + m) * bytes ≤ 140737488355328)
  (h : ∀ A' c' w', Two w0 w' e sz A' (n + m) c' (xs ++ news) f sz2 B m2 d ys → wpList P ops Q rest (a.put o.dst (.slice A' (n + m) c')) w') :
  wpList P ops Q (o :: rest) a w :=
 wpList_append_S w hgd s x t ho e z sz bytes ht hinfo hzs hpos A0 n c0 xs hs hT.a.1 A m c news hx hr h1 h63 hbytes fun A' c' w' k1 k2 k3 => h A' c' w' (hT.grown k1 k2 k3)
theorem wpList_append_mine (w0 w : World) {ops : Array Oper} {rest : List Oper} {o : Oper} {a : Act} {Q : Exit → Act → World → Prop} (hgd : o.guard = none) (s x : Operand) (t : TypeId)
  (ho : o.op = .call { callee := .builtin .append, args := #[s, x], argTypes := #[t, t] })
  (e : TypeId) (z : Value) (sz bytes : Nat) (ht : P.underlying t = some (.slice e)) (hinfo : (P.info? e).map (fun i => (i.zero, i.size, i.bytes)) = some (some z, sz, bytes)) (hzs : z.cells.size = sz) (hpos : 0 < sz)
  {A0 : Option Addr} {n c0 : Nat} {xs : List Value} (hs : a.eval s = .slice A0 n c0) (hT : MineS sz w0 w e A0 n c0 xs)
  (A : Option Addr) (m c : Nat) (news : List Value) (hx : a.eval x = .slice A m c) (hr : RdS sz w A m news) (h1 : ∀ u ∈ news, u.oneCell' = true)
  (h63 : n + m ≤ maxLen) (hbytes : (n + m) * bytes ≤ 140737488355328)
  (h : ∀ A' c' w', MineS sz w0 w' e A' (n + m) c' (xs ++ news) → wpList P ops Q rest (a.put o.dst (.slice A' (n + m) c')) w') :
  wpList P ops Q (o :: rest) a w :=
 wpList_append_S w hgd s x t ho e z sz bytes ht hinfo hzs hpos A0 n c0 xs hs hT.1 A m c news hx hr h1 h63 hbytes fun A' c' w' k1 k2 k3 => h A' c' w' (hT.grown k1 k2 k3)
end
def cutS (s : Nat) (A : Option Addr) (c l : Nat) : Option Addr := if c = l then A else A.map (·.add (l * s))
section
variable {P : Program} {T e : TypeId} {s : Nat}
theorem size_S (hu : P.underlying T = some (.slice e)) (hz : (P.info? e).map (·.size) = some s) (w : World) : (sizeOf (P.elem T)).run P w = .ok s w := by
 rw [elem_of hu]
 obtain ⟨i, hi, hs⟩ := Option.map_eq_some_iff.1 hz
 simp [sizeOf, typeInfo, hi, hs]
theorem cutS_l (hu : P.underlying T = some (.slice e)) (hz : (P.info? e).map (·.size) = some s) (A : Option Addr) (n c l : Nat) (li : Int) (hli : li = l) (h1 : l ≤ n) (w : World) :
  (Instr.sliceAt T (.slice A n c) (some (.int .i64 li)) none none).run P w = .ok (.slice (cutS s A c l) (n - l) (c - l)) w := by
 subst hli
 have hu' : P.underlying T = some (.slice (P.elem T)) := by rw [elem_of hu]; exact hu
 rw [run_sliceAt_slice w T _ _ _ _ hu', run_slice_l w T A n c hu' .i64 l (by omega) (by omega), size_S hu hz]
 simp [sliced, cutS]
theorem cutS_h (hu : P.underlying T = some (.slice e)) (hz : (P.info? e).map (·.size) = some s) (A : Option Addr) (n c h : Nat) (hi : Int) (hhi : hi = h) (h2 : h ≤ c) (w : World) :
  (Instr.sliceAt T (.slice A n c) none (some (.int .i64 hi)) none).run P w = .ok (.slice (cutS s A c 0) h c) w := by
 subst hhi
 have hu' : P.underlying T = some (.slice (P.elem T)) := by rw [elem_of hu]; exact hu
 rw [run_sliceAt_slice w T _ _ _ _ hu', run_slice_h w T A n c hu' .i64 h (by omega) (by omega), size_S hu hz]
 simp [sliced, cutS]
end
section
variable {w w0 : World} {s n c : Nat} {A : Option Addr} {xs : List Value}
theorem RdS.cut (h : RdS s w A n xs) {l : Nat} (hl : l ≤ n) (hc : n ≤ c) : RdS s w (cutS s A c l) (n - l) (xs.drop (l * s)) := by
 refine ⟨by rw [List.length_drop, h.1, Nat.sub_mul], fun hn => ?_⟩
 obtain ⟨g, o, rfl, hcell⟩ := h.2 (by omega)
 unfold cutS
 rw [if_neg (by omega)]
 refine ⟨g, o + l * s, by simp [add_at], fun j hj => ?_⟩
 rw [Nat.sub_mul] at hj
 rw [Nat.add_assoc, hcell _ (by omega), List.getElem?_drop]
theorem RdS.take (h : RdS s w A n xs) {k : Nat} (hk : k ≤ n) : RdS s w A k (xs.take (k * s)) := by
 have hle : k * s ≤ n * s := Nat.mul_le_mul_right s hk
 refine ⟨by rw [List.length_take, h.1]; omega, fun hn => ?_⟩
 obtain ⟨g, o, e, hcell⟩ := h.2 (by omega)
 refine ⟨g, o, e, fun j hj => ?_⟩
 rw [hcell j (by omega), List.getElem?_take, if_pos hj]
theorem RdS.cutTake (h : RdS s w A n xs) {k : Nat} (hk : k ≤ n) : RdS s w (cutS s A c 0) k (xs.take (k * s)) := by
 have h1 := h.take hk
 unfold cutS
 split
 ·exact h1
 refine ⟨h1.1, fun hn => ?_⟩
 obtain ⟨g, o, e, hc⟩ := h1.2 hn
 subst e
 exact ⟨g, o, by simp [add_at], hc⟩
theorem MineS.rdS {e : TypeId} (h : MineS s w0 w e A n c xs) : RdS s w A n xs := by
 refine ⟨h.1.1, fun hn => ?_⟩
 rcases h.1.2 with ⟨_, h0⟩ | ⟨g, cap, cur, hv, hb, hg, hle, hm, hs, ht⟩
 ·omega
 injection hv with hA _ _
 subst hA
 refine ⟨g, 0, rfl, fun j hj => ?_⟩
 rw [← ht, Nat.zero_add, cell_of_row w g j cur e (0, 0) hg, List.getElem?_take, if_pos (by omega)]
 simp
end
theorem fold_zipB (vs : List Value) : ∀ (k : Nat) (cs : Array Value), k + vs.length ≤ cs.size → List.foldl (fun (cs : Array Value) (x : Value × Nat) => cs.setIfInBounds x.snd x.fst) cs (vs.zipIdx k) = (cs.toList.take k ++ vs ++ cs.toList.drop (k + vs.length)).toArray := by
 induction vs with
 | nil => intro k cs h; simp
 | cons v vs ih =>
  intro k cs h
  simp only [List.length_cons] at h
  rw [List.zipIdx_cons, List.foldl_cons, ih (k + 1) _ (by simp; omega)]
  have hk : k < cs.toList.length := by simp; omega
  simp only [Array.toList_setIfInBounds]
  congr 1
  have e1 : (cs.toList.set k v).take (k + 1) = cs.toList.take k ++ [v] := by
   rw [List.take_add_one, List.getElem?_set_self hk, List.take_set_of_le (Nat.le_refl k)]
   rfl
  have e2 : (cs.toList.set k v).drop (k + 1 + vs.length) = cs.toList.drop (k + (vs.length + 1)) := by
   rw [List.drop_set_of_lt (by omega)]
   congr 1
   omega
  rw [e1, e2]
  simp
theorem fold_zipB0 (vs : List Value) (cs : Array Value) (h : cs.size = vs.length) : List.foldl (fun (cs : Array Value) (x : Value × Nat) => cs.setIfInBounds x.snd x.fst) cs vs.zipIdx = vs.toArray := by
 have := fold_zipB vs 0 cs (by omega)
 rw [this, List.drop_eq_nil_of_le (by simp; omega)]
 simp
section
variable {P : Program}
theorem run_box (w : World) (t e : TypeId) (z : Value) (sz : Nat) (ht : P.underlying t = some (.slice e)) (hinfo : (P.info? e).map (fun i => (i.zero, i.size)) = some (some z, sz)) (hpos : 0 < sz) (hsm : sz ≤ 16777216) (SX : List Value) (hl : SX.length = sz) :
  (Instr.buildSlice t 1 #[(0, .agg SX.toArray)]).run P w = .ok (.slice (some ⟨w.heap.size, 0, none⟩) 1 1) (w.alloc (.cells SX.toArray e)) := by
 obtain ⟨i, hi, hzi⟩ := Option.map_eq_some_iff.1 hinfo
 simp only [Prod.mk.injEq] at hzi
 refine run_buildSlice w t e 1 _ SX.toArray i z ht hi hzi.1 (by rw [hzi.2]; simp; omega) (by rw [hzi.2]; omega) ?_
 rw [hzi.2]
 simp only [Instr.fill, Value.cells, Nat.zero_mul, Nat.zero_add, Nat.one_mul, List.size_toArray, Array.size_map, Array.size_range, ← Array.foldl_toList, Array.toList_zipIdx]
 rw [if_neg (by simp [hl]), fold_zipB0 _ _ (by simp [hl])]
theorem wpList_box_S (w : World) {ops : Array Oper} {rest : List Oper} {o : Oper} {a : Act} {Q : Exit → Act → World → Prop} (hgd : o.guard = none) (t e : TypeId) (x : Operand) (ho : o.op = .buildSlice t 1 #[(0, x)])
  (z : Value) (sz : Nat) (ht : P.underlying t = some (.slice e)) (hinfo : (P.info? e).map (fun i => (i.zero, i.size)) = some (some z, sz)) (hpos : 0 < sz) (hsm : sz ≤ 16777216) (SX : List Value) (hl : SX.length = sz) (hx : a.eval x = .agg SX.toArray)
  (h : wpList P ops Q rest (a.put o.dst (.slice (some ⟨w.heap.size, 0, none⟩) 1 1)) (w.alloc (.cells SX.toArray e))) : wpList P ops Q (o :: rest) a w :=
 wpList_plain hgd fun K hK => by
  have hr := run_box (P := P) w t e z sz ht hinfo hpos hsm SX hl
  unfold Oper.wp execOp
  simp only [ho, Sem.run_bind, List.map_toArray, List.map_cons, List.map_nil, hx, hr, Result.andThen_ok]
  exact hK _ _ h
theorem step_box_S {Q : Exit → Act → World → Prop} {K : Act → World → Prop} {ops : Array Oper} {a : Act} {w : World} {o : Oper} (hgd : o.guard = none) (t e : TypeId) (x : Operand) (ho : o.op = .buildSlice t 1 #[(0, x)])
  (z : Value) (sz : Nat) (ht : P.underlying t = some (.slice e)) (hinfo : (P.info? e).map (fun i => (i.zero, i.size)) = some (some z, sz)) (hpos : 0 < sz) (hsm : sz ≤ 16777216) (SX : List Value) (hl : SX.length = sz) (hx : a.eval x = .agg SX.toArray)
  (h : K (a.put o.dst (.slice (some ⟨w.heap.size, 0, none⟩) 1 1)) (w.alloc (.cells SX.toArray e))) :
  if Region.wanted o (yielded ops a.tmps) = true then Oper.wp P o a w K Q else K (a.put o.dst undef) w := by
 have hw : Region.wanted o (yielded ops a.tmps) = true := by simp [Region.wanted, hgd]
 rw [if_pos hw]
 have hr := run_box (P := P) w t e z sz ht hinfo hpos hsm SX hl
 unfold Oper.wp execOp
 simp only [ho, Sem.run_bind, List.map_toArray, List.map_cons, List.map_nil, hx, hr, Result.andThen_ok]
 exact h
end
structure BoxTwo (w wr : World) (b : Nat) (T : TypeId) (cs : List Value) (e : TypeId) (s : Nat) (A : Option Addr) (n c : Nat) (xs : List Value) (f : TypeId) (t : Nat) (B : Option Addr) (m d : Nat) (ys : List Value) : Prop where
 two : Two w wr e s A n c xs f t B m d ys
 blk : Blk wr b T cs
 lo : w.heap.size ≤ b
 na : (Value.slice A n c).ownBlock ≠ some b
 nb : (Value.slice B m d).ownBlock ≠ some b
section
variable {w wr w' : World} {b : Nat} {T e f : TypeId} {cs : List Value} {s t : Nat} {A B : Option Addr} {n c m d : Nat} {xs ys : List Value}
theorem BoxTwo.swap (h : BoxTwo w wr b T cs e s A n c xs f t B m d ys) : BoxTwo w wr b T cs f t B m d ys e s A n c xs := ⟨h.two.swap, h.blk, h.lo, h.nb, h.na⟩
theorem BoxTwo.keep (h : BoxTwo w wr b T cs e s A n c xs f t B m d ys) (hk : Keeps (fun _ => False) wr w') : BoxTwo w w' b T cs e s A n c xs f t B m d ys := ⟨h.two.keep hk, hk.blk h.blk (fun h => h), h.lo, h.na, h.nb⟩
theorem BoxTwo.app {A' : Option Addr} {k c' : Nat} {zs : List Value} (h : BoxTwo w wr b T cs e s A n c xs f t B m d ys) (ho : w'.ownsRow 0 e s (.slice A' k c') k zs) (hg : wr.grownBy w' (Value.slice A n c).ownBlock)
  (hb : (Value.slice A' k c').ownBlock = (Value.slice A n c).ownBlock ∨ (Value.slice A' k c').ownBlock = some wr.heap.size) : BoxTwo w w' b T cs e s A' k c' zs f t B m d ys := by
 refine ⟨h.two.grown ho hg hb, (Keeps.of_grown hg).blk h.blk h.na, h.lo, ?_, h.nb⟩
 have hlt := h.blk.lt
 rcases hb with h1 | h1
 ·rw [h1]; exact h.na
 rw [h1]; intro h2; injection h2 with h2; omega
theorem BoxTwo.set (h : BoxTwo w wr b T cs e s A n c xs f t B m d ys) (i : Nat) (v : Value) : BoxTwo w (wr.setCell ⟨b, i, none⟩ v) b T (cs.set i v) e s A n c xs f t B m d ys := by
 have hk : Keeps (fun j => j = b) wr (wr.setCell ⟨b, i, none⟩ v) := (Keeps.refl (fun j => j = b) wr).setCell (p := ⟨b, i, none⟩) (.inl rfl) v
 have hw : Keeps (fun _ => False) w (wr.setCell ⟨b, i, none⟩ v) := h.two.a.2.1.setCell (p := ⟨b, i, none⟩) (.inr h.lo) v
 exact ⟨⟨⟨hk.own h.two.a.1 (fun g hg e => h.na (by rw [hg, e])), hw, h.two.a.2.2⟩, ⟨hk.own h.two.b.1 (fun g hg e => h.nb (by rw [hg, e])), hw, h.two.b.2.2⟩, h.two.ap⟩, h.blk.set_ i v, h.lo, h.na, h.nb⟩
theorem BoxTwo.start (w : World) (T e f : TypeId) (s t : Nat) {w1 : World} (hk : Keeps (fun _ => False) w w1) (cs : List Value) : BoxTwo w (w1.alloc (.cells cs.toArray T)) w1.heap.size T cs e s none 0 0 [] f t none 0 0 [] :=
 ⟨⟨(MineS.nil s w e).keep (hk.alloc _), (MineS.nil t w f).keep (hk.alloc _), fun g h => by simp [Value.ownBlock] at h⟩, Blk.new w1 T cs, hk.size, by simp [Value.ownBlock], by simp [Value.ownBlock]⟩
theorem BoxTwo.hold (h : BoxTwo w wr b T cs e s A n c xs f t B m d ys) : Keeps (fun _ => False) w wr := h.two.a.2.1
end
end Go.Aff
