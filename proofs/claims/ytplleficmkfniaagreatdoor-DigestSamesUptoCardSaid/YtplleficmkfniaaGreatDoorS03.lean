/- Texts. -/
import Derived.Test.YtplleficmkfniaaGreatDoorS02
import Derived.OrdersHeld
import Derived.Lib.Hide
import Derived.Deep.RegionHeld
import Derived.Test.YtplleficmkfniaaGreatDoorProg
import Derived.WalkSpells
import Derived.WalkLawsBesides
import Derived.Handy
import Derived.Deep.CutBlock
import Derived.Laws.CopyOwn
set_option linter.unusedSimpArgs false
set_option maxRecDepth 100000
set_option maxHeartbeats 4000000
namespace Go
section
variable {P : Program} {ops : Array Oper} {Q : Exit → Act → World → Prop} {md : Region.Mode} {S : World → Prop} {z : Nat}
def wpAnyT (P : Program) (md : Region.Mode) (ops : Array Oper) (Q : Exit → Act → World → Prop) (S : World → Prop) (z : Nat) (fuel : Nat) : Array Bool → Act → World → Prop :=
 match fuel with
 | 0 => fun l a w => Region.ready md ops l = [] ∧ Q .normal a w
 | f + 1 => fun l a w => (Region.ready md ops l = [] → Q .normal a w) ∧ ∀ k, k ∈ Region.ready md ops l → wpOp P ops Q k (fun a' w' => (z ≤ k ∨ (S w → S w')) ∧ wpAnyT P md ops Q S z f (l.setIfInBounds k true) a' w') a w
theorem wpAny_of_T (f : Nat) : ∀ (l : Array Bool) (a : Act) (w : World), wpAnyT P md ops Q S z f l a w → wpAny P md ops Q f l a w := by
 induction f with
 | zero => exact fun _ _ _ h => h
 | succ f ih => exact fun l a w h => ⟨h.1, fun k hk => wpOp_mono (fun a' w' h' => ih _ a' w' h'.2) (h.2 k hk)⟩
def covers (md : Region.Mode) (ops : Array Oper) (z i : Nat) (U : List Nat) : Bool :=
 (U.all fun q => q == i || U.any fun p => Region.waitsFor md ops q p) && (List.range ops.size).all fun k => decide (k < z) || U.any fun p => Region.waitsFor md ops k p
def undone (l : Array Bool) (U : List Nat) : Bool := U.all fun q => !(l.getD q true)
theorem waits_undone {i j : Nat} {l : Array Bool} (hw : Region.waitsFor md ops j i = true) (hi : l.getD i true = false) : j ∉ Region.ready md ops l := by
 obtain ⟨oj, ho, e, he, hb, rfl⟩ := Region.waitsFor_spec hw
 intro hj
 obtain ⟨_, o', ho', hall⟩ := mem_ready.1 hj
 rw [ho] at ho'
 injection ho' with ho'
 subst ho'
 have h1 := hall e he hb
 rcases Nat.lt_or_ge e.on l.size with h' | h'
 ·simp [h'] at hi h1; rw [hi] at h1; cases h1
 ·simp [Array.getElem?_eq_none h'] at hi
theorem undone_at {l : Array Bool} {U : List Nat} (h : undone l U = true) {q : Nat} (hq : q ∈ U) : l.getD q true = false := by
 have := List.all_eq_true.1 h q hq
 simpa using this
theorem covers_not {i j : Nat} {U : List Nat} {l : Array Bool} (hc : covers md ops z i U = true) (hu : undone l U = true) (hj : j ∈ Region.ready md ops l) (hji : j ≠ i) : j ∉ U ∧ ¬ z ≤ j := by
 unfold covers at hc
 rw [Bool.and_eq_true] at hc
 constructor
 ·intro hU
  have := List.all_eq_true.1 hc.1 j hU
  simp only [Bool.or_eq_true, beq_iff_eq, List.any_eq_true] at this
  rcases this with h | ⟨p, hp, hw⟩
  ·exact hji h
  ·exact waits_undone hw (undone_at hu hp) hj
 ·intro hz
  obtain ⟨_, oj, hoj, _⟩ := mem_ready.1 hj
  have := List.all_eq_true.1 hc.2 j (List.mem_range.2 (Array.getElem?_eq_some_iff.1 hoj).1)
  simp only [Bool.or_eq_true, decide_eq_true_eq, List.any_eq_true] at this
  rcases this with h | ⟨p, hp, hw⟩
  ·omega
  ·exact waits_undone hw (undone_at hu hp) hj
theorem wpAnyT_first {i : Nat} {U : List Nat} {oi : Oper} {v : Value} (hi : ops[i]? = some oi) (hsel : ∀ (j : Nat) (o : Oper) cs b, ops[j]? = some o → o.op ≠ .select cs b) (hc : covers md ops z i U = true)
  (hQ : ∀ c a w, Q (.panic c) (a.put oi.dst v) w → Q (.panic c) a w) (f : Nat) :
  ∀ (l : Array Bool) (a : Act) (w : World), (∀ j oj, ops[j]? = some oj → j ≠ i → l.getD j true = false → (∀ e ∈ oj.after, Region.binds md e = true → e.on ≠ i) → oi.apart ops oj = true) →
   i ∈ Region.ready md ops l → undone l U = true → YieldsIf P ops S oi v a → S w → wpAnyT P md ops Q S z f (l.setIfInBounds i true) (a.put oi.dst v) w → wpAnyT P md ops Q S z (f + 1) l a w := by
 induction f with
 | zero =>
  intro l a w _ hr hu hy hS H
  refine ⟨fun h => (by rw [h] at hr; cases hr), fun j hj => ?_⟩
  by_cases hji : j = i
  ·subst hji; exact hy.wpOp hi hS ⟨.inr id, H⟩
  ·have := ready_mono hj hji
   rw [H.1] at this
   cases this
 | succ f ih =>
  intro l a w hfree hr hu hy hS H
  refine ⟨fun h => (by rw [h] at hr; cases hr), fun j hj => ?_⟩
  by_cases hji : j = i
  ·subst hji; exact hy.wpOp hi hS ⟨.inr id, H⟩
  ·have h1 := H.2 j (ready_mono hj hji)
   obtain ⟨hjun, oj, hoj, _⟩ := mem_ready.1 hj
   obtain ⟨hjU, hjz⟩ := covers_not hc hu hj hji
   have hu' : undone (l.setIfInBounds j true) U = true := List.all_eq_true.2 fun q hq => by
    have hjq : j ≠ q := fun e => hjU (by rw [e]; exact hq)
    rw [getD_set_ne true hjq, undone_at hu hq]
    rfl
   have hnot : ∀ e ∈ oj.after, Region.binds md e = true → e.on ≠ i := fun e he hb heq =>
    waits_not_ready (j := j) (by unfold Region.waitsFor; rw [hoj]; simp only [Array.any_eq_true']; exact ⟨e, he, by rw [hb, heq]; simp⟩) hr hj
   have h2 := wpOp_putIf hoj (hfree j oj hoj hji hjun hnot) (fun cs b => hsel i oi cs b hi) (fun cs b => hsel j oj cs b hoj) hQ hy h1
   refine wpOp_mono (fun a' w' h3 => ?_) h2
   have hSw := h3.2.1.resolve_left hjz hS
   refine ⟨.inr fun _ => hSw, ih (l.setIfInBounds j true) a' w' (fun k ok hk hki hun hno => hfree k ok hk hki ?_ hno) (ready_mono hr (Ne.symm hji)) hu' h3.1 hSw ?_⟩
   ·by_cases hjk : j = k
    ·subst hjk; exact hjun
    ·rw [getD_set_ne true hjk] at hun; exact hun
   ·rw [Array.setIfInBounds_comm _ _ hji]
    exact h3.2.2
theorem wpAnyT_pure0 {i : Nat} {oi : Oper} {v : Value} (hi : ops[i]? = some oi) (hsel : ∀ (j : Nat) (o : Oper) cs b, ops[j]? = some o → o.op ≠ .select cs b)
  (hQ : ∀ c a w, Q (.panic c) (a.put oi.dst v) w → Q (.panic c) a w) (f : Nat) :
  ∀ (l : Array Bool) (a : Act) (w : World), (∀ j oj, ops[j]? = some oj → j ≠ i → l.getD j true = false → (∀ e ∈ oj.after, Region.binds md e = true → e.on ≠ i) → oi.apart ops oj = true) →
   i ∈ Region.ready md ops l → YieldsIf P ops (fun _ => True) oi v a → wpAnyT P md ops Q S z f (l.setIfInBounds i true) (a.put oi.dst v) w → wpAnyT P md ops Q S z (f + 1) l a w := by
 induction f with
 | zero =>
  intro l a w _ hr hy H
  refine ⟨fun h => (by rw [h] at hr; cases hr), fun j hj => ?_⟩
  by_cases hji : j = i
  ·subst hji; exact hy.wpOp hi trivial ⟨.inr id, H⟩
  ·have := ready_mono hj hji
   rw [H.1] at this
   cases this
 | succ f ih =>
  intro l a w hfree hr hy H
  refine ⟨fun h => (by rw [h] at hr; cases hr), fun j hj => ?_⟩
  by_cases hji : j = i
  ·subst hji; exact hy.wpOp hi trivial ⟨.inr id, H⟩
  ·have h1 := H.2 j (ready_mono hj hji)
   obtain ⟨hjun, oj, hoj, _⟩ := mem_ready.1 hj
   have hnot : ∀ e ∈ oj.after, Region.binds md e = true → e.on ≠ i := fun e he hb heq =>
    waits_not_ready (j := j) (by unfold Region.waitsFor; rw [hoj]; simp only [Array.any_eq_true']; exact ⟨e, he, by rw [hb, heq]; simp⟩) hr hj
   have h2 := wpOp_putIf hoj (hfree j oj hoj hji hjun hnot) (fun cs b => hsel i oi cs b hi) (fun cs b => hsel j oj cs b hoj) hQ hy h1
   refine wpOp_mono (fun a' w' h3 => ?_) h2
   refine ⟨h3.2.1, ih (l.setIfInBounds j true) a' w' (fun k ok hk hki hun hno => hfree k ok hk hki ?_ hno) (ready_mono hr (Ne.symm hji)) h3.1 ?_⟩
   ·by_cases hjk : j = k
    ·subst hjk; exact hjun
    ·rw [getD_set_ne true hjk] at hun; exact hun
   ·rw [Array.setIfInBounds_comm _ _ hji]
    exact h3.2.2
theorem wpAnyT_pure {i : Nat} {oi : Oper} {v : Value} {fuel : Nat} {l : Array Bool} {a : Act} {w : World} (hi : ops[i]? = some oi)
  (hs : Region.noSelect ops = true) (hf : Region.free md ops l i = true) (hr : (Region.ready md ops l).contains i = true)
  (hQ : ∀ c a w, Q (.panic c) (a.put oi.dst v) w → Q (.panic c) a w) (hy : YieldsIf P ops (fun _ => True) oi v a)
  (h : wpAnyT P md ops Q S z fuel (l.setIfInBounds i true) (a.put oi.dst v) w) : wpAnyT P md ops Q S z (fuel + 1) l a w :=
 wpAnyT_pure0 hi (Region.noSelect_spec hs) hQ fuel l a w (Region.free_spec hi hf) (by simpa using hr) hy h
theorem wpAnyT_take (U : List Nat) {i : Nat} {oi : Oper} {v : Value} {fuel : Nat} {l : Array Bool} {a : Act} {w : World} (hi : ops[i]? = some oi)
  (hs : Region.noSelect ops = true) (hz : covers md ops z i U = true) (hu : undone l U = true) (hf : Region.free md ops l i = true) (hr : (Region.ready md ops l).contains i = true)
  (hQ : ∀ c a w, Q (.panic c) (a.put oi.dst v) w → Q (.panic c) a w) (hy : YieldsIf P ops S oi v a) (hS : S w)
  (h : wpAnyT P md ops Q S z fuel (l.setIfInBounds i true) (a.put oi.dst v) w) : wpAnyT P md ops Q S z (fuel + 1) l a w :=
 wpAnyT_first hi (Region.noSelect_spec hs) hz hQ fuel l a w (Region.free_spec hi hf) (by simpa using hr) hu hy hS h
theorem wpAnyT_step {i : Nat} {o : Oper} {fuel : Nat} {l : Array Bool} {a : Act} {w : World} (hr : Region.ready md ops l = [i]) (ho : ops[i]? = some o)
  (h : ∀ K : Act → World → Prop, Shut (∀ a w, S w → (S w → wpAnyT P md ops Q S z fuel (l.setIfInBounds i true) a w) → K a w) → if Region.wanted o (yielded ops a.tmps) = true then Oper.wp P o a w K Q else K (a.put o.dst undef) w) :
  wpAnyT P md ops Q S z (fuel + 1) l a w := by
 refine ⟨fun h0 => (by rw [hr] at h0; cases h0), fun j hj => ?_⟩
 rw [hr] at hj
 obtain rfl := List.mem_singleton.1 hj
 exact wpOp_step ho (fun K hK => h K (fun a w hS hW => hK a w ⟨.inr fun _ => hS, hW hS⟩))
theorem wpAnyT_tail {i : Nat} {o : Oper} {fuel : Nat} {l : Array Bool} {a : Act} {w : World} (hr : Region.ready md ops l = [i]) (hzi : Nat.ble z i = true) (ho : ops[i]? = some o)
  (h : ∀ K : Act → World → Prop, Shut (∀ a w, wpAnyT P md ops Q S z fuel (l.setIfInBounds i true) a w → K a w) → if Region.wanted o (yielded ops a.tmps) = true then Oper.wp P o a w K Q else K (a.put o.dst undef) w) :
  wpAnyT P md ops Q S z (fuel + 1) l a w := by
 refine ⟨fun h0 => (by rw [hr] at h0; cases h0), fun j hj => ?_⟩
 rw [hr] at hj
 obtain rfl := List.mem_singleton.1 hj
 exact wpOp_step ho (fun K hK => h K (fun a w hW => hK a w ⟨.inl (Nat.le_of_ble_eq_true hzi), hW⟩))
theorem wpAnyT_done {fuel : Nat} {l : Array Bool} {a : Act} {w : World} (hr : Region.ready md ops l = []) (hQ : Q .normal a w) : wpAnyT P md ops Q S z fuel l a w := by
 cases fuel with
 | zero => exact ⟨hr, hQ⟩
 | succ f => exact ⟨fun _ => hQ, by rw [hr]; intro k hk; cases hk⟩
theorem wp_region_tail {id : Nat} {a : Act} {w : World} (z : Nat) (hm : P.follows .mixedOrders = true) (hS : S w.drew)
  (h : S w.drew → wpAnyT P .any ops Q S z ops.size (Array.replicate ops.size false) a w.drew) : (Code.region id ops true).wp P Q a w :=
 wp_region_any hm (wpAny_of_T _ _ _ _ (h hS))
end
end Go
namespace Go.Aff
open Go Go.RowKit Go.Sha
theorem step_append_own {P : Program} {Q : Exit → Act → World → Prop} {K : Act → World → Prop} {ops : Array Oper} {a : Act} {w : World} {o : Oper} (hgd : o.guard = none) (s x : Operand) (t : TypeId)
  (ho : o.op = .call { callee := .builtin .append, args := #[s, x], argTypes := #[t, t] })
  (e : TypeId) (z : Value) (size bytes : Nat) (ht : P.underlying t = some (.slice e)) (hinfo : (P.info? e).map (fun i => (i.zero, i.size, i.bytes)) = some (some z, size, bytes)) (hzs : z.cells.size = size) (hsz : 0 < size)
  (B : Option Addr) (n d : Nat) (xs : List Value) (hs : a.eval s = .slice B n d) (hown : w.ownsRow 0 e size (.slice B n d) n xs)
  (ad : Addr) (m c : Nat) (news : List Value) (hx : a.eval x = .slice (some ad) m c) (hl : news.length = m * size) (hnews : ∀ j u, news[j]? = some u → w.cell? (ad.add j) = some u) (h1 : ∀ u ∈ news, u.oneCell' = true)
  (h63 : n + m ≤ maxLen) (hbytes : (n + m) * bytes ≤ 140737488355328)
  (h : ∀ A' c' w', w'.ownsRow 0 e size (.slice A' (n + m) c') (n + m) (xs ++ news) → w.grownBy w' (Value.slice B n d).ownBlock → ((Value.slice A' (n + m) c').ownBlock = (Value.slice B n d).ownBlock ∨ (Value.slice A' (n + m) c').ownBlock = some w.heap.size) → K (a.put o.dst (.slice A' (n + m) c')) w') :
  if Region.wanted o (yielded ops a.tmps) = true then Oper.wp P o a w K Q else K (a.put o.dst undef) w := by
 have hw : Region.wanted o (yielded ops a.tmps) = true := by simp [Region.wanted, hgd]
 rw [if_pos hw]
 obtain ⟨i, hi, hzi⟩ := Option.map_eq_some_iff.1 hinfo
 simp only [Prod.mk.injEq] at hzi
 obtain ⟨hz, hsz', hby⟩ := hzi
 obtain ⟨v', w', hr, h2, h3, _, h5⟩ := run_append_own_at (P := P) w 0 t o.type e i z size bytes ht hi hz hsz' hby hzs hsz (.slice B n d) n xs hown ad m c news hl hnews h1 h63 hbytes (Nat.zero_le _)
 obtain ⟨A', c', rfl⟩ := own_shape h2
 unfold Oper.wp execOp
 simp only [ho, resolve, invoke, builtin, Sem.run_bind, Sem.run_pure, Result.andThen_ok, List.map_toArray, List.map_cons, List.map_nil, hs, hx, hr]
 exact h A' c' w' h2 h3 h5
end Go.Aff
namespace Go
open Go.Aff
theorem pu : (∀ (a : Act) (d : Tmp) (v : Value), a.put (some d) v = { a with tmps := a.tmps.setIfInBounds d v }) ∧ (∀ (a : Act) (v : Value), a.put none v = a) ∧ (∀ {α : Type} (l : List α) (i : Nat) (x : α), l.toArray.setIfInBounds i x = (l.set i x).toArray) ∧ (∀ {α : Type} (x : α) (l : List α) (y : α), (x :: l).set 0 y = y :: l) ∧ (∀ {α : Type} (x : α) (l : List α) (n : Nat) (y : α), (x :: l).set (n + 1) y = x :: l.set n y) :=
 ⟨fun _ _ _ => rfl, fun _ _ => rfl, fun l i x => List.setIfInBounds_toArray l i x, fun _ _ _ => rfl, fun _ _ _ _ => rfl⟩
section
variable {P : Program} {ops : Array Oper} {Q : Exit → Act → World → Prop} {md : Region.Mode} {S : World → Prop} {z : Nat}
theorem tH {i : Nat} {oi : Oper} {v : Value} {fuel : Nat} {listed : Array Bool} {a : Act} {w : World} (hi : ops[i]? = some oi) (hy : YieldsIf P ops S oi v a) (hS : S w)
  (h : wpAnyH P md ops Q S fuel (listed.setIfInBounds i true) (a.put oi.dst v) w)
  (hs : Region.noSelect ops = true := by kernel_rfl) (hf : Region.free md ops listed i = true := by kernel_rfl) (hr : (Region.ready md ops listed).contains i = true := by kernel_rfl)
  (hQ : ∀ c a w, Q (.panic c) (a.put oi.dst v) w → Q (.panic c) a w := by exact fun _ _ _ h => h) : wpAnyH P md ops Q S (fuel + 1) listed a w := wpAnyH_take hi hs hf hr hQ hy hS h
theorem tP {i : Nat} {oi : Oper} {v : Value} {fuel : Nat} {l : Array Bool} {a : Act} {w : World} (hi : ops[i]? = some oi) (hy : YieldsIf P ops (fun _ => True) oi v a)
  (h : wpAnyT P md ops Q S z fuel (l.setIfInBounds i true) (a.put oi.dst v) w)
  (hs : Region.noSelect ops = true := by kernel_rfl) (hf : Region.free md ops l i = true := by kernel_rfl) (hr : (Region.ready md ops l).contains i = true := by kernel_rfl)
  (hQ : ∀ c a w, Q (.panic c) (a.put oi.dst v) w → Q (.panic c) a w := by exact fun _ _ _ h => h) : wpAnyT P md ops Q S z (fuel + 1) l a w := wpAnyT_pure hi hs hf hr hQ hy h
theorem tT (U : List Nat) {i : Nat} {oi : Oper} {v : Value} {fuel : Nat} {l : Array Bool} {a : Act} {w : World} (hi : ops[i]? = some oi) (hy : YieldsIf P ops S oi v a) (hS : S w)
  (h : wpAnyT P md ops Q S z fuel (l.setIfInBounds i true) (a.put oi.dst v) w)
  (hs : Region.noSelect ops = true := by kernel_rfl) (hz : covers md ops z i U = true := by kernel_rfl) (hu : undone l U = true := by kernel_rfl) (hf : Region.free md ops l i = true := by kernel_rfl) (hr : (Region.ready md ops l).contains i = true := by kernel_rfl)
  (hQ : ∀ c a w, Q (.panic c) (a.put oi.dst v) w → Q (.panic c) a w := by exact fun _ _ _ h => h) : wpAnyT P md ops Q S z (fuel + 1) l a w := wpAnyT_take U hi hs hz hu hf hr hQ hy hS h
theorem tI (i d : Nat) {oi : Oper} {v : Value} {fuel : Nat} {listed : Array Bool} {a : Act} {w : World} (hS : S w)
  (h : wpAnyH P md ops Q S fuel (listed.setIfInBounds i true) (a.put (some d) v) w)
  (hi : ops[i]? = some oi := by rfl) (hd : oi.dst = some d := by rfl) (hy : YieldsIf P ops S oi v a := by exact Or.inl ⟨by rfl, by intro w' hSw; go_simp; first | done | rfl⟩)
  (hs : Region.noSelect ops = true := by kernel_rfl) (hf : Region.free md ops listed i = true := by kernel_rfl) (hr : (Region.ready md ops listed).contains i = true := by kernel_rfl)
  (hQ : ∀ c a w, Q (.panic c) (a.put oi.dst v) w → Q (.panic c) a w := by exact fun _ _ _ h => h) : wpAnyH P md ops Q S (fuel + 1) listed a w := wpAnyH_take hi hs hf hr hQ hy hS (by rw [hd]; exact h)
theorem tJ (i d : Nat) {oi : Oper} {v : Value} {fuel : Nat} {l : Array Bool} {a : Act} {w : World}
  (h : wpAnyT P md ops Q S z fuel (l.setIfInBounds i true) (a.put (some d) v) w)
  (hi : ops[i]? = some oi := by rfl) (hd : oi.dst = some d := by rfl) (hy : YieldsIf P ops (fun _ => True) oi v a := by exact Or.inl ⟨by rfl, by intro w' hSw; go_simp; first | done | rfl⟩)
  (hs : Region.noSelect ops = true := by kernel_rfl) (hf : Region.free md ops l i = true := by kernel_rfl) (hr : (Region.ready md ops l).contains i = true := by kernel_rfl)
  (hQ : ∀ c a w, Q (.panic c) (a.put oi.dst v) w → Q (.panic c) a w := by exact fun _ _ _ h => h) : wpAnyT P md ops Q S z (fuel + 1) l a w := wpAnyT_pure hi hs hf hr hQ hy (by rw [hd]; exact h)
theorem rH (i : Nat) (d : Option Tmp) {o : Oper} {fuel : Nat} {listed : Array Bool} {a : Act} {w : World}
  (h : ∀ K' : Act → World → Prop, Shut (∀ a w, S w → (S w → wpAnyH P md ops Q S fuel (listed.setIfInBounds i true) a w) → K' a w) → if Region.wanted o (yielded ops a.tmps) = true then Oper.wp P o a w K' Q else K' (a.put d undef) w)
  (ho : ops[i]? = some o := by rfl) (hd : o.dst = d := by rfl) (hr : Region.ready md ops listed = [i] := by kernel_rfl) : wpAnyH P md ops Q S (fuel + 1) listed a w :=
 wpAnyH_ready hr (by simp) (AllReadyH.cons ho (by rw [hd]; exact h) AllReadyH.nil)
end
namespace Aff
theorem H_ {p : Prop} (h : p) : RowKit.Hid p := Lib.hid h
end Aff
end Go
namespace Go.Proofs.YtplleficmkfniaaGreatDoor
open Go Go.RowKit Go.Sha Go.Aff
theorem quiet_more {P : Program} {f : FuncId} {args : Array Value} {w : World} {n : Nat} {v : Value}
  (h : Calls P f args (w.drewN n) fun e w' => e = .returned v ∧ ∃ m, w' = (w.drewN n).drewN m) :
  Calls P f args (w.drewN n) fun e w'' => e = .returned v ∧ ∃ m, w'' = w.drewN m :=
 h.mono fun _ _ ⟨he, m, hm⟩ => ⟨he, n + m, by rw [hm, World.drewN_drewN]⟩
theorem turned_any (x n : Int) (h0 : 0 ≤ n) (h1 : n ≤ 32) (w : World) :
  Calls Tryz.prog 213 #[.int .u32 x, .int .i64 n] w fun e w' => e = .returned (.int .u32 (tu x n)) ∧ ∃ k, w' = w.drewN k := by
 go_enter Tryz.func213, Tryz.ntmps213
 go_wp2
 go_quiet (fail)
 go_wp2
 go_ret
 exact ⟨rfl, _, rfl⟩
namespace RoundW
def Rel (S B : Nat → Int) (N : Nat) (W : Nat → Int) (w wr : World) : Prop :=
 wr.rowIs (N + 1 + 1 + 1) 346 64 (fun j => .int .u32 (W j)) ∧ wr.rowIs N 254 8 (fun j => .int .u32 (S j)) ∧ wr.rowIs (N + 1) 313 64 (fun j => .int .u8 (B j)) ∧
 wr.rowIs (N + 1 + 1) 254 8 (fun _ => .int .u32 0) ∧ wr.heap.size = N + 4 ∧ Below N w wr
theorem Rel.congr {S B : Nat → Int} {N : Nat} {W W' : Nat → Int} {w wr : World} (h : Rel S B N W w wr) (e : ∀ j, W j = W' j) : Rel S B N W' w wr := by
 have : W = W' := funext e
 exact this ▸ h
theorem Rel.set {S B : Nat → Int} {N : Nat} {W : Nat → Int} {w wr : World} (h : Rel S B N W w wr) (t : Nat) (x : Int) :
  Rel S B N (fun j => if j = t then x else W j) w (wr.setCell ⟨N + 1 + 1 + 1, t, none⟩ (.int .u32 x)) := by
 obtain ⟨h1, h2, h3, h4, h5, h6⟩ := h
 refine ⟨(h1.set t _).congr ?_, h2.setOther (by show N ≠ N + 1 + 1 + 1; omega) _, h3.setOther (by show N + 1 ≠ N + 1 + 1 + 1; omega) _, h4.setOther (by show N + 1 + 1 ≠ N + 1 + 1 + 1; omega) _, by simpa using h5, h6.setCell (by show N ≤ N + 1 + 1 + 1; omega) _⟩
 intro i _
 dsimp only
 split <;> rfl
theorem Rel.drew {S B : Nat → Int} {N : Nat} {W : Nat → Int} {w wr : World} (h : Rel S B N W w wr) : Rel S B N W w wr.drew := by
 obtain ⟨h1, h2, h3, h4, h5, h6⟩ := h
 exact ⟨h1, h2, h3, h4, h5, h6.drew⟩
theorem Rel.drewN {S B : Nat → Int} {N : Nat} {W : Nat → Int} {w wr : World} (h : Rel S B N W w wr) (k : Nat) : Rel S B N W w (wr.drewN k) := by
 obtain ⟨h1, h2, h3, h4, h5, h6⟩ := h
 exact ⟨h1, h2, h3, h4, h5, Below.drewN h6 k⟩
def Rel2 (S W : Nat → Int) (N M : Nat) (l : List Value) (w wx : World) : Prop :=
 wx.rowIs (N + 1 + 1 + 1) 346 64 (fun j => .int .u32 (W j)) ∧ wx.rowIs N 254 8 (fun j => .int .u32 (S j)) ∧ wx.rowIs (N + 1 + 1) 254 8 (fun _ => .int .u32 0) ∧
 Blk wx M 254 l ∧ wx.heap.size = M + 1 ∧ N + 3 < M ∧ Below N w wx
theorem Rel.next {S B : Nat → Int} {N : Nat} {W : Nat → Int} {w wr : World} (h : Rel S B N W w wr) (l : List Value) : Rel2 S W N wr.heap.size l w (wr.alloc (.cells l.toArray 254)) := by
 obtain ⟨h1, h2, h3, h4, h5, h6⟩ := h
 exact ⟨h1.alloc _, h2.alloc _, h4.alloc _, Blk.new _ _ _, by simp, by omega, h6.alloc (by omega) _⟩
theorem Rel2.drewN {S W : Nat → Int} {N M : Nat} {l : List Value} {w wx : World} (h : Rel2 S W N M l w wx) (k : Nat) : Rel2 S W N M l w (wx.drewN k) := by
 obtain ⟨h1, h2, h3, h4, h5, h6, h7⟩ := h
 exact ⟨h1, h2, h3, h4, h5, h6, Below.drewN h7 k⟩
theorem Rel2.setRow {S W : Nat → Int} {N M : Nat} {l : List Value} {w wx : World} (h : Rel2 S W N M l w wx) (vs : List Value) : Rel2 S W N M vs w (wx.setRow M vs.toArray) := by
 obtain ⟨h1, h2, h3, h4, h5, h6, h7⟩ := h
 exact ⟨rowIs_setRow_far h1 (by omega) _, rowIs_setRow_far h2 (by omega) _, rowIs_setRow_far h3 (by omega) _, h4.setRow _, by simpa using h5, h6, Below.setRow h7 (by omega) _⟩
theorem Rel2.set {S W : Nat → Int} {N M : Nat} {l : List Value} {w wx : World} (h : Rel2 S W N M l w wx) (i : Nat) (v : Value) : Rel2 S W N M (l.set i v) w (wx.setCell ⟨M, i, none⟩ v) := by
 obtain ⟨h1, h2, h3, h4, h5, h6, h7⟩ := h
 exact ⟨h1.setOther (by show N + 1 + 1 + 1 ≠ M; omega) _, h2.setOther (by show N ≠ M; omega) _, h3.setOther (by show N + 1 + 1 ≠ M; omega) _, h4.set_ _ _, by simpa using h5, h6, h7.setCell (by show N ≤ M; omega) _⟩
def sums (l : List Int) (S : Nat → Int) (i : Nat) : List Value := (List.range 8).map fun j => Value.int .u32 (if j < i then (l.getD j 0 + S j) % 4294967296 else l.getD j 0)
theorem sums_set (l : List Int) (S : Nat → Int) (i : Nat) : (sums l S i).set i (.int .u32 ((l.getD i 0 + S i) % 4294967296)) = sums l S (i + 1) := by
 apply List.ext_getElem?
 intro j
 simp only [sums, List.getElem?_set, List.length_map, List.length_range, List.getElem?_map]
 by_cases hj : j < 8
 ·by_cases h : i = j
  ·subst h; simp [hj]
  ·simp only [h, if_false]
   have : (j < i + 1) = (j < i) := by apply propext; omega
   simp [hj, this]
 ·by_cases h : i = j
  ·subst h; simp [hj]
  ·simp [hj, h]
theorem sums_zero (a b c d e f g h : Int) (S : Nat → Int) : sums [a, b, c, d, e, f, g, h] S 0 = [.int .u32 a, .int .u32 b, .int .u32 c, .int .u32 d, .int .u32 e, .int .u32 f, .int .u32 g, .int .u32 h] := by
 simp [sums, List.range_succ]
end RoundW
open RoundW
theorem round_any (S B : Nat → Int) (hB : ∀ i, 0 ≤ B i ∧ B i < 256) (w : World) (hK : ∀ t, t < 64 → w.cell? ⟨3, t, none⟩ = some (.int .u32 (K.getD t 0))) (hK0 : 3 < w.heap.size) :
  Calls Tryz.prog 180 #[.agg (wl S).toArray, .agg (bl B).toArray] w fun e w' => e = .returned (.agg (wl (round S B)).toArray) ∧ Below w.heap.size w w' := by
 have hr0 : Rel S B w.heap.size (wsv B 0) w ((((w.alloc (.cells (wl S).toArray 254)).alloc (.cells (bl B).toArray 313)).alloc (.cells (List.replicate 8 (Value.int .u32 0)).toArray 254)).alloc (.cells (List.replicate 64 (Value.int .u32 0)).toArray 346)) := by
  have z8 : List.replicate 8 (Value.int .u32 0) = (List.range 8).map fun _ => Value.int .u32 0 := by simp [List.range_succ]
  have z64 : List.replicate 64 (Value.int .u32 0) = (List.range 64).map fun j => Value.int .u32 (wsv B 0 j) := by simp [wsv_zero, List.range_succ]
  rw [z8, z64]
  have n1 := row_of_blk (n := 8) (f := fun i => Value.int .u32 (S i)) (Blk.new w 254 (wl S))
  have n2 := row_of_blk (n := 64) (f := fun i => Value.int .u8 (B i)) (Blk.new (w.alloc (.cells (wl S).toArray 254)) 313 (bl B))
  have n3 := row_of_blk (n := 8) (f := fun _ => Value.int .u32 0) (Blk.new ((w.alloc (.cells (wl S).toArray 254)).alloc (.cells (bl B).toArray 313)) 254 _)
  have n4 := row_of_blk (n := 64) (f := fun j => Value.int .u32 (wsv B 0 j)) (Blk.new (((w.alloc (.cells (wl S).toArray 254)).alloc (.cells (bl B).toArray 313)).alloc (.cells ((List.range 8).map fun _ => Value.int .u32 0).toArray 254)) 346 _)
  simp only [World.size_alloc] at n2 n3 n4
  exact ⟨n4, ((n1.alloc _).alloc _).alloc _, (n2.alloc _).alloc _, n3.alloc _, by simp, ((((Below.refl _ _).alloc (Nat.le_refl _) _).alloc (by simp) _).alloc (by simp; omega) _).alloc (by simp; omega) _⟩
 obtain ⟨sa, has⟩ : ∃ sa, sa = (wl S).toArray := ⟨_, rfl⟩
 obtain ⟨ab, hab⟩ : ∃ ab, ab = (bl B).toArray := ⟨_, rfl⟩
 rw [← has, ← hab] at hr0 ⊢
 clear has hab
 have Hr0 := Lib.hid hr0
 have HK := Lib.hid hK
 have HB := Lib.hid hB
 clear hr0 hK hB
 go_enter Tryz.func180, Tryz.ntmps180
 go_wp2
 go_loopw [6, 7, 8, 9, 21] (fun _ _ _ _ i wr => ∃ t : Nat, t ≤ 64 ∧ i = .int .i64 t ∧ Rel S B w.heap.size (wsv B t) w wr)
  (fun _ _ _ _ i _ => 64 - (intOf i).toNat)
 case atStart => exact ⟨0, by omega, rfl, Hr0.out⟩
 case round =>
  clear Hr0
  obtain ⟨t, ht, rfl, hr⟩ := hrel
  by_cases hlt : t < 64
  ·by_cases h16 : t < 16
   ·go_wp2
    go_loopw [7, 26] (fun _ i ws => ∃ k : Nat, k ≤ 4 ∧ i = .int .i64 k ∧ Rel S B w.heap.size (wk B t k) w ws) (fun _ i _ => 4 - (intOf i).toNat)
    case atStart => exact ⟨0, by omega, rfl, hr.congr fun j => (wk_zero B t j).symm⟩
    case round =>
     obtain ⟨k, hk, rfl, hr'⟩ := hrel
     by_cases hlk : k < 4
     ·have c1 : wr.cell? ⟨w.heap.size + 1 + 1 + 1, t, none⟩ = some (.int .u32 (wk B t k t)) := hr'.1.cell (by omega)
      have c2 : wr.cell? ⟨w.heap.size + 1, 4 * t + k, none⟩ = some (.int .u8 (B (4 * t + k))) := hr'.2.2.1.cell (by omega)
      have f1 : wr.frozen? ⟨w.heap.size + 1 + 1 + 1, t, none⟩ = false := hr'.1.frozen _
      have b1 : 0 ≤ B (4 * t + k) := (HB.out _).1
      have b2 : B (4 * t + k) < 256 := (HB.out _).2
      go_wp2
      go_region
      go_wp2
      go_roundw
      case rel =>
       refine ⟨k + 1, by omega, by go_num, ((hr'.set t _).congr fun j => ?_).drew⟩
       unfold wk
       by_cases hj : j = t
       ·simp [hj, hz]
       ·simp [hj]
      case measure => simp [intOf]; omega
     ·obtain rfl : k = 4 := by omega
      go_wp2
      go_roundw
      case rel => exact ⟨t + 1, by omega, by go_num, hr'.congr fun j => (wsv_succ_lt B t j h16).symm⟩
      case measure => simp [intOf]; omega
   ·have hg := fun j (_ : j < 64) => hr.1.cell (i := j) (by omega)
    have c1 := hg (t - 15) (by omega)
    have c2 := hg (t - 2) (by omega)
    have c3 := hg (t - 16) (by omega)
    have c4 := hg (t - 7) (by omega)
    have c5 := hg t (by omega)
    have f1 := hr.1.frozen t
    clear hg
    have i1 : ((t : Int) - 15).toNat = t - 15 := by omega
    have i2 : ((t : Int) - 2).toNat = t - 2 := by omega
    have i3 : ((t : Int) - 16).toNat = t - 16 := by omega
    have i4 : ((t : Int) - 7).toNat = t - 7 := by omega
    go_wp2
    go_quiet (fail)
    go_wp2
    go_region
    go_wp2
    have R1 := (hr.drewN (nq + 1)).set t ((wsv B t (t - 16) + wsv B t (t - 7)) % 4294967296)
    generalize (wr.drewN (nq + 1)).setCell ⟨w.heap.size + 1 + 1 + 1, t, none⟩ (.int .u32 ((wsv B t (t - 16) + wsv B t (t - 7)) % 4294967296)) = wx at R1 ⊢
    have HW := R1.1.cell (i := t) (by omega)
    have FW := R1.1.frozen t
    simp only [if_true] at HW
    refine wp_region_quiet_tail 13 (by kernel_rfl) (by kernel_rfl) ?_
    simp only [List.take_succ_cons, List.take_zero, List.drop_succ_cons, List.drop_zero]
    repeat (go_big_quiet_step ((go_at_call 213; refine quiet_more (turned_any _ _ (by omega) (by omega) _))))
    refine wpQuiet_nil ?_
    rintro _ ⟨nq2, rfl⟩
    go_wp2
    have R2 := (R1.drewN nq2).set t ((wsv B t (t - 16) + wsv B t (t - 7) + bits BinOp.xor IntKind.u32 (bits BinOp.xor IntKind.u32 (tu (wsv B t (t - 15)) 7) (tu (wsv B t (t - 15)) 18)) (wsv B t (t - 15) / 8)) % 4294967296)
    generalize (wx.drewN nq2).setCell ⟨w.heap.size + 1 + 1 + 1, t, none⟩ _ = wy at R2 ⊢
    have HW2 := R2.1.cell (i := t) (by omega)
    have FW2 := R2.1.frozen t
    simp only [if_true] at HW2
    clear HW FW R1
    refine wp_region_quiet_tail 13 (by kernel_rfl) (by kernel_rfl) ?_
    simp only [List.take_succ_cons, List.take_zero, List.drop_succ_cons, List.drop_zero]
    repeat (go_big_quiet_step ((go_at_call 213; refine quiet_more (turned_any _ _ (by omega) (by omega) _))))
    refine wpQuiet_nil ?_
    rintro _ ⟨nq3, rfl⟩
    go_wp2
    go_roundw
    case rel =>
     refine ⟨t + 1, by omega, by go_num, ((R2.drewN nq3).set t _).congr fun j => ?_⟩
     rw [wsv_succ_ge B t j (by omega)]
     by_cases hj : j = t
     ·simp [hj, nextW]
     ·simp [hj]
    case measure => simp [intOf]; omega
  ·obtain rfl : t = 64 := by omega
   have gk := blk_of_row hr.2.1
   go_wp2_with ((with_reducible show wpList _ _ _ (⟨some _, Op.load 254 _, _, _, _, _⟩ :: _) _ _); refine wpList_load_whole rfl 254 _ rfl _ rfl gk Tryz.underlying254 rfl (by kernel_rfl) ?_)
   have R0 := hr.next [Value.int .u32 (S 0), Value.int .u32 (S 1), Value.int .u32 (S 2), Value.int .u32 (S 3), Value.int .u32 (S 4), Value.int .u32 (S 5), Value.int .u32 (S 6), Value.int .u32 (S 7)]
   generalize wr.alloc _ = wa at R0 ⊢
   have HN : w.heap.size + 3 < wr.heap.size := R0.2.2.2.2.2.1
   generalize wr.heap.size = M at *
   clear gk hr
   go_loopw [11, 12, 13, 14, 15, 16, 17, 18, 19, 91] (fun _ _ _ _ _ _ _ _ _ i wx => ∃ t : Nat, t ≤ 64 ∧ i = .int .i64 t ∧ Rel2 S (wsv B 64) w.heap.size M ((csL (wsv B 64) S t).map (Value.int .u32)) w wx) (fun _ _ _ _ _ _ _ _ _ i _ => 64 - (intOf i).toNat)
   case atStart => exact ⟨0, by omega, rfl, R0⟩
   case round =>
    clear R0
    obtain ⟨t, ht, rfl, hr⟩ := hrel
    by_cases hlt : t < 64
    ·have hrr := hr
     obtain ⟨h1, h2, h3, h4, h5, h6, h7⟩ := hr
     have hbw := h7
     obtain ⟨s0, s1, s2, s3, s4, s5, s6, s7, hl⟩ := csL_eight (wsv B 64) S t
     have hs : csL (wsv B 64) S (t + 1) = stL (csL (wsv B 64) S t) (K.getD t 0) (wsv B 64 t) := rfl
     rw [hl] at h4 hs hrr
     have g0 := h4.cell 0
     have g1 := h4.cell 1
     have g2 := h4.cell 2
     have g3 := h4.cell 3
     have g4 := h4.cell 4
     have g5 := h4.cell 5
     have g6 := h4.cell 6
     have g7 := h4.cell 7
     simp only [List.map_cons, List.map_nil, List.getElem?_cons_zero, List.getElem?_cons_succ] at g0 g1 g2 g3 g4 g5 g6 g7
     have gw := h1.cell (i := t) (by omega)
     have gk : wr.cell? ⟨3, t, none⟩ = some (.int .u32 (K.getD t 0)) := (hbw.cell (by show 3 < w.heap.size; omega)).trans (HK.out t hlt)
     have Hs := Lib.hid hs
     have Hrr := Lib.hid hrr
     have H4 := Lib.hid h4
     clear hl hs hrr h1 h2 h3 h4 h5 h7 hbw
     generalize K.getD t 0 = kt at *
     generalize wsv B 64 t = wt at *
     go_wp2
     go_quiet (fail)
     go_wp2
     go_quiet (fail)
     go_wp2_with fail
     generalize (s7 + kt + wt) % 4294967296 = o1
     refine (turned_any _ _ (by omega) (by omega) _).mono ?_; rintro e w' ⟨rfl, k, rfl⟩
     have E1 := Lib.hid (rfl : tu s4 6 = tu s4 6)
     go_wp2_with fail
     refine (turned_any _ _ (by omega) (by omega) _).mono ?_; rintro e w' ⟨rfl, k2, rfl⟩
     go_wp2_with fail
     refine (turned_any _ _ (by omega) (by omega) _).mono ?_; rintro e w' ⟨rfl, k3, rfl⟩
     go_wp2_with fail
     refine (turned_any _ _ (by omega) (by omega) _).mono ?_; rintro e w' ⟨rfl, k4, rfl⟩
     go_wp2_with fail
     refine (turned_any _ _ (by omega) (by omega) _).mono ?_; rintro e w' ⟨rfl, k5, rfl⟩
     go_wp2_with fail
     refine (turned_any _ _ (by omega) (by omega) _).mono ?_; rintro e w' ⟨rfl, k6, rfl⟩
     clear g0 g1 g2 g4 g5 g6 g7 gw gk
     go_wp2_with ((with_reducible show wpList _ _ _ (⟨none, Op.store 254 _ _, _, _, _, _⟩ :: _) _ _); refine wpList_store_whole rfl 254 _ _ rfl [_, _, _, _, _, _, _, _] rfl rfl (H4.out.drewN _) (by simp) ?hi (by simp [Value.oneCell']) ?_)
     case hi => kernel_rfl
     go_roundw
     case rel =>
      refine ⟨t + 1, by omega, by go_num, ?_⟩
      rw [Hs.out]
      exact (Hrr.out.drewN _).setRow ((stL [s0, s1, s2, s3, s4, s5, s6, s7] kt wt).map (Value.int .u32))
     case measure => simp [intOf]; omega
    ·obtain rfl : t = 64 := by omega
     obtain ⟨s0, s1, s2, s3, s4, s5, s6, s7, hl⟩ := csL_eight (wsv B 64) S 64
     have hr3 : Rel2 S (wsv B 64) w.heap.size M (sums (csL (wsv B 64) S 64) S 0) w wr := by
      rw [hl, sums_zero]
      rw [hl] at hr
      exact hr
     clear hr hl
     go_wp2
     go_loopw [20, 172] (fun _ i wx => ∃ t : Nat, t ≤ 8 ∧ i = .int .i64 t ∧ Rel2 S (wsv B 64) w.heap.size M (sums (csL (wsv B 64) S 64) S t) w wx) (fun _ i _ => 8 - (intOf i).toNat)
     case atStart => exact ⟨0, by omega, rfl, hr3⟩
     case round =>
      clear hr3
      obtain ⟨t, ht, rfl, hr⟩ := hrel
      by_cases hlt : t < 8
      ·have g1 : wr.cell? ⟨M, t, none⟩ = some (.int .u32 ((csL (wsv B 64) S 64).getD t 0)) := by
        rw [hr.2.2.2.1.cell t]; simp [sums, hlt]
       have f1 := hr.2.2.2.1.frozen t
       have g2 := hr.2.1.cell (i := t) hlt
       generalize hq : (csL (wsv B 64) S 64).getD t 0 = q at g1
       have Hq := Lib.hid hq
       clear hq
       go_wp2
       go_region
       go_wp2
       go_roundw
       case rel =>
        refine ⟨t + 1, by omega, by go_num, ?_⟩
        rw [← sums_set, Hq.out]
        exact (hr.set t _).drewN 1
       case measure => simp [intOf]; omega
      ·obtain rfl : t = 8 := by omega
       have hs8 : sums (csL (wsv B 64) S 64) S 8 = wl (round S B) := by
        unfold sums wl round
        refine List.map_congr_left fun i hi => ?_
        rw [if_pos (List.mem_range.1 hi)]
       rw [hs8] at hr
       obtain ⟨out, hout⟩ : ∃ out, out = wl (round S B) := ⟨_, rfl⟩
       rw [← hout] at hr
       have hlen : out.length = 8 := by rw [hout]; simp [wl]
       have hone : ∀ v ∈ out, v.oneCell' = true := by rw [hout]; intro v hv; obtain ⟨i, _, rfl⟩ := List.mem_map.1 hv; rfl
       have hout' : out = [out.getD 0 undef, out.getD 1 undef, out.getD 2 undef, out.getD 3 undef, out.getD 4 undef, out.getD 5 undef, out.getD 6 undef, out.getD 7 undef] := by
        match out, hlen with | [_, _, _, _, _, _, _, _], _ => rfl
       have hi8 : (Tryz.prog.info? 254).map (·.size) = some out.length := by rw [hlen]; kernel_rfl
       have gz := blk_of_row hr.2.2.1
       have H1 := Lib.hid hlen
       have H0 := Lib.hid hout
       have H2 := Lib.hid hone
       have H3 := Lib.hid hi8
       clear hs8 hout hlen hone hout' hi8
       go_wp2_with (first | ((with_reducible show wpList _ _ _ (⟨some _, Op.load 254 _, _, _, _, _⟩ :: _) _ _); refine wpList_load_whole rfl 254 _ rfl _ rfl hr.2.2.2.1 Tryz.underlying254 rfl H3.out ?_) | ((with_reducible show wpList _ _ _ (⟨none, Op.store 254 _ _, _, _, _, _⟩ :: _) _ _); refine wpList_store_whole rfl 254 _ _ rfl out rfl rfl gz (by rw [H1.out]; simp) H3.out H2.out ?_))
       refine bodyPost_ret (results_blk rfl _ _ rfl (gz.setRow _) Tryz.underlying254 rfl H3.out) rfl ⟨by rw [H0.out], ?_⟩
       exact Below.setRow hr.2.2.2.2.2.2 (by omega) _
end Go.Proofs.YtplleficmkfniaaGreatDoor
namespace Go.Proofs.YtplleficmkfniaaGreatDoor
open Go Go.RowKit Go.Sha Go.Aff
def Glob (w : World) : Prop := (∀ t, t < 64 → w.cell? ⟨3, t, none⟩ = some (.int .u32 (K.getD t 0))) ∧ (∀ i, i < 8 → w.cell? ⟨1, i, none⟩ = some (.int .u32 (first i)))
theorem Glob.lt {w : World} (h : Glob w) : (max 3 1 + 1) ≤ w.heap.size := by
 have h0 := World.block_lt_of_cell? w _ (h.1 0 (by omega))
 have h1 := World.block_lt_of_cell? w _ (h.2 0 (by omega))
 dsimp only at h0 h1
 omega
theorem Glob.keep {F : Nat → Prop} {w w' : World} (h : Glob w) (hk : Keeps F w w') (hF : ∀ i, F i → (max 3 1 + 1) ≤ i) : Glob w' := by
 have h2 := h.lt
 refine ⟨fun t ht => (hk.cell (p := ⟨3, t, none⟩) ?_ (fun hf => ?_)).trans (h.1 t ht), fun i hi => (hk.cell (p := ⟨1, i, none⟩) ?_ (fun hf => ?_)).trans (h.2 i hi)⟩
 ·show 3 < w.heap.size; omega
 ·have := hF _ hf; dsimp only at this; omega
 ·show 1 < w.heap.size; omega
 ·have := hF _ hf; dsimp only at this; omega
def hcells (S : Nat → Int) (nb : Int) (v : Value) : List Value := wl S ++ [.int .u64 nb, v]
theorem sh_new_any (w : World) (hG : Glob w) :
  Calls Tryz.prog 131 #[] w fun e w' => e = .returned (.pointer (some ⟨w.heap.size, 0, none⟩)) ∧ w' = w.alloc (.cells (hcells first 0 (.slice none 0 0)).toArray 311) := by
 have g0 := hG.2 0 (by omega)
 have g1 := hG.2 1 (by omega)
 have g2 := hG.2 2 (by omega)
 have g3 := hG.2 3 (by omega)
 have g4 := hG.2 4 (by omega)
 have g5 := hG.2 5 (by omega)
 have g6 := hG.2 6 (by omega)
 have g7 := hG.2 7 (by omega)
 clear hG
 go_enter Tryz.func131, Tryz.ntmps131
 go_wp2
 go_ret
 exact ⟨rfl, rfl⟩
theorem sh_len_any (w : World) (p : Nat) (S : Nat → Int) (nb : Int) (A : Option Addr) (n c : Nat) (hb : Blk w p 311 (hcells S nb (.slice A n c))) (h0 : 0 ≤ nb) (h1 : 64 * nb + n < 2305843009213693952) (hn : n < 64) :
  Calls Tryz.prog 183 #[.pointer (some ⟨p, 0, none⟩)] w fun e w' => e = .returned (.int .u64 (64 * nb + n)) ∧ ∃ k, w' = w.drewN k := by
 have c8 : w.cell? ⟨p, 8, none⟩ = some (.int .u64 nb) := by rw [hb.cell]; rfl
 have c9 : w.cell? ⟨p, 9, none⟩ = some (.slice A n c) := by rw [hb.cell]; rfl
 clear hb
 go_enter Tryz.func183, Tryz.ntmps183
 go_wp2
 go_quiet (fail)
 go_wp2
 go_ret
 exact ⟨by simp, _, rfl⟩
theorem info5 : (Tryz.prog.info? 5).map (fun i => (i.zero, i.size, i.bytes)) = some (some (.int .u8 0), 1, 1) := by kernel_rfl
theorem vb_one (bs : List Int) : ∀ u ∈ vb bs, u.oneCell' = true := by intro u hu; obtain ⟨x, _, rfl⟩ := List.mem_map.1 hu; rfl
def NewBytes (w : World) (bs : List Int) (e : Ending) (w' : World) : Prop :=
 ∃ A c, e = .returned (.slice A bs.length c) ∧ w'.ownsRow 0 5 1 (.slice A bs.length c) bs.length (vb bs) ∧ Keeps (fun _ => False) w w' ∧ ∀ g, (Value.slice A bs.length c).ownBlock = some g → w.heap.size ≤ g
theorem clone_any (w : World) (A : Option Addr) (c : Nat) (bs : List Int) (hr : Rd w A bs.length (vb bs)) (hn : bs.length ≤ 140737488355328) :
  Calls Tryz.prog 65 #[.slice A bs.length c] w (NewBytes w bs) := by
 have HR := Lib.hid hr
 clear hr
 rcases A with _ | ad
 ·have h0 : bs = [] := by
   rcases bs with _ | ⟨x, bs⟩
   ·rfl
   ·obtain ⟨g, o, e, _⟩ := HR.out.2 (by simp)
    cases e
  subst h0
  have hnil := fun wx => Lib.run_eql_slice_nil (P := Tryz.prog) wx 48 5 none 0 c 0 0 Tryz.underlying48
  go_enter Tryz.func65, Tryz.ntmps65
  go_wp2
  go_ret
  exact ⟨none, 0, rfl, World.ownsRow_nil _ _ _ _, Keeps.refl _ _, fun g e => by cases e⟩
 ·obtain ⟨n, hbn⟩ : ∃ n, n = bs.length := ⟨_, rfl⟩
  have HN := Lib.hid hbn
  have hnil := fun wx => Lib.run_eql_slice_nil (P := Tryz.prog) wx 48 5 (some ad) n c 0 0 Tryz.underlying48
  rw [← hbn] at hn ⊢
  clear hbn
  have hr1 : Rd (w.alloc (.cells #[] 5)) (some ad) n (vb bs) := by rw [HN.out]; exact HR.out.alloc _
  have ho1 : (w.alloc (.cells #[] 5)).ownsRow 0 5 1 (.slice (some ⟨w.heap.size, 0, none⟩) 0 0) 0 [] := World.ownsRow_made w #[] 0 (by omega) (by unfold maxLen; omega) rfl
  have HR1 := Lib.hid hr1
  have HO1 := Lib.hid ho1
  clear hr1 ho1
  go_enter Tryz.func65, Tryz.ntmps65
  go_wp2_with (at_builtin; refine wpList_append_rd _ rfl (.tmp 5) (.tmp 6) 48 rfl 5 (.int .u8 0) 1 Tryz.underlying48 info5 rfl _ 0 [] rfl HO1.out (some ad) n c (vb bs) rfl HR1.out (vb_one bs) (by unfold maxLen; omega) (by omega) ?_; intro A' c' w' hown hg hb)
  go_ret
  simp only [Nat.zero_add, List.nil_append] at hown hb
  have hv : (Value.slice A' n c').ownBlock = some w.heap.size ∨ (Value.slice A' n c').ownBlock = some (w.alloc (Obj.cells #[] 5)).heap.size := hb
  refine ⟨A', c', by rw [← HN.out]; simp, by rw [← HN.out]; exact hown, ?_, ?_⟩
  ·exact ((Keeps.refl _ _).alloc _).grown hg (fun g e => .inr (by have e' : some w.heap.size = some g := e; injection e' with e'; omega))
  ·intro g hg'
   rw [← HN.out] at hg'
   rcases hv with hv | hv
   ·rw [hv] at hg'; injection hg' with e; omega
   ·rw [hv] at hg'; injection hg' with e; simp at e; omega
end Go.Proofs.YtplleficmkfniaaGreatDoor
namespace Go.Sha
def padLen (n : Nat) : Nat := 9 + (119 - n % 64) % 64
def tailB (n : Nat) : Nat → List Int
 | 0 => []
 | k + 1 => (8 * (n : Int) / 2 ^ (8 * k) % 256) :: tailB n k
def padK (n k : Nat) : List Int := 128 :: (List.replicate (padLen n - 1 - k) 0 ++ tailB n k)
def padF (n : Nat) : List Int := padK n 8
theorem tailB_length (n k : Nat) : (tailB n k).length = k := by induction k <;> simp_all [tailB]
theorem padLen_ge (n : Nat) : 9 ≤ padLen n ∧ padLen n ≤ 72 := by unfold padLen; omega
theorem padLen_whole (n : Nat) : (n + padLen n) % 64 = 0 := by unfold padLen; omega
theorem padK_length (n k : Nat) (hk : k ≤ 8) : (padK n k).length = padLen n := by
 have := padLen_ge n
 simp [padK, tailB_length]; omega
theorem padK_set (n k : Nat) (hk : k < 8) : (padK n k).set (padLen n - 1 - k) (8 * (n : Int) / 2 ^ (8 * k) % 256) = padK n (k + 1) := by
 have h := padLen_ge n
 have e1 : padLen n - 1 - k = (padLen n - 1 - (k + 1)) + 1 := by omega
 unfold padK
 rw [e1, List.set_cons_succ, List.replicate_succ', List.append_assoc, List.set_append_right _ _ (by simp)]
 simp [tailB]
theorem tailB_bytes (n k : Nat) : Go.Aff.IsBytes (tailB n k) := by
 induction k with
 | zero => intro x hx; cases hx
 | succ k ih =>
  intro x hx
  rcases List.mem_cons.1 hx with rfl | hx
  ·omega
  ·exact ih x hx
theorem padF_bytes (n : Nat) : Go.Aff.IsBytes (padF n) := by
 intro x hx
 rcases List.mem_cons.1 hx with rfl | hx
 ·omega
 ·rcases List.mem_append.1 hx with hx | hx
  ·rw [List.eq_of_mem_replicate hx]; omega
  ·exact tailB_bytes n 8 x hx
end Go.Sha
namespace Go.Proofs.YtplleficmkfniaaGreatDoor
open Go Go.RowKit Go.Sha Go.Aff
theorem pad_start (n : Nat) : (madeCells #[Value.int .u8 0] (padLen n)).setIfInBounds 0 (.int .u8 128) = (vb (padK n 0)).toArray := by
 have h := padLen_ge n
 have e : madeCells #[Value.int .u8 0] (padLen n) = (List.replicate (padLen n) (Value.int .u8 0)).toArray := by
  rw [← toList_madeCells_one]
 rw [e]
 obtain ⟨m, hm⟩ : ∃ m, padLen n = m + 1 := ⟨padLen n - 1, by omega⟩
 simp [padK, tailB, vb, hm, List.replicate_succ]
theorem pad_any (w : World) (n : Nat) (hn : n < 2305843009213693952) :
  Calls Tryz.prog 182 #[.int .u64 n] w fun e w' => e = .returned (.slice (some ⟨w.heap.size, 0, none⟩) (padLen n) (padLen n)) ∧ Blk w' w.heap.size 5 (vb (padF n)) ∧ Keeps (fun _ => False) w w' := by
 have hL := padLen_ge n
 have hcast : (9 : Int) + (119 - (n : Int)) % 64 = ((padLen n : Nat) : Int) := by unfold padLen; omega
 have hmk := fun W : World => run_make_row' (P := Tryz.prog) 48 5 (.int .u8 0) 1 Tryz.underlying48 info5 rfl .u64 .u64 (padLen n) (by omega) (by omega) W
 have hm0 : (madeCells #[Value.int .u8 0] (padLen n))[0]? = some (.int .u8 0) := by
  rw [← Array.getElem?_toList, toList_madeCells_one, List.getElem?_replicate, if_pos (by omega)]
 have hst : Blk (w.alloc (.cells ((madeCells #[Value.int .u8 0] (padLen n)).setIfInBounds 0 (.int .u8 128)) 5)) w.heap.size 5 (vb (padK n 0)) := by
  rw [pad_start]; exact Blk.new _ _ _
 have HST := Lib.hid hst
 clear hst
 have H8 : 8 < padLen n := by omega
 go_enter Tryz.func182, Tryz.ntmps182
 go_wp2
 go_loopw [4, 13] (fun _ i wr => ∃ k : Nat, k ≤ 8 ∧ i = .int .i64 k ∧ Blk wr w.heap.size 5 (vb (padK n k)) ∧ Keeps (fun _ => False) w wr) (fun _ i _ => 8 - (intOf i).toNat)
 case atStart => exact ⟨0, by omega, rfl, HST.out, (Keeps.refl _ _).alloc _⟩
 case round =>
  clear hmk hm0 HST hcast
  obtain ⟨k, hk, rfl, hb, hkeep⟩ := hrel
  by_cases hlt : k < 8
  ·have hlen : (vb (padK n k)).length = padLen n := by simp [vb, padK_length n k (by omega)]
   have hcell : ∃ u, wr.cell? ⟨w.heap.size, padLen n - 1 - k, none⟩ = some u := by
    rw [hb.cell]
    exact ⟨_, List.getElem?_eq_getElem (by rw [hlen]; omega)⟩
   obtain ⟨u, hcell⟩ := hcell
   have hf := hb.frozen (padLen n - 1 - k)
   have hi : ((padLen n : Int) - 1 - (k : Int)).toNat = padLen n - 1 - k := by omega
   have HB := Lib.hid hb
   have HKp := Lib.hid hkeep
   clear hb hkeep hlen
   go_wp2
   go_roundw
   case rel =>
    refine ⟨k + 1, by omega, by go_num, ?_, HKp.out.setCell (.inr (Nat.le_refl _)) _⟩
    have h := HB.out.set_ (padLen n - 1 - k) (.int .u8 (8 * (n : Int) / 2 ^ (8 * k) % 256))
    have e : (vb (padK n k)).set (padLen n - 1 - k) (.int .u8 (8 * (n : Int) / 2 ^ (8 * k) % 256)) = vb (padK n (k + 1)) := by
     unfold vb
     rw [← padK_set n k hlt, List.map_set]
    rwa [e] at h
   case measure => simp [intOf]; omega
  ·obtain rfl : k = 8 := by omega
   have HB := Lib.hid hb
   have HKp := Lib.hid hkeep
   clear hb hkeep
   go_wp2
   go_ret
   exact ⟨rfl, HB.out, HKp.out⟩
def HashAt (w : World) (p : Nat) (v : Value) (S : Nat → Int) (nb : Nat) (X : List Int) : Prop :=
 Blk w p 311 (hcells (stN S X (X.length / 64)) ((nb + X.length / 64 : Nat) : Int) v) ∧ w.ownsRow 0 5 1 v (X.length % 64) (vb (X.drop (64 * (X.length / 64)))) ∧ IsBytes X
def Foot (p : Nat) (v : Value) (i : Nat) : Prop := i = p ∨ v.ownBlock = some i
theorem HashAt.keep {F : Nat → Prop} {w w' : World} {p : Nat} {v : Value} {S : Nat → Int} {nb : Nat} {X : List Int} (h : HashAt w p v S nb X) (hk : Keeps F w w') (hF : ∀ i, Foot p v i → ¬ F i) : HashAt w' p v S nb X :=
 ⟨hk.blk h.1 (hF p (.inl rfl)), hk.own h.2.1 (fun g hg => hF g (.inr hg)), h.2.2⟩
theorem HashAt.lt {w : World} {p : Nat} {v : Value} {S : Nat → Int} {nb : Nat} {X : List Int} (h : HashAt w p v S nb X) : ∀ i, Foot p v i → i < w.heap.size := by
 intro i hi
 rcases hi with rfl | hi
 ·exact h.1.lt
 ·exact (h.2.1.lt i hi).2
theorem HashAt.apart {w : World} {p : Nat} {v : Value} {S : Nat → Int} {nb : Nat} {X : List Int} (h : HashAt w p v S nb X) : v.ownBlock ≠ some p := by
 intro he
 rcases h.2.1.2 with ⟨rfl, _⟩ | ⟨g, cap, cur, rfl, _, hh, _⟩
 ·cases he
 ·have e : g = p := by have e' : some g = some p := he; injection e'
  subst e
  have hb := h.1
  unfold Blk at hb
  rw [hb] at hh
  injection hh with hh
  injection hh with _ ht
  exact absurd ht (by decide)
theorem rest_length (X : List Int) : (X.drop (64 * (X.length / 64))).length = X.length % 64 := by rw [List.length_drop]; omega
def Copied (w : World) (S : Nat → Int) (nb : Nat) (X : List Int) (e : Ending) (w' : World) : Prop :=
 ∃ q u, e = .returned (.pointer (some ⟨q, 0, none⟩)) ∧ HashAt w' q u S nb X ∧ Keeps (fun _ => False) w w' ∧ ∀ i, Foot q u i → w.heap.size ≤ i
theorem sh_copy_any (w : World) (p : Nat) (v : Value) (S : Nat → Int) (nb : Nat) (X : List Int) (h : HashAt w p v S nb X) :
  Calls Tryz.prog 181 #[.pointer (some ⟨p, 0, none⟩)] w (Copied w S nb X) := by
 obtain ⟨hb, ho, hx⟩ := h
 obtain ⟨A, c, rfl⟩ := own_shape ho
 obtain ⟨st, hst⟩ : ∃ st, st = stN S X (X.length / 64) := ⟨_, rfl⟩
 obtain ⟨m, hm⟩ : ∃ m : Nat, m = nb + X.length / 64 := ⟨_, rfl⟩
 rw [← hst, ← hm] at hb
 have hlen := rest_length X
 have hr : Rd w A (X.drop (64 * (X.length / 64))).length (vb (X.drop (64 * (X.length / 64)))) := by rw [hlen]; exact Rd.of_own ho
 have hl64 : X.length % 64 ≤ 140737488355328 := by omega
 have HS : Hid (∀ W, Keeps (fun _ => False) w W → W.cell? ⟨p, 0, none⟩ = some (.int .u32 (st 0)) ∧ W.cell? ⟨p, 1, none⟩ = some (.int .u32 (st 1)) ∧ W.cell? ⟨p, 2, none⟩ = some (.int .u32 (st 2)) ∧ W.cell? ⟨p, 3, none⟩ = some (.int .u32 (st 3)) ∧ W.cell? ⟨p, 4, none⟩ = some (.int .u32 (st 4)) ∧ W.cell? ⟨p, 5, none⟩ = some (.int .u32 (st 5)) ∧ W.cell? ⟨p, 6, none⟩ = some (.int .u32 (st 6)) ∧ W.cell? ⟨p, 7, none⟩ = some (.int .u32 (st 7)) ∧ W.cell? ⟨p, 8, none⟩ = some (.int .u64 m) ∧ W.cell? ⟨p, 9, none⟩ = some (.slice A (X.length % 64) c)) := by
  intro W hk
  have hbW := hk.blk hb (fun h => h)
  refine ⟨?_, ?_, ?_, ?_, ?_, ?_, ?_, ?_, ?_, ?_⟩ <;> (rw [hbW.cell]; rfl)
 have HC : Hid (∀ W, Keeps (fun _ => False) w W → Calls Tryz.prog 65 #[.slice A (X.length % 64) c] W fun e w' => ∃ A' c', e = .returned (.slice A' (X.length % 64) c') ∧ w'.ownsRow 0 5 1 (.slice A' (X.length % 64) c') (X.length % 64) (vb (X.drop (64 * (X.length / 64)))) ∧ Keeps (fun _ => False) W w' ∧ ∀ g, (Value.slice A' (X.length % 64) c').ownBlock = some g → W.heap.size ≤ g) := by
  intro W hk
  have := clone_any W A c (X.drop (64 * (X.length / 64))) (hr.keep hk (fun _ _ _ h => h)) (by omega)
  rw [hlen] at this
  exact this.mono fun e w' ⟨A', c', he, ho, hk, hn⟩ => ⟨A', c', by rw [he, hlen], by rw [hlen] at ho; exact ho, hk, by rw [hlen] at hn; exact hn⟩
 have HX := Lib.hid hx
 have HST := Lib.hid hst
 have HM := Lib.hid hm
 clear hb ho hst hm hlen hr hx
 obtain ⟨r, hr⟩ : ∃ r, r = X.length % 64 := ⟨_, rfl⟩
 rw [← hr] at HS HC
 have HR := Lib.hid hr
 clear hr
 go_enter Tryz.func181, Tryz.ntmps181
 go_wp2
 go_region_held3 (fun w' => w'.cell? ⟨p, 0, none⟩ = some (.int .u32 (st 0)) ∧ w'.cell? ⟨p, 1, none⟩ = some (.int .u32 (st 1)) ∧ w'.cell? ⟨p, 2, none⟩ = some (.int .u32 (st 2)) ∧ w'.cell? ⟨p, 3, none⟩ = some (.int .u32 (st 3)) ∧ w'.cell? ⟨p, 4, none⟩ = some (.int .u32 (st 4)) ∧ w'.cell? ⟨p, 5, none⟩ = some (.int .u32 (st 5)) ∧ w'.cell? ⟨p, 6, none⟩ = some (.int .u32 (st 6)) ∧ w'.cell? ⟨p, 7, none⟩ = some (.int .u32 (st 7)) ∧ w'.cell? ⟨p, 8, none⟩ = some (.int .u64 m) ∧ w'.cell? ⟨p, 9, none⟩ = some (.slice A r c))
  (first | exact HS.out _ ((Keeps.refl _ _).drew) | exact HS.out _ (by assumption) | exact HS.out _ (Keeps.alloc (by assumption) _))
  (first | (go_at_call 65; refine (HC.out _ ((Keeps.refl _ _).drew)).mono ?_; rintro e w' ⟨A', c', rfl, hown, hk, hnew⟩; have hk2 := ((Keeps.refl (fun _ => False) w).drew).trans hk (fun _ _ h => h)))
 go_wp2
 go_ret
 refine ⟨w'.heap.size, .slice A' r c', rfl, ⟨?_, ?_, HX.out⟩, hk2.alloc _, ?_⟩
 ·rw [← HST.out, ← HM.out]
  exact Blk.new w' _ (hcells st m _)
 ·rw [← HR.out]
  exact Keeps.own ((Keeps.refl (fun _ => False) _).alloc _) hown (fun _ _ h => h)
 ·intro i hi
  rcases hi with rfl | hi
  ·exact hk2.size
  ·exact hnew i hi
end Go.Proofs.YtplleficmkfniaaGreatDoor
