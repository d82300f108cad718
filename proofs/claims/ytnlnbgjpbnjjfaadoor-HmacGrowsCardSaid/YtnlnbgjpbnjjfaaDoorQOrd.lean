/-
  A region that draws its order, in three stages: 'pre': operations that yield the same in every world (they may come up at any time: they are taken first); 'mid': operations and callees that only read (they may draw), each of them waited for by what follows; 'post': operations in one forced order. One walk serves all orders.
-/
import Derived.StillTail
import Derived.Deep.Quiet
import Derived.BigQuiet
namespace Go
section
variable {P : Program} {ops : Array Oper} {md : Region.Mode} {C : World → Prop}

/-- An operation that, if it goes well, yields a value. -/
def Oper.plainB (o : Oper) : Bool :=
  o.guard.isNone && match o.op with
  | .move _ | .assign _ | .binOp .. | .unOp .. | .convert .. | .makeInterface .. | .slice .. | .fieldAddr .. | .field .. | .indexAddr .. | .index .. | .extract .. | .sliceToArrayPointer .. | .nilCheck _ => true
  | _ => false

theorem run_told {s : Sem Value} {w w' : World} {n : Next} (h : (do pure (Next.value (← s)) : Sem Next).run P w = .ok n w') : ∃ u, n = .value u := by
  rw [Sem.run_bind] at h
  cases hs : s.run P w with
  | ok v w1 => rw [hs] at h; simp only [Result.andThen_ok, Sem.run_pure] at h; injection h with h1; exact ⟨v, h1.symm⟩
  | halt x w1 => rw [hs] at h; cases h

theorem plain_value {o : Oper} (h : o.plainB = true) {ρ : Operand → Value} {w w' : World} {n : Next} (hr : (execOp ρ o).run P w = .ok n w') : (∃ u, n = .value u) ∨ ∃ x, o.op = .nilCheck x := by
  obtain ⟨dst, op, type, pos, after, guard⟩ := o
  unfold Oper.plainB at h
  simp only [Bool.and_eq_true] at h
  have h2 := h.2
  cases op <;> simp only [Bool.false_eq_true] at h2 <;> simp only [execOp] at hr
  case move x => rw [Sem.run_pure] at hr; injection hr with h1; exact .inl ⟨_, h1.symm⟩
  case assign x => rw [Sem.run_pure] at hr; injection hr with h1; exact .inl ⟨_, h1.symm⟩
  case nilCheck x => exact .inr ⟨x, rfl⟩
  all_goals exact .inl (run_told hr)

theorem nilCheck_value {ρ : Operand → Value} {o : Oper} {x : Operand} (ho : o.op = .nilCheck x) {w w' : World} {n : Next} (hr : (execOp ρ o).run P w = .ok n w') : ∃ u, n = .value u := by
  unfold execOp at hr
  rw [ho] at hr
  dsimp only at hr
  split at hr
  · cases hr
  · cases hr
  · cases hr
  · split at hr
    · cases hr
    · rw [Sem.run_bind] at hr
      generalize Sem.run P program w = r1 at hr
      cases r1 with
      | halt _ _ => cases hr
      | ok p w1 =>
        simp only [Result.andThen_ok] at hr
        rw [Sem.run_bind] at hr
        generalize Sem.run P (nilAhead _ _ _ _) w1 = r2 at hr
        cases r2 with
        | halt _ _ => cases hr
        | ok q w2 =>
          simp only [Result.andThen_ok] at hr
          split at hr
          · cases hr
          · rw [Sem.run_pure] at hr; injection hr with h1; exact ⟨_, h1.symm⟩
    · rw [Sem.run_pure] at hr; injection hr with h1; exact ⟨_, h1.symm⟩
  · rw [Sem.run_pure] at hr; injection hr with h1; exact ⟨_, h1.symm⟩

/-- The operations at these places. -/
def pickOps (l : List Oper) (is : List Nat) : List Oper := is.filterMap (l[·]?)

def preDone (is : List Nat) (done : Array Bool) : Array Bool := is.foldl (fun d i => d.setIfInBounds i true) done
def preB (md : Region.Mode) (ops : Array Oper) : List Nat → Array Bool → Bool
  | [], _ => true
  | i :: is, done => (Region.ready md ops done).contains i && Region.free md ops done i && ((ops[i]?).map (·.plainB)).getD false && preB md ops is (done.setIfInBounds i true)
def postB (md : Region.Mode) (ops : Array Oper) : List Nat → Array Bool → Bool
  | [], done => (Region.ready md ops done).isEmpty
  | i :: is, done => decide (Region.ready md ops done = [i]) && postB md ops is (done.setIfInBounds i true)
def midB (md : Region.Mode) (ops : Array Oper) (post : List Nat) : List Nat → Array Bool → Bool
  | [], done => postB md ops post done
  | i :: is, done => (Region.ready md ops done).contains i && Region.free md ops done i && midB md ops post is (done.setIfInBounds i true)
def sinkL (md : Region.Mode) (ops : Array Oper) (c0 : Nat) : List Nat → Bool
  | [] => true
  | b :: bs => (Region.waitsFor md ops c0 b || bs.any fun b' => Region.waitsFor md ops b' b) && sinkL md ops c0 bs
def orderB (md : Region.Mode) (ops : Array Oper) (pre mid : List Nat) (c0 : Nat) (cs : List Nat) : Bool :=
  Region.noSelect ops && preB md ops pre (Array.replicate ops.size false) && decide (pre.length + (mid.length + (c0 :: cs).length) = ops.size)
    && (List.range ops.size).all (fun i => ((preDone pre (Array.replicate ops.size false)).getD i false) || mid.contains i || (c0 :: cs).contains i)
    && (c0 :: cs).all (fun t => !(preDone pre (Array.replicate ops.size false)).getD t true)
    && sinkL md ops c0 mid && cs.all (fun t => (c0 :: cs).any fun t' => Region.waitsFor md ops t t')
    && midB md ops (c0 :: cs) mid (preDone pre (Array.replicate ops.size false))

/-- What stays so while the middle comes up. -/
structure OrdInv (md : Region.Mode) (ops : Array Oper) (mid post : List Nat) (done : Array Bool) : Prop where
  size : done.size = ops.size
  closed : ∀ j oj, ops[j]? = some oj → done.getD j false = true → ∀ e ∈ oj.after, Region.binds md e = true → done.getD e.on false = true
  tail : ∀ t ∈ post, done.getD t true = false
  cover : ∀ i, i < ops.size → done.getD i true = false → i ∈ mid ∨ i ∈ post

theorem sinkL_waits {c0 : Nat} {mid post : List Nat} {done : Array Bool} (hc0 : c0 ∈ post) (inv : OrdInv md ops mid post done) : ∀ (bs : List Nat), sinkL md ops c0 bs = true → ∀ b ∈ bs, done.getD b true = false → c0 ∉ Region.ready md ops done
  | [], _, b, hb, _ => by cases hb
  | x :: bs, h, b, hb, hun => by
    simp only [sinkL, Bool.and_eq_true, Bool.or_eq_true] at h
    rcases List.mem_cons.1 hb with rfl | hb
    · rcases h.1 with h1 | h1
      · intro hr
        obtain ⟨_, o, ho, hall⟩ := mem_ready.1 hr
        obtain ⟨o', ho', e, he, hbd, hon⟩ := Region.waitsFor_spec h1
        have : o' = o := Option.some.inj (ho'.symm.trans ho)
        subst this
        have h2 := hall e he hbd
        rw [hon, getD_both hun] at h2
        cases h2
      · obtain ⟨b', hb', hw⟩ := List.any_eq_true.1 h1
        obtain ⟨o', ho', e, he, hbd, hon⟩ := Region.waitsFor_spec hw
        cases hl : done.getD b' false with
        | true =>
          have h2 := inv.closed b' o' ho' hl e he hbd
          rw [hon, getD_both hun] at h2
          cases h2
        | false =>
          have hlt : b' < done.size := by rw [inv.size]; exact (Array.getElem?_eq_some_iff.1 ho').1
          exact sinkL_waits hc0 inv bs h.2 b' hb' (getD_in hlt hl)
    · exact sinkL_waits hc0 inv bs h.2 b hb hun

theorem post_waits {mid cs : List Nat} {c0 : Nat} {done : Array Bool} (inv : OrdInv md ops mid (c0 :: cs) done) (hs : sinkL md ops c0 mid = true)
    (hc : (cs.all fun t => (c0 :: cs).any fun t' => Region.waitsFor md ops t t') = true) {b : Nat} (hb : b ∈ mid) (hun : done.getD b true = false) : ∀ t ∈ c0 :: cs, t ∉ Region.ready md ops done := by
  intro t ht
  rcases List.mem_cons.1 ht with rfl | ht
  · exact sinkL_waits (by simp) inv mid hs b hb hun
  · intro hr
    obtain ⟨t', ht', hw⟩ := List.any_eq_true.1 (List.all_eq_true.1 hc t ht)
    obtain ⟨_, o, ho, hall⟩ := mem_ready.1 hr
    obtain ⟨o', ho', e, he, hbd, hon⟩ := Region.waitsFor_spec hw
    have : o' = o := Option.some.inj (ho'.symm.trans ho)
    subst this
    have h2 := hall e he hbd
    rw [hon, getD_both (inv.tail t' ht')] at h2
    cases h2

/-- Whatever comes up for f operations more, it is one of the middle; then L. -/
def midAny (P : Program) (md : Region.Mode) (ops : Array Oper) (C : World → Prop) (mid : List Nat) (L : Array Bool → Act → Prop) : Nat → Array Bool → Act → Prop
  | 0, done, a => L done a
  | f + 1, done, a => Region.ready md ops done ≠ [] ∧ ∀ i ∈ Region.ready md ops done, i ∈ mid ∧ qOp P ops C i (midAny P md ops C mid L f (done.setIfInBounds i true)) a

theorem wpAny_of_midAny {mid : List Nat} {g : Nat} {L : Array Bool → Act → Prop} {Q' : Exit → Act → World → Prop} (hL : ∀ done a w, C w → L done a → wpAny P md ops Q' g done a w) (f : Nat) :
    ∀ (done : Array Bool) (a : Act) (w : World), C w → midAny P md ops C mid L f done a → wpAny P md ops Q' (f + g) done a w := by
  induction f with
  | zero => intro done a w hw h; rw [Nat.zero_add]; exact hL _ _ _ hw h
  | succ f ih =>
    intro done a w hw h
    have e : f + 1 + g = (f + g) + 1 := by omega
    rw [e]
    refine ⟨fun h0 => absurd h0 h.1, fun i hi => ?_⟩
    exact wpOp_of_qOp hw (fun a' w' hw' h' => ih _ a' w' hw' h') (h.2 i hi).2

theorem OrdInv.set {mid cs : List Nat} {c0 i : Nat} {done : Array Bool} (inv : OrdInv md ops mid (c0 :: cs) done) (hi : i ∈ Region.ready md ops done) (hn : ∀ t ∈ c0 :: cs, t ≠ i) : OrdInv md ops mid (c0 :: cs) (done.setIfInBounds i true) := by
  obtain ⟨_, oi, hoi, hall⟩ := mem_ready.1 hi
  refine ⟨by simp [inv.size], fun j oj hj hl e he hb => ?_, fun t ht => by rw [getD_set_ne true (Ne.symm (hn t ht))]; exact inv.tail t ht, fun k hk hun => ?_⟩
  · by_cases hij : i = j
    · subst hij
      have : oj = oi := Option.some.inj (hj.symm.trans hoi)
      subst this
      exact getD_set_true (hall e he hb)
    · rw [getD_set_ne false hij] at hl
      exact getD_set_true (inv.closed j oj hj hl e he hb)
  · refine inv.cover k hk ?_
    by_cases hik : i = k
    · subst hik; exact (mem_ready.1 hi).1
    · rwa [getD_set_ne true hik] at hun

theorem midAny_first {mid cs : List Nat} {c0 i : Nat} {oi : Oper} {v : Value} {L : Array Bool → Act → Prop} (hi : ops[i]? = some oi) (hsel : ∀ (j : Nat) (o : Oper) cs b, ops[j]? = some o → o.op ≠ .select cs b)
    (hs : sinkL md ops c0 mid = true) (hc : (cs.all fun t => (c0 :: cs).any fun t' => Region.waitsFor md ops t t') = true) (him : i ∈ mid)
    (hend : ∀ done a, L done a → ∀ j ∈ Region.ready md ops done, j ∈ c0 :: cs) (f : Nat) :
    ∀ (done : Array Bool) (a : Act), OrdInv md ops mid (c0 :: cs) done →
      (∀ j oj, ops[j]? = some oj → j ≠ i → done.getD j true = false → (∀ e ∈ oj.after, Region.binds md e = true → e.on ≠ i) → oi.apart ops oj = true) →
      i ∈ Region.ready md ops done → YieldsIn P ops C oi v a → midAny P md ops C mid L f (done.setIfInBounds i true) (a.put oi.dst v) → midAny P md ops C mid L (f + 1) done a := by
  induction f with
  | zero =>
    intro done a inv _ hr hy H
    have hun := (mem_ready.1 hr).1
    have hno := post_waits inv hs hc him hun
    refine ⟨fun h => absurd (h ▸ hr) (by simp), fun j hj => ?_⟩
    rcases Nat.decEq j i with hji | hji
    · exact absurd hj (hno j (hend _ _ H j (ready_mono hj hji)))
    · subst hji; exact ⟨him, hy.qOp hi H⟩
  | succ f ih =>
    intro done a inv hfree hr hy H
    have hun := (mem_ready.1 hr).1
    have hno := post_waits inv hs hc him hun
    refine ⟨fun h => absurd (h ▸ hr) (by simp), fun j hj => ?_⟩
    obtain ⟨hjun, oj, hoj, hall⟩ := mem_ready.1 hj
    have hjm : j ∈ mid := by
      rcases inv.cover j (Array.getElem?_eq_some_iff.1 hoj).1 hjun with h | h
      · exact h
      · exact absurd hj (hno j h)
    refine ⟨hjm, ?_⟩
    rcases Nat.decEq j i with hji | hji
    · have h1 := (H.2 j (ready_mono hj hji)).2
      have hnot : ∀ e ∈ oj.after, Region.binds md e = true → e.on ≠ i := by
        intro e he hb heq
        have h2 := hall e he hb
        rw [heq, getD_both hun] at h2
        exact absurd h2 (by simp)
      have h2 := qOp_put hoj (hfree j oj hoj hji hjun hnot) (fun cs b => hsel i oi cs b hi) (fun cs b => hsel j oj cs b hoj) hy h1
      refine qOp_mono (fun a' h3 => ih (done.setIfInBounds j true) a' (inv.set hj (fun t ht e => hno t ht (e ▸ hj))) ?_ (ready_mono hr (Ne.symm hji)) h3.1 ?_) h2
      · intro k ok hk hki hkun hno'
        refine hfree k ok hk hki ?_ hno'
        rcases Nat.decEq j k with hjk | hjk
        · rwa [getD_set_ne true hjk] at hkun
        · subst hjk; exact hjun
      · rw [Array.setIfInBounds_comm _ _ hji]
        exact h3.2
    · subst hji; exact hy.qOp hi H

theorem postB_ready {is : List Nat} {done : Array Bool} (h : postB md ops is done = true) : ∀ j ∈ Region.ready md ops done, j ∈ is := by
  cases is with
  | nil => intro j hj; simp only [postB, List.isEmpty_iff] at h; rw [h] at hj; cases hj
  | cons i is =>
    intro j hj
    simp only [postB, Bool.and_eq_true, decide_eq_true_eq] at h
    rw [h.1] at hj
    have : j = i := by simpa using hj
    simp [this]

theorem midAny_lex {mid cs : List Nat} {c0 : Nat} {Lq : Act → Prop} (hsel : Region.noSelect ops = true) (hs : sinkL md ops c0 mid = true) (hc : (cs.all fun t => (c0 :: cs).any fun t' => Region.waitsFor md ops t t') = true) (l : List Nat) :
    ∀ (done : Array Bool) (a : Act), (∀ j ∈ l, j ∈ mid) → OrdInv md ops mid (c0 :: cs) done → midB md ops (c0 :: cs) l done = true → wpQuiet P ops C Lq (pickOps ops.toList l) a →
      midAny P md ops C mid (fun done' a' => postB md ops (c0 :: cs) done' = true ∧ Lq a') l.length done a := by
  induction l with
  | nil => intro done a _ _ hB h; exact ⟨hB, h⟩
  | cons i l ih =>
    intro done a hl inv hB h
    simp only [midB, Bool.and_eq_true] at hB
    have hr : i ∈ Region.ready md ops done := by simpa using hB.1.1
    obtain ⟨hun, o, h0, _⟩ := mem_ready.1 hr
    have hp : pickOps ops.toList (i :: l) = o :: pickOps ops.toList l := by
      unfold pickOps
      rw [List.filterMap_cons_some (by simpa using h0)]
    rw [hp] at h
    have hst : qOp P ops C i (wpQuiet P ops C Lq (pickOps ops.toList l)) a := by unfold qOp; rw [h0]; exact h
    obtain ⟨v, hy, hK⟩ := yieldsIn_of_qOp h0 hst
    have him := hl i (by simp)
    have hno := post_waits inv hs hc him hun
    refine midAny_first h0 (Region.noSelect_spec hsel) hs hc him (fun d a' hL => postB_ready hL.1) l.length done a inv (Region.free_spec h0 hB.1.2) hr hy ?_
    exact ih _ _ (fun j hj => hl j (by simp [hj])) (inv.set hr (fun t ht e => hno t ht (e ▸ hr))) hB.2 hK

theorem wpAny_of_post {Q' : Exit → Act → World → Prop} (is : List Nat) : ∀ (done : Array Bool) (a : Act) (w : World), postB md ops is done = true → wpList P ops Q' (pickOps ops.toList is) a w → wpAny P md ops Q' is.length done a w := by
  induction is with
  | nil => intro done a w hB h; exact ⟨by simpa [postB] using hB, h⟩
  | cons i is ih =>
    intro done a w hB h
    simp only [postB, Bool.and_eq_true, decide_eq_true_eq] at hB
    refine ⟨fun h1 => (by rw [hB.1] at h1; cases h1), fun j hj => ?_⟩
    have hji : j = i := by rw [hB.1] at hj; simpa using hj
    subst hji
    obtain ⟨_, o, h0, _⟩ := mem_ready.1 hj
    have hp : pickOps ops.toList (j :: is) = o :: pickOps ops.toList is := by
      unfold pickOps
      rw [List.filterMap_cons_some (by simpa using h0)]
    rw [hp] at h
    have hw : wpOp P ops Q' j (wpList P ops Q' (pickOps ops.toList is)) a w := by unfold wpOp; simp only [h0]; exact h
    exact wpOp_mono (fun a' w' h' => ih _ a' w' hB.2 h') hw

theorem wpAny_of_pre {Q : Act → Prop} {Q' : Exit → Act → World → Prop} (hQ : ∀ c a d v w, Q' (.panic c) (Act.put a d v) w → Q' (.panic c) a w) (hsel : Region.noSelect ops = true) (g : Nat) (is : List Nat) :
    ∀ (done : Array Bool) (a : Act) (w : World), preB md ops is done = true → (∀ a', Q a' → wpAny P md ops Q' g (preDone is done) a' w) → wpQuiet P ops (fun _ => True) Q (pickOps ops.toList is) a →
      wpAny P md ops Q' (is.length + g) done a w := by
  induction is with
  | nil => intro done a w _ hK h; simpa [preDone] using hK a h
  | cons i is ih =>
    intro done a w hB hK h
    simp only [preB, Bool.and_eq_true] at hB
    obtain ⟨⟨⟨hr0, hf⟩, hpl⟩, hB'⟩ := hB
    have hr : i ∈ Region.ready md ops done := by simpa using hr0
    obtain ⟨_, o, h0, _⟩ := mem_ready.1 hr
    have hp : pickOps ops.toList (i :: is) = o :: pickOps ops.toList is := by
      unfold pickOps
      rw [List.filterMap_cons_some (by simpa using h0)]
    rw [hp] at h
    have hpl' : o.plainB = true := by simpa [h0] using hpl
    have hst : qOp P ops (fun _ => True) i (wpQuiet P ops (fun _ => True) Q (pickOps ops.toList is)) a := by unfold qOp; rw [h0]; exact h
    obtain ⟨v, hy, hK'⟩ := yieldsIn_of_qOp h0 hst
    have hY : Yields P ops o v a := by
      rcases hy with ⟨hw, hv⟩ | hy
      · refine .inl ⟨hw, fun w' => ?_⟩
        have h3 := hv w' trivial
        unfold Oper.quietAt at h3
        cases hrun : (execOp a.eval o).run P w' with
        | halt x w1 => rw [hrun] at h3; exact h3.elim
        | ok n w1 =>
          have hval : ∃ u, n = .value u := by
            rcases plain_value hpl' hrun with h | ⟨x, hx⟩
            · exact h
            · exact nilCheck_value hx hrun
          obtain ⟨u, rfl⟩ := hval
          rw [hrun] at h3
          obtain ⟨e1, e2⟩ := h3
          rw [e1, e2]
      · exact .inr hy
    have e : (i :: is).length + g = (is.length + g) + 1 := by simp; omega
    rw [e]
    refine wpAny_first h0 (Region.noSelect_spec hsel) (fun c a w => hQ c a _ _ w) (is.length + g) done a w (Region.free_spec h0 hf) hr hY ?_
    exact ih _ _ w hB' hK hK'

theorem preDone_inv (is : List Nat) : ∀ (done : Array Bool), preB md ops is done = true → done.size = ops.size →
    (∀ j oj, ops[j]? = some oj → done.getD j false = true → ∀ e ∈ oj.after, Region.binds md e = true → done.getD e.on false = true) →
    (preDone is done).size = ops.size ∧ (∀ j oj, ops[j]? = some oj → (preDone is done).getD j false = true → ∀ e ∈ oj.after, Region.binds md e = true → (preDone is done).getD e.on false = true) := by
  induction is with
  | nil => intro done _ hs hcl; exact ⟨hs, hcl⟩
  | cons i is ih =>
    intro done hB hs hcl
    simp only [preB, Bool.and_eq_true] at hB
    have hr : i ∈ Region.ready md ops done := by simpa using hB.1.1.1
    obtain ⟨_, oi, hoi, hall⟩ := mem_ready.1 hr
    refine ih (done.setIfInBounds i true) hB.2 (by simp [hs]) fun j oj hj hl e he hb => ?_
    by_cases hij : i = j
    · subst hij
      have : oj = oi := Option.some.inj (hj.symm.trans hoi)
      subst this
      exact getD_set_true (hall e he hb)
    · rw [getD_set_ne false hij] at hl
      exact getD_set_true (hcl j oj hj hl e he hb)

theorem wp_region_order {id : Nat} {Q : Exit → Act → World → Prop} {a : Act} {w : World} {l : List Oper} (pre mid : List Nat) (c0 : Nat) (cs : List Nat) (hm : P.follows .mixedOrders = true) (hB : orderB .any l.toArray pre mid c0 cs = true)
    (hQ : ∀ c a d v w, Q (.panic c) (Act.put a d v) w → Q (.panic c) a w)
    (h : wpQuiet P l.toArray (fun _ => True) (fun a1 => wpQuiet P l.toArray (fun w' => ∃ k, w' = w.drewN k) (fun a2 => ∀ w', (∃ k, w' = w.drewN k) → wpList P l.toArray Q (pickOps l (c0 :: cs)) a2 w') (pickOps l mid) a1) (pickOps l pre) a) :
    (Code.region id l.toArray true).wp P Q a w := by
  simp only [orderB, Bool.and_eq_true, decide_eq_true_eq] at hB
  obtain ⟨⟨⟨⟨⟨⟨⟨hsel, hpre⟩, hlen⟩, hcov⟩, htl⟩, hs⟩, hc⟩, hmid⟩ := hB
  have h00 := preDone_inv (md := .any) pre (Array.replicate l.toArray.size false) hpre (by simp) (fun j oj _ hl => by rw [getD_replicate_false] at hl; cases hl)
  have inv : OrdInv .any l.toArray mid (c0 :: cs) (preDone pre (Array.replicate l.toArray.size false)) := by
    refine ⟨h00.1, h00.2, fun t ht => by simpa using List.all_eq_true.1 htl t ht, fun i hi hun => ?_⟩
    have h1 := List.all_eq_true.1 hcov i (List.mem_range.2 hi)
    simp only [Bool.or_eq_true, List.contains_iff_mem] at h1
    rcases h1 with (h1 | h1) | h1
    · rw [getD_both hun] at h1; cases h1
    · exact .inl h1
    · exact .inr h1
  refine wp_region_any hm ?_
  have e : l.toArray.size = pre.length + (mid.length + (c0 :: cs).length) := hlen.symm
  rw [show wpAny P .any l.toArray Q l.toArray.size = wpAny P .any l.toArray Q (pre.length + (mid.length + (c0 :: cs).length)) from by rw [← e]]
  refine wpAny_of_pre hQ hsel (mid.length + (c0 :: cs).length) pre _ a _ hpre (fun a1 h1 => ?_) (by simpa using h)
  have hM := midAny_lex (C := fun w' => ∃ k, w' = w.drewN k) (Lq := fun a2 => ∀ w', (∃ k, w' = w.drewN k) → wpList P l.toArray Q (pickOps l (c0 :: cs)) a2 w') hsel hs hc mid _ a1 (fun j hj => hj) inv hmid (by simpa using h1)
  exact wpAny_of_midAny (fun done a2 w2 hw2 hL => wpAny_of_post (c0 :: cs) done a2 w2 hL.1 (by simpa using hL.2 w2 hw2)) mid.length _ a1 _ ⟨1, rfl⟩ hM
end
end Go
