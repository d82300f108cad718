/- Texts. -/
import Derived.Test.YtplleficmkfniaaGreatDoorQ09
set_option linter.unusedSimpArgs false
set_option maxRecDepth 100000
set_option maxHeartbeats 4000000
namespace Go.Aff
open Go
section
variable {P : Program} {ops : Array Oper} {Q : Exit → Act → World → Prop} {md : Region.Mode}
def actsOf (a : Act) (D : List Nat) (f : Nat → Value) : Act := match D with
 | [] => a
 | d :: D => (actsOf a D f).put (some d) (f d)
def updV (f : Nat → Value) (o : Option Nat) (v : Value) : Nat → Value := match o with
 | none => f
 | some d => fun k => if k = d then v else f k
theorem updV_at {f : Nat → Value} {d : Nat} {v : Value} : updV f (some d) v d = v := if_pos rfl
theorem updV_ne {f : Nat → Value} {d k : Nat} {v : Value} (h : k ≠ d) : updV f (some d) v k = f k := if_neg h
theorem put_put (a : Act) (d : Nat) (v u : Value) : (a.put (some d) v).put (some d) u = a.put (some d) u := by
 simp only [Act.put, Array.setIfInBounds_setIfInBounds]
theorem actsOf_congr (a : Act) {f g : Nat → Value} : ∀ {D : List Nat}, (∀ d ∈ D, f d = g d) → actsOf a D f = actsOf a D g
 | [], _ => rfl
 | d :: D, h => by
  show (actsOf a D f).put (some d) (f d) = (actsOf a D g).put (some d) (g d)
  rw [actsOf_congr a fun e he => h e (List.mem_cons_of_mem _ he), h d (List.mem_cons_self ..)]
theorem actsOf_put (a : Act) (f : Nat → Value) (v : Value) (d : Nat) : ∀ {D : List Nat}, d ∈ D → D.Nodup → (actsOf a D f).put (some d) v = actsOf a D (updV f (some d) v)
 | e :: D, h, hn => by
  show ((actsOf a D f).put (some e) (f e)).put (some d) v = (actsOf a D (updV f (some d) v)).put (some e) (updV f (some d) v e)
  have hn' := List.nodup_cons.1 hn
  by_cases hde : d = e
  ·subst hde
   rw [put_put, updV_at, actsOf_congr a (f := f) (g := updV f (some d) v) fun k hk => (updV_ne fun e => by subst e; exact hn'.1 hk).symm]
  ·have hm : d ∈ D := (List.mem_cons.1 h).resolve_left hde
   rw [Act.put_comm _ _ _ (fun k hk e => by injection hk with hk; injection e with e; exact hde (e.trans hk.symm)), actsOf_put a f v d hm hn'.2, updV_ne (fun e => hde e.symm)]
theorem actsOf_self (a : Act) : ∀ (D : List Nat), actsOf a D (fun d => a.tmps.getD d undef) = a
 | [] => rfl
 | d :: D => by
  show (actsOf a D _).put (some d) _ = a
  rw [actsOf_self a D]
  unfold Act.put
  show { a with tmps := a.tmps.setIfInBounds d (a.tmps.getD d undef) } = a
  have : a.tmps.setIfInBounds d (a.tmps.getD d undef) = a.tmps := by
   apply Array.ext
   ·simp
   ·intro i h1 h2
    simp only [Array.getElem_setIfInBounds h2]
    split
    ·rename_i hd; subst hd; simp [Array.getD, h2]
    ·rfl
  rw [this]
def edgeB (md : Region.Mode) (ops : Array Oper) (k j : Nat) : Bool := match ops[k]? with
 | some o => o.after.any fun e => Region.binds md e && (e.on == j)
 | none => false
def AllStepsI (P : Program) (md : Region.Mode) (ops : Array Oper) (Q : Exit → Act → World → Prop) (a0 : Act) (D : List Nat) (J : (Nat → Prop) → (Nat → Value) → World → Prop) (rs : List Nat) : Prop :=
 ∀ i ∈ rs, ∀ (done : Nat → Prop) f w, J done f w → ¬ done i → (∀ o, ops[i]? = some o → ∀ e ∈ o.after, Region.binds md e = true → done e.on) → (∀ k j, edgeB md ops k j = true → done k → done j) → wpOp P ops Q i (fun a' w' => ∃ f', a' = actsOf a0 D f' ∧ J (fun k => done k ∨ k = i) f' w') (actsOf a0 D f) w
theorem AllStepsI.nil {a0 : Act} {D : List Nat} {J : (Nat → Prop) → (Nat → Value) → World → Prop} : AllStepsI P md ops Q a0 D J [] := fun _ h => by cases h
theorem AllStepsI.cons {a0 : Act} {D : List Nat} {J : (Nat → Prop) → (Nat → Value) → World → Prop} {i : Nat} {o : Oper} {rs : List Nat} (pre : List Nat) (hD : D.Nodup) (ho : ops[i]? = some o) (hdd : (match o.dst with | some d => D.contains d | none => true) = true) (hp : (pre.all fun k => o.after.any fun e => Region.binds md e && (e.on == k)) = true)
  (h : ∀ (done : Nat → Prop) f w, J done f w → ¬ done i → (∀ k ∈ pre, done k) → (∀ k j, edgeB md ops k j = true → done k → done j) → ∀ a, a = actsOf a0 D f → ∀ K' : Act → World → Prop, Shut (∀ v w', J (fun k => done k ∨ k = i) (updV f o.dst v) w' → K' (a.put o.dst v) w') → if Region.wanted o (yielded ops a.tmps) = true then Oper.wp P o a w K' Q else K' (a.put o.dst undef) w)
  (hs : AllStepsI P md ops Q a0 D J rs) : AllStepsI P md ops Q a0 D J (i :: rs) := fun j hj done f w hJ hn hpre hcl => by
 rcases List.mem_cons.1 hj with rfl | hj
 ·refine wpOp_step ho fun K' hK => h done f w hJ hn (fun k hk => ?_) hcl _ rfl K' fun v w' hJ' => hK _ _ ⟨updV f o.dst v, ?_, hJ'⟩
  ·have h1 := List.all_eq_true.1 hp k hk
   obtain ⟨e, he, h2⟩ := Array.any_eq_true'.1 h1
   simp only [Bool.and_eq_true, beq_iff_eq] at h2
   rw [← h2.2]
   exact hpre o ho e he h2.1
  ·cases hd : o.dst with
   | none => rfl
   | some d =>
    rw [hd] at hdd
    exact actsOf_put a0 f v d (by simpa using hdd) hD
 ·exact hs j hj done f w hJ hn hpre hcl
theorem count_set_list : ∀ (l : List Bool) (i : Nat), l[i]? = some false → (l.set i true).count false + 1 ≤ l.count false
 | [], i, h => by simp at h
 | b :: l, 0, h => by simp at h; subst h; simp
 | b :: l, i + 1, h => by
  have := count_set_list l i (by simpa using h)
  simp only [List.set_cons_succ, List.count_cons]
  omega
theorem getD_lt {L : Array Bool} {i : Nat} {b : Bool} (h : i < L.size) : L.getD i b = L[i] := by simp [Array.getD, h]
theorem count_set {L : Array Bool} {i : Nat} (h : L.getD i true = false) : (L.setIfInBounds i true).toList.count false + 1 ≤ L.toList.count false := by
 have hi : i < L.size := by
  by_cases hi : i < L.size
  ·exact hi
  ·simp [Array.getD, hi] at h
 rw [Array.toList_setIfInBounds]
 refine count_set_list _ _ ?_
 rw [getD_lt hi] at h
 rw [Array.getElem?_toList, Array.getElem?_eq_getElem hi, h]
theorem wpAnyH_inv0 {S : World → Prop} {a0 : Act} {D : List Nat} {J : (Nat → Prop) → (Nat → Value) → World → Prop} (is : List Nat) (hord : ((List.range ops.size).all fun i => match ops[i]? with | some o => o.after.all fun e => !(Region.binds md e) || decide (e.on < i) | none => true) = true)
  (hJS : ∀ done f w, J done f w → S w) (hsteps : AllStepsI P md ops Q a0 D J is) (hend : ∀ (done : Nat → Prop) f w, J done f w → (∀ k, k < ops.size → done k) → Q .normal (actsOf a0 D f) w) :
  ∀ (fuel : Nat) (L : Array Bool), L.size = ops.size → (∀ j, j < ops.size → j ∉ is → L.getD j true = true) → (∀ k j, edgeB md ops k j = true → L.getD k false = true → L.getD j false = true) → ∀ f w, J (fun k => L.getD k false = true) f w → L.toList.count false ≤ fuel → wpAnyH P md ops Q S fuel L (actsOf a0 D f) w := by
 have hall : ∀ (L : Array Bool), L.size = ops.size → Region.ready md ops L = [] → ∀ k, k < ops.size → L.getD k false = true := fun L hsz hr k => by
  induction k using Nat.strongRecOn with
  | _ k ih =>
   intro hk
   have hkL : k < L.size := by rw [hsz]; exact hk
   rw [getD_lt hkL]
   cases hb : L[k] with
   | true => rfl
   | false =>
    have hin : k ∈ Region.ready md ops L := mem_ready.2 ⟨by rw [getD_lt hkL]; exact hb, ops[k], Array.getElem?_eq_getElem hk, fun e he hb => by
     have h1 := List.all_eq_true.1 hord k (List.mem_range.2 hk)
     simp only [Array.getElem?_eq_getElem hk] at h1
     have h3 := Array.all_eq_true'.1 h1 e he
     rw [hb] at h3
     have h2 : e.on < k := by simpa using h3
     exact ih e.on h2 (by omega)⟩
    rw [hr] at hin
    cases hin
 intro fuel
 induction fuel with
 | zero =>
  intro L hsz hL hcl f w hJ hc
  have hr : Region.ready md ops L = [] := by
   cases hr : Region.ready md ops L with
   | nil => rfl
   | cons i rs =>
    have hi : i ∈ Region.ready md ops L := by rw [hr]; exact List.mem_cons_self ..
    have := count_set (mem_ready.1 hi).1
    omega
  exact ⟨hr, hend _ f w hJ (hall L hsz hr)⟩
 | succ fuel ih =>
  intro L hsz hL hcl f w hJ hc
  refine ⟨fun hr => hend _ f w hJ (hall L hsz hr), fun i hi => ?_⟩
  obtain ⟨h1, o, ho, h2⟩ := mem_ready.1 hi
  have hio : i < ops.size := (Array.getElem?_eq_some_iff.1 ho).1
  have hiL : i < L.size := by rw [hsz]; exact hio
  have hii : i ∈ is := Classical.byContradiction fun h => by rw [hL i hio h] at h1; cases h1
  have hnd : ¬ (L.getD i false = true) := by rw [getD_lt hiL]; rw [getD_lt hiL] at h1; rw [h1]; decide
  refine wpOp_mono (fun a' w' h => ?_) (hsteps i hii (fun k => L.getD k false = true) f w hJ hnd (fun o' ho' e he hb => by
   rw [ho] at ho'; injection ho' with ho'; subst ho'
   exact h2 e he hb) hcl)
  obtain ⟨f', rfl, hJ'⟩ := h
  refine ⟨hJS _ _ _ hJ', ih _ (by simp [hsz]) (fun j hj hn => ?_) ?_ f' w' ?_ (by have := count_set h1; omega)⟩
  ·have := hL j hj hn
   have hjL : j < (L.setIfInBounds i true).size := by simp [hsz]; exact hj
   rw [getD_lt hjL, Array.getElem_setIfInBounds (by rw [hsz]; exact hj)]
   split
   ·rfl
   ·rw [getD_lt (by rw [hsz]; exact hj)] at this; exact this
  ·intro k j hkj hk
   have hgr : ∀ q, L.getD q false = true → (L.setIfInBounds i true).getD q false = true := fun q hq => by
    by_cases hqs : q < L.size
    ·rw [getD_lt (by simp; exact hqs), Array.getElem_setIfInBounds hqs]
     split
     ·rfl
     ·rw [getD_lt hqs] at hq; exact hq
    ·simp [Array.getD, hqs] at hq
   by_cases hki : k = i
   ·subst hki
    unfold edgeB at hkj
    rw [ho] at hkj
    obtain ⟨e, he, h3⟩ := Array.any_eq_true'.1 hkj
    simp only [Bool.and_eq_true, beq_iff_eq] at h3
    have h4 := h2 e he h3.1
    rw [h3.2] at h4
    exact hgr j h4
   ·refine hgr j (hcl k j hkj ?_)
    by_cases hks : k < L.size
    ·rw [getD_lt (by simp; exact hks), Array.getElem_setIfInBounds hks, if_neg (fun e => hki e.symm)] at hk
     rw [getD_lt hks]; exact hk
    ·simp [Array.getD, hks] at hk
  ·have he : (fun k => (L.setIfInBounds i true).getD k false = true) = fun k => L.getD k false = true ∨ k = i := by
    funext k
    apply propext
    by_cases hk : k < L.size
    ·rw [getD_lt (by simp; exact hk), getD_lt hk, Array.getElem_setIfInBounds hk]
     split
     ·rename_i e; subst e; simp
     ·rename_i e
      exact ⟨.inl, fun h => h.resolve_right fun h => e h.symm⟩
    ·have h3 : (L.setIfInBounds i true).getD k false = false := by simp [Array.getD, hk]
     have h4 : L.getD k false = false := by simp [Array.getD, hk]
     rw [h3, h4]
     refine ⟨fun h => (by cases h), fun h => ?_⟩
     rcases h with h | h
     ·cases h
     ·subst h; exact absurd hiL hk
   rw [he]
   exact hJ'
theorem wpAnyH_inv {S : World → Prop} {fuel : Nat} {L : Array Bool} {a : Act} {w : World} (D : List Nat) (J : (Nat → Prop) → (Nat → Value) → World → Prop) (is : List Nat) (hord : ((List.range ops.size).all fun i => match ops[i]? with | some o => o.after.all fun e => !(Region.binds md e) || decide (e.on < i) | none => true) = true)
  (hsz : L.size = ops.size) (hL : ((List.range ops.size).all fun j => is.contains j || L.getD j true) = true) (hc : L.toList.count false ≤ fuel) (hJS : ∀ done f w, J done f w → S w)
  (hL0 : (is.all fun k => !(L.getD k false)) = true) (hcl : ((List.range ops.size).all fun k => !(L.getD k false) || (match ops[k]? with | some o => o.after.all fun e => !(Region.binds md e) || L.getD e.on false | none => true)) = true) (h0 : ∀ (done : Nat → Prop) f, (∀ k ∈ is, ¬ done k) → J done f w) (hend : ∀ (done : Nat → Prop) f w, J done f w → (∀ k, k < ops.size → done k) → Q .normal (actsOf a D f) w) (hsteps : AllStepsI P md ops Q a D J is) : wpAnyH P md ops Q S fuel L a w := by
 have h := wpAnyH_inv0 (P := P) (ops := ops) (Q := Q) (md := md) is hord hJS hsteps hend fuel L hsz (fun j hj hn => by
  have h1 := List.all_eq_true.1 hL j (List.mem_range.2 hj)
  rcases Bool.or_eq_true_iff.1 h1 with h1 | h1
  ·exact absurd (by simpa using h1) hn
  ·exact h1) (fun k j hkj hk => by
  unfold edgeB at hkj
  cases ho : ops[k]? with
  | none => rw [ho] at hkj; cases hkj
  | some o =>
   rw [ho] at hkj
   have hks := (Array.getElem?_eq_some_iff.1 ho).1
   have h1 := List.all_eq_true.1 hcl k (List.mem_range.2 hks)
   rw [hk, ho] at h1
   have h1 : (o.after.all fun e => !(Region.binds md e) || L.getD e.on false) = true := h1
   obtain ⟨e, he, h3⟩ := Array.any_eq_true'.1 hkj
   simp only [Bool.and_eq_true, beq_iff_eq] at h3
   have h4 := Array.all_eq_true'.1 h1 e he
   rw [h3.1, h3.2] at h4
   simpa using h4) (fun d => a.tmps.getD d undef) w (h0 _ _ fun k hk e => by
  have h1 := List.all_eq_true.1 hL0 k hk
  rw [e] at h1
  cases h1) hc
 rw [actsOf_self] at h
 exact h
end
end Go.Aff
namespace Go.Proofs.YtplleficmkfniaaGreatDoor
open Go Go.RowKit Go.Aff
structure DTwoE (S : (Nat → Prop) → World → List (List Int) → Prop) (E0 : Nat → Prop) (T : TypeId) (wr : World) (i1 i2 a1 a2 s1 s2 t1 t2 d1 d2 : Nat) (l0 l1 l2 : List (List Int)) (X Y : List Value) (done : Nat → Prop) (f : Nat → Value) (w : World) (E : Nat → Prop) (l : List (List Int)) : Prop where
 st : Took S E0 E wr w l
 z0 : ¬ done i1 → l = l0
 z1 : done i1 → ¬ done i2 → l = l1
 z2 : done i2 → l = l2
 dep : done i2 → done i1
 c1 : done i1 → f t1 = .agg X.toArray
 c2 : done i2 → f t2 = .agg Y.toArray
 v1 : done a1 → ∃ p cs, f d1 = .pointer (some ⟨p, 0, none⟩) ∧ Blk w p T cs ∧ wr.heap.size ≤ p ∧ cs.length = 32 ∧ ¬ E p ∧ (done s1 → cs = X)
 v2 : done a2 → ∃ p cs, f d2 = .pointer (some ⟨p, 0, none⟩) ∧ Blk w p T cs ∧ wr.heap.size ≤ p ∧ cs.length = 32 ∧ ¬ E p ∧ (done s2 → cs = Y)
 ne : done a1 → done a2 → f d1 ≠ f d2
 o1 : done s1 → done i1 ∧ done a1
 o2 : done s2 → done i2 ∧ done a2
def DTwo (S : (Nat → Prop) → World → List (List Int) → Prop) (E0 : Nat → Prop) (T : TypeId) (wr : World) (i1 i2 a1 a2 s1 s2 t1 t2 d1 d2 : Nat) (l0 l1 l2 : List (List Int)) (X Y : List Value) (done : Nat → Prop) (f : Nat → Value) (w : World) : Prop := ∃ E l, DTwoE S E0 T wr i1 i2 a1 a2 s1 s2 t1 t2 d1 d2 l0 l1 l2 X Y done f w E l
section
variable {S : (Nat → Prop) → World → List (List Int) → Prop} {E0 : Nat → Prop} {T : TypeId} {wr w w' : World} {i1 i2 a1 a2 s1 s2 t1 t2 d1 d2 : Nat} {l0 l1 l2 : List (List Int)} {X Y : List Value} {done : Nat → Prop} {f : Nat → Value} {E E' : Nat → Prop} {l : List (List Int)}
theorem DTwo.start (hS : Lasts S) (hT : Tkg S E0 wr l0) (k : Keeps (fun _ => False) wr w) (h : ∀ k ∈ [i1, i2, a1, a2, s1, s2], ¬ done k) : DTwo S E0 T wr i1 i2 a1 a2 s1 s2 t1 t2 d1 d2 l0 l1 l2 X Y done f w :=
 ⟨E0, l0, (Took.start hT.st hT.cel).stay hS k, fun _ => rfl, fun e => absurd e (h _ (by simp)), fun e => absurd e (h _ (by simp)), fun e => absurd e (h _ (by simp)), fun e => absurd e (h _ (by simp)), fun e => absurd e (h _ (by simp)), fun e => absurd e (h _ (by simp)), fun e => absurd e (h _ (by simp)), fun e => absurd e (h _ (by simp)), fun e => absurd e (h _ (by simp)), fun e => absurd e (h _ (by simp))⟩
theorem DTwoE.got1 (h : DTwoE S E0 T wr i1 i2 a1 a2 s1 s2 t1 t2 d1 d2 l0 l1 l2 X Y done f w E l) (k : Took S E E' w w' l1) (hn : ¬ done i1) (hi : ∀ q ∈ [i2, a1, a2, s1, s2], q ≠ i1) (ht : ∀ q ∈ [t2, d1, d2], q ≠ t1) :
  DTwo S E0 T wr i1 i2 a1 a2 s1 s2 t1 t2 d1 d2 l0 l1 l2 X Y (fun q => done q ∨ q = i1) (updV f (some t1) (.agg X.toArray)) w' := by
 have hE : ∀ p cs, Blk w p T cs → ¬ E p → Blk w' p T cs ∧ ¬ E' p := fun p cs hb he => ⟨k.keep.blk hb he, fun h2 => (k.new p h2).elim he fun h3 => by have := hb.lt; omega⟩
 have h2 : ¬ done i2 := fun e => hn (h.dep e)
 refine ⟨E', l1, h.st.trans k, fun e => absurd (.inr rfl) e, fun _ _ => rfl, fun e => absurd (e.resolve_right (hi _ (by simp))) h2, fun _ => .inr rfl, fun _ => updV_at, fun e => absurd (e.resolve_right (hi _ (by simp))) h2, fun e => ?_, fun e => ?_, fun e1 e2 => ?_, fun e => ?_, fun e => ?_⟩
 ·rw [updV_ne (ht _ (by simp))]
  obtain ⟨p, cs, g1, g2, g3, g4, g5, g6⟩ := h.v1 (e.resolve_right (hi _ (by simp)))
  exact ⟨p, cs, g1, (hE p cs g2 g5).1, g3, g4, (hE p cs g2 g5).2, fun e => g6 (e.resolve_right (hi _ (by simp)))⟩
 ·rw [updV_ne (ht _ (by simp))]
  obtain ⟨p, cs, g1, g2, g3, g4, g5, g6⟩ := h.v2 (e.resolve_right (hi _ (by simp)))
  exact ⟨p, cs, g1, (hE p cs g2 g5).1, g3, g4, (hE p cs g2 g5).2, fun e => g6 (e.resolve_right (hi _ (by simp)))⟩
 ·rw [updV_ne (ht _ (by simp)), updV_ne (ht _ (by simp))]; exact h.ne (e1.resolve_right (hi _ (by simp))) (e2.resolve_right (hi _ (by simp)))
 ·have := h.o1 (e.resolve_right (hi _ (by simp))); exact ⟨.inl this.1, .inl this.2⟩
 ·have := h.o2 (e.resolve_right (hi _ (by simp))); exact ⟨.inl this.1, .inl this.2⟩
theorem DTwoE.got2 (h : DTwoE S E0 T wr i1 i2 a1 a2 s1 s2 t1 t2 d1 d2 l0 l1 l2 X Y done f w E l) (k : Took S E E' w w' l2) (h1 : done i1) (hi : ∀ q ∈ [i1, a1, a2, s1, s2], q ≠ i2) (ht : ∀ q ∈ [t1, d1, d2], q ≠ t2) :
  DTwo S E0 T wr i1 i2 a1 a2 s1 s2 t1 t2 d1 d2 l0 l1 l2 X Y (fun q => done q ∨ q = i2) (updV f (some t2) (.agg Y.toArray)) w' := by
 have hE : ∀ p cs, Blk w p T cs → ¬ E p → Blk w' p T cs ∧ ¬ E' p := fun p cs hb he => ⟨k.keep.blk hb he, fun h2 => (k.new p h2).elim he fun h3 => by have := hb.lt; omega⟩
 refine ⟨E', l2, h.st.trans k, fun e => absurd (.inl h1) e, fun _ e => absurd (.inr rfl) e, fun _ => rfl, fun _ => .inl h1, fun _ => ?_, fun _ => updV_at, fun e => ?_, fun e => ?_, fun e1 e2 => ?_, fun e => ?_, fun e => ?_⟩
 ·rw [updV_ne (ht _ (by simp))]; exact h.c1 h1
 ·rw [updV_ne (ht _ (by simp))]
  obtain ⟨p, cs, g1, g2, g3, g4, g5, g6⟩ := h.v1 (e.resolve_right (hi _ (by simp)))
  exact ⟨p, cs, g1, (hE p cs g2 g5).1, g3, g4, (hE p cs g2 g5).2, fun e => g6 (e.resolve_right (hi _ (by simp)))⟩
 ·rw [updV_ne (ht _ (by simp))]
  obtain ⟨p, cs, g1, g2, g3, g4, g5, g6⟩ := h.v2 (e.resolve_right (hi _ (by simp)))
  exact ⟨p, cs, g1, (hE p cs g2 g5).1, g3, g4, (hE p cs g2 g5).2, fun e => g6 (e.resolve_right (hi _ (by simp)))⟩
 ·rw [updV_ne (ht _ (by simp)), updV_ne (ht _ (by simp))]; exact h.ne (e1.resolve_right (hi _ (by simp))) (e2.resolve_right (hi _ (by simp)))
 ·have := h.o1 (e.resolve_right (hi _ (by simp))); exact ⟨.inl this.1, .inl this.2⟩
 ·have := h.o2 (e.resolve_right (hi _ (by simp))); exact ⟨.inl this.1, .inl this.2⟩
theorem DTwoE.made1 (hS : Lasts S) (h : DTwoE S E0 T wr i1 i2 a1 a2 s1 s2 t1 t2 d1 d2 l0 l1 l2 X Y done f w E l) {zs : List Value} (hz : zs.length = 32) (hn : ¬ done a1) (hi : ∀ q ∈ [i1, i2, a2, s1, s2], q ≠ a1) (ht : ∀ q ∈ [t1, t2, d2], q ≠ d1) :
  DTwo S E0 T wr i1 i2 a1 a2 s1 s2 t1 t2 d1 d2 l0 l1 l2 X Y (fun q => done q ∨ q = a1) (updV f (some d1) (.pointer (some ⟨w.heap.size, 0, none⟩))) (w.alloc (.cells zs.toArray T)) := by
 have k : Keeps (fun _ => False) w (w.alloc (.cells zs.toArray T)) := (Keeps.refl _ w).alloc _
 refine ⟨E, l, h.st.stay hS k, fun e => h.z0 fun e2 => e (.inl e2), fun e1 e2 => h.z1 (e1.resolve_right (hi _ (by simp))) fun e => e2 (.inl e), fun e => h.z2 (e.resolve_right (hi _ (by simp))), fun e => .inl (h.dep (e.resolve_right (hi _ (by simp)))), fun e => ?_, fun e => ?_, fun _ => ?_, fun e => ?_, fun e1 e2 => ?_, fun e => ?_, fun e => ?_⟩
 ·rw [updV_ne (ht _ (by simp))]; exact h.c1 (e.resolve_right (hi _ (by simp)))
 ·rw [updV_ne (ht _ (by simp))]; exact h.c2 (e.resolve_right (hi _ (by simp)))
 ·exact ⟨_, zs, updV_at, Blk.new _ _ _, h.st.keep.size, hz, fun he => Nat.lt_irrefl _ (h.st.lt _ he), fun e => absurd (h.o1 (e.resolve_right (hi _ (by simp)))).2 hn⟩
 ·rw [updV_ne (ht _ (by simp))]
  obtain ⟨p, cs, g1, g2, g3, g4, g5, g6⟩ := h.v2 (e.resolve_right (hi _ (by simp)))
  exact ⟨p, cs, g1, k.blk g2 (fun h => h), g3, g4, g5, fun e => g6 (e.resolve_right (hi _ (by simp)))⟩
 ·rw [updV_at, updV_ne (ht _ (by simp))]
  obtain ⟨p, cs, g1, g2, _⟩ := h.v2 (e2.resolve_right (hi _ (by simp)))
  rw [g1]
  intro e
  injection e with e
  injection e with e
  injection e with e
  have := g2.lt
  omega
 ·have := h.o1 (e.resolve_right (hi _ (by simp))); exact ⟨.inl this.1, .inl this.2⟩
 ·have := h.o2 (e.resolve_right (hi _ (by simp))); exact ⟨.inl this.1, .inl this.2⟩
theorem DTwoE.made2 (hS : Lasts S) (h : DTwoE S E0 T wr i1 i2 a1 a2 s1 s2 t1 t2 d1 d2 l0 l1 l2 X Y done f w E l) {zs : List Value} (hz : zs.length = 32) (hn : ¬ done a2) (hi : ∀ q ∈ [i1, i2, a1, s1, s2], q ≠ a2) (ht : ∀ q ∈ [t1, t2, d1], q ≠ d2) :
  DTwo S E0 T wr i1 i2 a1 a2 s1 s2 t1 t2 d1 d2 l0 l1 l2 X Y (fun q => done q ∨ q = a2) (updV f (some d2) (.pointer (some ⟨w.heap.size, 0, none⟩))) (w.alloc (.cells zs.toArray T)) := by
 have k : Keeps (fun _ => False) w (w.alloc (.cells zs.toArray T)) := (Keeps.refl _ w).alloc _
 refine ⟨E, l, h.st.stay hS k, fun e => h.z0 fun e2 => e (.inl e2), fun e1 e2 => h.z1 (e1.resolve_right (hi _ (by simp))) fun e => e2 (.inl e), fun e => h.z2 (e.resolve_right (hi _ (by simp))), fun e => .inl (h.dep (e.resolve_right (hi _ (by simp)))), fun e => ?_, fun e => ?_, fun e => ?_, fun _ => ?_, fun e1 e2 => ?_, fun e => ?_, fun e => ?_⟩
 ·rw [updV_ne (ht _ (by simp))]; exact h.c1 (e.resolve_right (hi _ (by simp)))
 ·rw [updV_ne (ht _ (by simp))]; exact h.c2 (e.resolve_right (hi _ (by simp)))
 ·rw [updV_ne (ht _ (by simp))]
  obtain ⟨p, cs, g1, g2, g3, g4, g5, g6⟩ := h.v1 (e.resolve_right (hi _ (by simp)))
  exact ⟨p, cs, g1, k.blk g2 (fun h => h), g3, g4, g5, fun e => g6 (e.resolve_right (hi _ (by simp)))⟩
 ·exact ⟨_, zs, updV_at, Blk.new _ _ _, h.st.keep.size, hz, fun he => Nat.lt_irrefl _ (h.st.lt _ he), fun e => absurd (h.o2 (e.resolve_right (hi _ (by simp)))).2 hn⟩
 ·rw [updV_at, updV_ne (ht _ (by simp))]
  obtain ⟨p, cs, g1, g2, _⟩ := h.v1 (e1.resolve_right (hi _ (by simp)))
  rw [g1]
  intro e
  injection e with e
  injection e with e
  injection e with e
  have := g2.lt
  omega
 ·have := h.o1 (e.resolve_right (hi _ (by simp))); exact ⟨.inl this.1, .inl this.2⟩
 ·have := h.o2 (e.resolve_right (hi _ (by simp))); exact ⟨.inl this.1, .inl this.2⟩
theorem DTwoE.put1 (hS : Lasts S) (h : DTwoE S E0 T wr i1 i2 a1 a2 s1 s2 t1 t2 d1 d2 l0 l1 l2 X Y done f w E l) (hl : X.length = 32) {p : Nat} (hp : f d1 = .pointer (some ⟨p, 0, none⟩)) (h1 : done i1) (h2 : done a1) (hi : ∀ q ∈ [i1, i2, a1, a2, s2], q ≠ s1) :
  DTwo S E0 T wr i1 i2 a1 a2 s1 s2 t1 t2 d1 d2 l0 l1 l2 X Y (fun q => done q ∨ q = s1) f (w.setRow p X.toArray) := by
 have k := setRow_keep w p X.toArray
 obtain ⟨p', cs, e1, hb, hlo, hcl, hpE, _⟩ := h.v1 h2
 have hpp : p' = p := by rw [hp] at e1; injection e1 with e1; injection e1 with e1; injection e1 with e1; exact e1.symm
 subst hpp
 refine ⟨E, l, h.st.more hS k fun i hi => by subst hi; exact ⟨hlo, hpE⟩, fun e => h.z0 fun e2 => e (.inl e2), fun e1 e2 => h.z1 (e1.resolve_right (hi _ (by simp))) fun e => e2 (.inl e), fun e => h.z2 (e.resolve_right (hi _ (by simp))), fun e => .inl (h.dep (e.resolve_right (hi _ (by simp)))), fun _ => h.c1 h1, fun e => h.c2 (e.resolve_right (hi _ (by simp))), fun _ => ⟨p', X, hp, hb.setRow X, hlo, hl, hpE, fun _ => rfl⟩, fun e => ?_, fun e1 e2 => h.ne (e1.resolve_right (hi _ (by simp))) (e2.resolve_right (hi _ (by simp))), fun _ => ⟨.inl h1, .inl h2⟩, fun e => ?_⟩
 ·obtain ⟨q, ds, g1, g2, g3, g4, g5, g6⟩ := h.v2 (e.resolve_right (hi _ (by simp)))
  refine ⟨q, ds, g1, k.blk g2 fun e => ?_, g3, g4, g5, fun e => g6 (e.resolve_right (hi _ (by simp)))⟩
  subst e
  have := h.ne h2 (e.resolve_right (hi _ (by simp)))
  rw [hp, g1] at this
  exact this rfl
 ·have := h.o2 (e.resolve_right (hi _ (by simp))); exact ⟨.inl this.1, .inl this.2⟩
theorem DTwoE.put2 (hS : Lasts S) (h : DTwoE S E0 T wr i1 i2 a1 a2 s1 s2 t1 t2 d1 d2 l0 l1 l2 X Y done f w E l) (hl : Y.length = 32) {p : Nat} (hp : f d2 = .pointer (some ⟨p, 0, none⟩)) (h1 : done i2) (h2 : done a2) (hi : ∀ q ∈ [i1, i2, a1, a2, s1], q ≠ s2) :
  DTwo S E0 T wr i1 i2 a1 a2 s1 s2 t1 t2 d1 d2 l0 l1 l2 X Y (fun q => done q ∨ q = s2) f (w.setRow p Y.toArray) := by
 have k := setRow_keep w p Y.toArray
 obtain ⟨p', cs, e1, hb, hlo, hcl, hpE, _⟩ := h.v2 h2
 have hpp : p' = p := by rw [hp] at e1; injection e1 with e1; injection e1 with e1; injection e1 with e1; exact e1.symm
 subst hpp
 refine ⟨E, l, h.st.more hS k fun i hi => by subst hi; exact ⟨hlo, hpE⟩, fun e => h.z0 fun e2 => e (.inl e2), fun e1 e2 => h.z1 (e1.resolve_right (hi _ (by simp))) fun e => e2 (.inl e), fun e => h.z2 (e.resolve_right (hi _ (by simp))), fun e => .inl (h.dep (e.resolve_right (hi _ (by simp)))), fun e => h.c1 (e.resolve_right (hi _ (by simp))), fun _ => h.c2 h1, fun e => ?_, fun _ => ⟨p', Y, hp, hb.setRow Y, hlo, hl, hpE, fun _ => rfl⟩, fun e1 e2 => h.ne (e1.resolve_right (hi _ (by simp))) (e2.resolve_right (hi _ (by simp))), fun e => ?_, fun _ => ⟨.inl h1, .inl h2⟩⟩
 ·obtain ⟨q, ds, g1, g2, g3, g4, g5, g6⟩ := h.v1 (e.resolve_right (hi _ (by simp)))
  refine ⟨q, ds, g1, k.blk g2 fun e => ?_, g3, g4, g5, fun e => g6 (e.resolve_right (hi _ (by simp)))⟩
  subst e
  have := h.ne (e.resolve_right (hi _ (by simp))) h2
  rw [hp, g1] at this
  exact this rfl
 ·have := h.o1 (e.resolve_right (hi _ (by simp))); exact ⟨.inl this.1, .inl this.2⟩
end
end Go.Proofs.YtplleficmkfniaaGreatDoor
