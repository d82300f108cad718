/-
  WALKS: the iterator over all that is in an error: its closures, within a fence.
-/
import Derived.RangeFuncNested
import Derived.RangeFuncBound
import Derived.RangeFuncCalls
import Derived.RangeFuncLeaves
import Derived.Shelf.Abstract
import Derived.Shelf.RegionOpen
import Derived.WalkKit
import Derived.OwnWalkIn
import Derived.TacticsInMore
import Derived.LoopNIn
import Derived.LoopIn
import Derived.Test.YtinonjfnhedlpaaDoorFSeenW
set_option linter.unusedSimpArgs false
namespace Go.Proofs.YtinonjfnhedlpaaDoor
open Go Go.RowKit Go.Shelf Go.Aff Go.Fault
attribute [local go_sem] Oper.semAt_some
theorem YieldAt.deepW {m m' : Nat} {P : Program} {l : Nat} {args : Array Value} {W : World} {R : Ending → World → Prop} (h : YieldAt Fence.wide m P l args W R) : YieldAt Fence.wide m' P l args W R := by
  obtain ⟨fn, tmps, assign, body, hy, hR⟩ := h
  exact ⟨fn, tmps, assign, body, hy, hR.1, fun c cs _ => hR.2 c cs (room_wide _)⟩
/-- An item of X. -/
abbrev XI (X : List (Nat × VT)) := { p : Nat × VT // p ∈ X }
def encI {X : List (Nat × VT)} (x : XI X) : Array Value := #[.int .i64 (x.1.1 : Nat), vv x.1.2]
/-- What a round keeps: all cells but its own, which grow by new ones alone. -/
structure KpO (Own : World → Nat → Prop) (W W' : World) : Prop where
  size : W.heap.size ≤ W'.heap.size
  kept : ∀ (i : Nat) (c : Array Value) (t : TypeId) (fr : Nat × Nat), W.heap[i]? = some (Obj.cells c t fr) → ¬ Own W i → W'.heap[i]? = some (Obj.cells c t fr)
  own : ∀ i, Own W' i → Own W i ∨ (W.heap.size ≤ i ∧ i < W'.heap.size)
structure OwnOK {β : Type} (Own : World → Nat → Prop) (J : β → World → Prop) : Prop where
  lt : ∀ p W, J p W → ∀ i, Own W i → i < W.heap.size
  old : ∀ p W W', J p W → Keeps (fun _ => False) W W' → ∀ i, Own W' i → Own W i
section
variable {Own : World → Nat → Prop} {A B C : World}
theorem KpO.refl (W : World) : KpO Own W W := ⟨Nat.le_refl _, fun _ _ _ _ h _ => h, fun _ h => .inl h⟩
theorem KpO.trans (h : KpO Own A B) (k : KpO Own B C) : KpO Own A C :=
  ⟨Nat.le_trans h.size k.size, fun i c t fr hi hn => k.kept i c t fr (h.kept i c t fr hi hn) (fun ho => (h.own i ho).elim hn (fun hl => by have := (Array.getElem?_eq_some_iff.1 hi).1; omega)),
    fun i ho => (k.own i ho).elim (fun hb => (h.own i hb).imp id (fun hl => ⟨hl.1, Nat.lt_of_lt_of_le hl.2 k.size⟩)) (fun hl => .inr ⟨Nat.le_trans h.size hl.1, hl.2⟩)⟩
theorem KpO.of_new {β : Type} {J : β → World → Prop} (hO : OwnOK Own J) {p : β} (hJ : J p A) (h : Keeps (fun _ => False) A B) : KpO Own A B :=
  ⟨h.size, fun i _ _ _ hi _ => (h.block i (Array.getElem?_eq_some_iff.1 hi).1 (fun h => h)).trans hi, fun i ho => .inl (hO.old p A B hJ h i ho)⟩
end
theorem At.kept {D : Nat → Prop} {w w' : World} {t : VT} (h : At D w t) (hk : ∀ (i : Nat) (c : Array Value) (t : TypeId) (fr : Nat × Nat), w.heap[i]? = some (Obj.cells c t fr) → D i → w'.heap[i]? = some (Obj.cells c t fr)) : At D w' t := by
  induction t using VT.ind with
  | h5 b wd e ih =>
    simp only [At] at h ⊢
    exact ⟨h.1, hk _ _ _ _ h.2.1 h.1, ih h.2.2⟩
  | h6 A c l ih =>
    simp only [At] at h ⊢
    obtain ⟨h0, ho, hd, hx⟩ := h
    refine ⟨h0, ⟨ho.1, ?_⟩, hd, fun x hx' => ih x hx' (hx x hx')⟩
    rcases ho.2 with hz | ⟨g, cap, cur, hv, hb, hg, rest⟩
    · exact .inl hz
    · exact .inr ⟨g, cap, cur, hv, hb, hk _ _ _ _ hg (hd g (by rw [hv]; rfl)), rest⟩
  | _ => simp [At]
theorem At.kp {Own : World → Nat → Prop} {W W' : World} {t : VT} (h : At (fun i => ¬ Own W i) W t) (hk : KpO Own W W') : At (fun i => ¬ Own W' i) W' t := by
  have h1 : At (fun i => ¬ Own W i ∧ i < W.heap.size) W t := h.mono fun i hi hl => ⟨hi, hl⟩
  have h2 := h1.kept (w' := W') fun i c t fr hi hd => hk.kept i c t fr hi hd.1
  exact h2.mono fun i hi _ ho => (hk.own i ho).elim hi.1 (fun hl => by omega)
/-- The two variables that the walk has captured. -/
def Fc (Own : World → Nat → Prop) (l yb wb : Nat) (W : World) : Prop := (W.heap[yb]? = some (.cells #[.func (.yield l) #[] #[]] 98 (0, 0)) ∧ ¬ Own W yb) ∧
  (W.heap[wb]? = some (.cells #[.func (.func 33) #[] #[.pointer (some ⟨yb, 0, none⟩), .pointer (some ⟨wb, 0, none⟩)]] 95 (0, 0)) ∧ ¬ Own W wb)
theorem Fc.kp {Own : World → Nat → Prop} {l yb wb : Nat} {W W' : World} (h : Fc Own l yb wb W) (hk : KpO Own W W') : Fc Own l yb wb W' := by
  obtain ⟨⟨h1, h2⟩, h3, h4⟩ := h
  refine ⟨⟨hk.kept _ _ _ _ h1 h2, fun ho => (hk.own _ ho).elim h2 (fun hl => ?_)⟩, hk.kept _ _ _ _ h3 h4, fun ho => (hk.own _ ho).elim h4 (fun hl => ?_)⟩
  · have := (Array.getElem?_eq_some_iff.1 h1).1; omega
  · have := (Array.getElem?_eq_some_iff.1 h3).1; omega
theorem cell_of_box {W : World} {B : Nat} {v : Value} {t : TypeId} (h : W.heap[B]? = some (.cells #[v] t (0, 0))) : W.cell? ⟨B, 0, none⟩ = some v := by simp [World.cell?, h]
theorem Fc.cy {Own : World → Nat → Prop} {l yb wb : Nat} {W : World} (h : Fc Own l yb wb W) : W.cell? ⟨yb, 0, none⟩ = some (.func (.yield l) #[] #[]) := cell_of_box h.1.1
theorem Fc.cw {Own : World → Nat → Prop} {l yb wb : Nat} {W : World} (h : Fc Own l yb wb W) : W.cell? ⟨wb, 0, none⟩ = some (.func (.func 33) #[] #[.pointer (some ⟨yb, 0, none⟩), .pointer (some ⟨wb, 0, none⟩)]) := cell_of_box h.2.1
theorem grown_keep {W W' : World} (h : Keeps (fun _ => False) W W') : W.grownBy W' none := ⟨h.os, h.tape, h.output, h.size, fun k hk _ => h.block k hk (fun h => h)⟩
theorem map_one {X : List (Nat × VT)} {ys : List (XI X)} {a : Nat × VT} (h : ys.map (·.1) = [a]) : ∃ hm, ys = [⟨a, hm⟩] := by
  match ys, h with
  | [⟨b, hb⟩], h =>
    have e : b = a := by simpa using h
    subst e
    exact ⟨hb, rfl⟩
theorem map_cons {X : List (Nat × VT)} {ys : List (XI X)} {a : Nat × VT} {l : List (Nat × VT)} (h : ys.map (·.1) = a :: l) : ∃ hm ys', ys = ⟨a, hm⟩ :: ys' ∧ ys'.map (·.1) = l := by
  match ys, h with
  | ⟨b, hb⟩ :: ys', h =>
    have e : b = a ∧ ys'.map (·.1) = l := by simpa using h
    obtain ⟨rfl, e2⟩ := e
    exact ⟨hb, ys', rfl, e2⟩
theorem pre_next {α : Type} {pre ys l : List α} {y : α} (h : pre ++ y :: ys <+: l) : pre ++ [y] <+: l := List.IsPrefix.trans ⟨ys, by simp⟩ h
/-- What a walk over an error answers. -/
def WalkR {X : List (Nat × VT)} (Own : World → Nat → Prop) (J Jx : List (XI X) → World → Prop) (pre ys : List (XI X)) (W : World) (e : Ending) (W' : World) : Prop :=
  (e = .returned (.bool true) ∧ J (pre ++ ys) W' ∧ KpO Own W W') ∨ (e = .returned (.bool false) ∧ ∃ q, q <+: ys ∧ Jx (pre ++ q) W')
section
variable {X : List (Nat × VT)} (Own : World → Nat → Prop) (l yb wb : Nat) (N : List (XI X)) (J Jx : List (XI X) → World → Prop)
/-- What is asked of yield. -/
def YieldOK : Prop := ∀ m pre x W, J pre W → pre ++ [x] <+: N → YieldAt Fence.wide m Tryd.prog l (encI x) W fun e W' => (e = .returned (.bool true) ∧ J (pre ++ [x]) W' ∧ KpO Own W W') ∨ (e = .returned (.bool false) ∧ Jx (pre ++ [x]) W')
/-- What is known of it all. -/
structure IterOK : Prop where
  y : YieldOK Own l N J Jx
  o : OwnOK Own J
  ab : ∀ p W W', J p W → Keeps (fun _ => False) W W' → J p W'
def WalkOK (t : VT) : Prop := ∀ (d n : Nat) (pre ys : List (XI X)) (W : World), ys.map (·.1) = t.items d → At (fun i => ¬ Own W i) W t → Fc Own l yb wb W → J pre W → pre ++ ys <+: N → d + t.deep ≤ 1048576 →
  CallsIn Fence.wide n Tryd.prog 33 #[vv t, .int .i64 d, .pointer (some ⟨yb, 0, none⟩), .pointer (some ⟨wb, 0, none⟩)] W (WalkR Own J Jx pre ys W)
variable {Own l yb wb N J Jx}
theorem IterOK.next (h : IterOK Own l N J Jx) {pre : List (XI X)} {W W1 W2 : World} (hJ : J pre W1) (hk : KpO Own W W1) (h12 : Keeps (fun _ => False) W1 W2) : J pre W2 ∧ KpO Own W W2 := ⟨h.ab _ _ _ hJ h12, hk.trans (KpO.of_new h.o hJ h12)⟩
set_option maxHeartbeats 4000000 in
set_option maxRecDepth 100000 in
theorem walk_nil (hI : IterOK Own l N J Jx) : WalkOK Own l yb wb N J Jx (.nil) := by
  intro d n pre ys W hys hat hfc hJ hN hd
  simp only [VT.items] at hys
  obtain ⟨hm, rfl⟩ := map_one hys
  have c1 := hfc.cy
  obtain ⟨fn, tmps, assign, body, hy, hR⟩ := hI.y (n - 1) pre ⟨(d, .nil), hm⟩ W hJ (pre_next hN)
  simp only [encI, vv] at hy
  have hdd : ∀ k : Nat, (Fence.wide.depth.isSome = true → 1 ≤ k) := fun k h => by cases h
  have x0 := as_nil_spot
  have x1 := as_nil_trail
  have x2 := as_nil_note
  have x3 := as_nil_several
  simp only [vv]
  refine callsIn_of_wp Tryd.func33 rfl trivial ?_
  simp only [Tryd.ntmps33, List.size_toArray, List.length_cons, List.length_nil, Nat.reduceAdd, Nat.reduceSub, Array.replicate_succ, Array.replicate_zero, List.push_toArray, List.append_toArray, List.nil_append, List.cons_append]
  gi_wp2_with (((try refine ⟨hdd _, ?_⟩); refine hR.mono ?_; clear hR; rintro e W1 (⟨rfl, hJ1, hk1⟩ | ⟨rfl, hx1⟩)))
  · go_ret
    exact .inl ⟨rfl, hJ1, hk1⟩
  · go_ret
    exact .inr ⟨rfl, [⟨(d, .nil), hm⟩], List.prefix_refl _, hx1⟩
set_option maxHeartbeats 4000000 in
set_option maxRecDepth 100000 in
theorem walk_num (hI : IterOK Own l N J Jx) (k : Int) : WalkOK Own l yb wb N J Jx (.num k) := by
  intro d n pre ys W hys hat hfc hJ hN hd
  simp only [VT.items] at hys
  obtain ⟨hm, rfl⟩ := map_one hys
  have c1 := hfc.cy
  obtain ⟨fn, tmps, assign, body, hy, hR⟩ := hI.y (n - 1) pre ⟨(d, .num k), hm⟩ W hJ (pre_next hN)
  simp only [encI, vv] at hy
  have hdd : ∀ k : Nat, (Fence.wide.depth.isSome = true → 1 ≤ k) := fun k h => by cases h
  have x0 := as_num_spot
  have x1 := as_num_trail
  have x2 := as_num_note
  have x3 := as_num_several
  simp only [vv]
  refine callsIn_of_wp Tryd.func33 rfl trivial ?_
  simp only [Tryd.ntmps33, List.size_toArray, List.length_cons, List.length_nil, Nat.reduceAdd, Nat.reduceSub, Array.replicate_succ, Array.replicate_zero, List.push_toArray, List.append_toArray, List.nil_append, List.cons_append]
  gi_wp2_with (((try refine ⟨hdd _, ?_⟩); refine hR.mono ?_; clear hR; rintro e W1 (⟨rfl, hJ1, hk1⟩ | ⟨rfl, hx1⟩)))
  · go_ret
    exact .inl ⟨rfl, hJ1, hk1⟩
  · go_ret
    exact .inr ⟨rfl, [⟨(d, .num k), hm⟩], List.prefix_refl _, hx1⟩
set_option maxHeartbeats 4000000 in
set_option maxRecDepth 100000 in
theorem walk_gone (hI : IterOK Own l N J Jx) : WalkOK Own l yb wb N J Jx (.gone) := by
  intro d n pre ys W hys hat hfc hJ hN hd
  simp only [VT.items] at hys
  obtain ⟨hm, rfl⟩ := map_one hys
  have c1 := hfc.cy
  obtain ⟨fn, tmps, assign, body, hy, hR⟩ := hI.y (n - 1) pre ⟨(d, .gone), hm⟩ W hJ (pre_next hN)
  simp only [encI, vv] at hy
  have hdd : ∀ k : Nat, (Fence.wide.depth.isSome = true → 1 ≤ k) := fun k h => by cases h
  have x0 := as_note_spot
  have x1 := as_note_trail
  have x2 := as_note_note
  have x3 := as_note_several
  simp only [vv]
  refine callsIn_of_wp Tryd.func33 rfl trivial ?_
  simp only [Tryd.ntmps33, List.size_toArray, List.length_cons, List.length_nil, Nat.reduceAdd, Nat.reduceSub, Array.replicate_succ, Array.replicate_zero, List.push_toArray, List.append_toArray, List.nil_append, List.cons_append]
  gi_wp2_with (((try refine ⟨hdd _, ?_⟩); refine hR.mono ?_; clear hR; rintro e W1 (⟨rfl, hJ1, hk1⟩ | ⟨rfl, hx1⟩)))
  · gi_wp2
    refine wpIn_wide.2 ?_
    refine wp_region_held_drew (S := Keeps (fun _ => False) W1) (by kernel_rfl) (Keeps.refl (fun _ => False) _).drew (fun hHeld => ?_)
    refine wpAnyH_take (i := 0) (oi := ⟨some 42, _, _, _, _, _⟩) (v := ?_) rfl (by kernel_rfl) (by kernel_rfl) (by kernel_rfl) (fun _ _ _ h => h) (Or.inl ⟨by rfl, ?_⟩) hHeld ?_
    rotate_left
    · intro w' hSw
      go_simp
      first | done | rfl
    try simp only [Act.put, List.setIfInBounds_toArray, List.set_cons_zero, List.set_cons_succ]
    refine wpAnyH_ready (rs := [1]) (by kernel_rfl) (by simp) ?_
    refine AllReadyH.cons (o := ⟨some 43, _, _, _, _, _⟩) rfl (fun K hK => ?_) AllReadyH.nil
    go_simp
    refine (noteUnwrap_nil _).mono ?_
    rintro e W2 ⟨rfl, h2⟩
    subst h2
    refine hK.out _ _ hHeld (fun hHeld => ?_)
    clear hK K
    try simp only [Act.put, List.setIfInBounds_toArray, List.set_cons_zero, List.set_cons_succ]
    refine wpAnyH_take (i := 2) (oi := ⟨some 44, _, _, _, _, _⟩) (v := ?_) rfl (by kernel_rfl) (by kernel_rfl) (by kernel_rfl) (fun _ _ _ h => h) (Or.inl ⟨by rfl, ?_⟩) hHeld ?_
    rotate_left
    · intro w' hSw
      go_simp
      first | done | rfl
    try simp only [Act.put, List.setIfInBounds_toArray, List.set_cons_zero, List.set_cons_succ]
    refine wpAnyH_take (i := 3) (oi := ⟨some 45, _, _, _, _, _⟩) (v := ?_) rfl (by kernel_rfl) (by kernel_rfl) (by kernel_rfl) (fun _ _ _ h => h) (Or.inl ⟨by rfl, ?_⟩) hHeld ?_
    rotate_left
    · intro w' hSw
      go_simp
      first | done | rfl
    try simp only [Act.put, List.setIfInBounds_toArray, List.set_cons_zero, List.set_cons_succ]
    refine wpAnyH_take (i := 4) (oi := ⟨some 46, _, _, _, _, _⟩) (v := undef) rfl (by kernel_rfl) (by kernel_rfl) (by kernel_rfl) (fun _ _ _ h => h) (Or.inr ⟨by rfl, rfl⟩) hHeld ?_
    try simp only [Act.put, List.setIfInBounds_toArray, List.set_cons_zero, List.set_cons_succ]
    refine wpAnyH_take (i := 5) (oi := ⟨some 47, _, _, _, _, _⟩) (v := undef) rfl (by kernel_rfl) (by kernel_rfl) (by kernel_rfl) (fun _ _ _ h => h) (Or.inr ⟨by rfl, rfl⟩) hHeld ?_
    try simp only [Act.put, List.setIfInBounds_toArray, List.set_cons_zero, List.set_cons_succ]
    refine wpAnyH_take (i := 6) (oi := ⟨some 48, _, _, _, _, _⟩) (v := undef) rfl (by kernel_rfl) (by kernel_rfl) (by kernel_rfl) (fun _ _ _ h => h) (Or.inr ⟨by rfl, rfl⟩) hHeld ?_
    try simp only [Act.put, List.setIfInBounds_toArray, List.set_cons_zero, List.set_cons_succ]
    refine wpAnyH_take (i := 7) (oi := ⟨some 49, _, _, _, _, _⟩) (v := undef) rfl (by kernel_rfl) (by kernel_rfl) (by kernel_rfl) (fun _ _ _ h => h) (Or.inr ⟨by rfl, rfl⟩) hHeld ?_
    try simp only [Act.put, List.setIfInBounds_toArray, List.set_cons_zero, List.set_cons_succ]
    refine wpAnyH_take (i := 8) (oi := ⟨some 50, _, _, _, _, _⟩) (v := undef) rfl (by kernel_rfl) (by kernel_rfl) (by kernel_rfl) (fun _ _ _ h => h) (Or.inr ⟨by rfl, rfl⟩) hHeld ?_
    try simp only [Act.put, List.setIfInBounds_toArray, List.set_cons_zero, List.set_cons_succ]
    refine wpAnyH_take (i := 9) (oi := ⟨some 51, _, _, _, _, _⟩) (v := undef) rfl (by kernel_rfl) (by kernel_rfl) (by kernel_rfl) (fun _ _ _ h => h) (Or.inr ⟨by rfl, rfl⟩) hHeld ?_
    try simp only [Act.put, List.setIfInBounds_toArray, List.set_cons_zero, List.set_cons_succ]
    refine wpAnyH_take (i := 10) (oi := ⟨some 52, _, _, _, _, _⟩) (v := undef) rfl (by kernel_rfl) (by kernel_rfl) (by kernel_rfl) (fun _ _ _ h => h) (Or.inr ⟨by rfl, rfl⟩) hHeld ?_
    try simp only [Act.put, List.setIfInBounds_toArray, List.set_cons_zero, List.set_cons_succ]
    refine wpAnyH_take (i := 11) (oi := ⟨some 53, _, _, _, _, _⟩) (v := undef) rfl (by kernel_rfl) (by kernel_rfl) (by kernel_rfl) (fun _ _ _ h => h) (Or.inr ⟨by rfl, rfl⟩) hHeld ?_
    try simp only [Act.put, List.setIfInBounds_toArray, List.set_cons_zero, List.set_cons_succ]
    refine wpAnyH_take (i := 12) (oi := ⟨some 54, _, _, _, _, _⟩) (v := ?_) rfl (by kernel_rfl) (by kernel_rfl) (by kernel_rfl) (fun _ _ _ h => h) (Or.inl ⟨by rfl, ?_⟩) hHeld ?_
    rotate_left
    · intro w' hSw
      go_simp
      first | done | rfl
    try simp only [Act.put, List.setIfInBounds_toArray, List.set_cons_zero, List.set_cons_succ]
    refine wpAnyH_take (i := 13) (oi := ⟨some 6, _, _, _, _, _⟩) (v := ?_) rfl (by kernel_rfl) (by kernel_rfl) (by kernel_rfl) (fun _ _ _ h => h) (Or.inl ⟨by rfl, ?_⟩) hHeld ?_
    rotate_left
    · intro w' hSw
      go_simp
      first | done | rfl
    try simp only [Act.put, List.setIfInBounds_toArray, List.set_cons_zero, List.set_cons_succ]
    refine wpAnyH_done (by kernel_rfl) ?_ _
    have HK := hHeld
    gi_wp2
    go_ret
    exact .inl ⟨rfl, hI.ab _ _ _ hJ1 HK, hk1.trans (KpO.of_new hI.o hJ1 HK)⟩
  · go_ret
    exact .inr ⟨rfl, [⟨(d, .gone), hm⟩], List.prefix_refl _, hx1⟩
set_option maxHeartbeats 4000000 in
set_option maxRecDepth 100000 in
theorem walk_spot (hI : IterOK Own l N J Jx) (k a : Int) : WalkOK Own l yb wb N J Jx (.spot k a) := by
  intro d n pre ys W hys hat hfc hJ hN hd
  simp only [VT.items] at hys
  obtain ⟨hm, ys1, rfl, hys1⟩ := map_cons hys
  obtain ⟨hm1, rfl⟩ := map_one hys1
  have c1 := hfc.cy
  have hdp : (d : Int) + 1 ≤ 1048577 := by have := hd; omega
  have hw1 : IntKind.i64.wrap ((d : Int) + 1) = (d : Int) + 1 := by rw [IntKind.wrap_i64]; omega
  have hfst := (hI.y (n - 1) pre ⟨(d, .spot k a), hm⟩ W hJ (pre_next hN)).mono (R' := fun e W1 => (e = .returned (.bool true) ∧ (W1.alloc (.cells #[.int .i64 k, .int .i64 a] 40)).cell? ⟨yb, 0, none⟩ = some (.func (.yield l) #[] #[]) ∧
      YieldAt Fence.wide (n - 1) Tryd.prog l #[.int .i64 ((d : Int) + 1), .iface 33 (.int .i64 k)] (W1.alloc (.cells #[.int .i64 k, .int .i64 a] 40)) fun e W' => (e = .returned (.bool true) ∧ J (pre ++ [⟨(d, .spot k a), hm⟩, ⟨(d + 1, .num k), hm1⟩]) W' ∧ KpO Own W W') ∨ (e = .returned (.bool false) ∧ Jx (pre ++ [⟨(d, .spot k a), hm⟩, ⟨(d + 1, .num k), hm1⟩]) W')) ∨
      (e = .returned (.bool false) ∧ Jx (pre ++ [⟨(d, .spot k a), hm⟩]) W1)) (fun e W1 h => h.elim (fun ⟨he, hJ1, hk1⟩ => .inl ⟨he, by
        have hal : Keeps (fun _ => False) W1 (W1.alloc (.cells #[.int .i64 k, .int .i64 a] 40)) := (Keeps.refl _ W1).alloc _
        obtain ⟨hJ2, hk2⟩ := hI.next hJ1 hk1 hal
        refine ⟨(hfc.kp hk2).cy, ?_⟩
        have hy := hI.y (n - 1) (pre ++ [⟨(d, .spot k a), hm⟩]) ⟨(d + 1, .num k), hm1⟩ _ hJ2 (by simpa using hN)
        have e1 : encI (⟨(d + 1, .num k), hm1⟩ : XI X) = #[.int .i64 ((d : Int) + 1), .iface 33 (.int .i64 k)] := by simp [encI, vv]
        rw [e1] at hy
        exact hy.mono fun e W' h => h.imp (fun ⟨a, b, c⟩ => ⟨a, by simpa using b, hk2.trans c⟩) (fun ⟨a, b⟩ => ⟨a, by simpa using b⟩)⟩) .inr)
  obtain ⟨fn, tmps, assign, body, hy, hR⟩ := hfst
  simp only [encI, vv] at hy
  have hdd : ∀ k : Nat, (Fence.wide.depth.isSome = true → 1 ≤ k) := fun k h => by cases h
  have x0 := as_spot_spot
  have x1 := as_spot_trail
  simp only [vv]
  refine callsIn_of_wp Tryd.func33 rfl trivial ?_
  simp only [Tryd.ntmps33, List.size_toArray, List.length_cons, List.length_nil, Nat.reduceAdd, Nat.reduceSub, Array.replicate_succ, Array.replicate_zero, List.push_toArray, List.append_toArray, List.nil_append, List.cons_append]
  gi_wp2_with (first
    | ((try refine ⟨hdd _, ?_⟩); refine hR.mono ?_; clear hR; rintro e W1 (⟨rfl, c2, fn2, tmps2, assign2, body2, hy2, hR2⟩ | ⟨rfl, hx1⟩))
    | ((try refine ⟨hdd _, ?_⟩); refine hR2.mono ?_; clear hR2; rintro e W2 (⟨rfl, hJ2, hk2⟩ | ⟨rfl, hx2⟩)))
  · go_ret
    exact .inl ⟨rfl, hJ2, hk2⟩
  · go_ret
    exact .inr ⟨rfl, _, List.prefix_refl _, hx2⟩
  · go_ret
    exact .inr ⟨rfl, [⟨(d, .spot k a), hm⟩], ⟨[_], rfl⟩, hx1⟩
set_option maxHeartbeats 4000000 in
set_option maxRecDepth 100000 in
theorem walk_trail (hI : IterOK Own l N J Jx) (k : Int) (s : ByteArray) : WalkOK Own l yb wb N J Jx (.trail k s) := by
  intro d n pre ys W hys hat hfc hJ hN hd
  simp only [VT.items] at hys
  obtain ⟨hm, ys1, rfl, hys1⟩ := map_cons hys
  obtain ⟨hm1, rfl⟩ := map_one hys1
  have c1 := hfc.cy
  have hdp : (d : Int) + 1 ≤ 1048577 := by have := hd; omega
  have hw1 : IntKind.i64.wrap ((d : Int) + 1) = (d : Int) + 1 := by rw [IntKind.wrap_i64]; omega
  have hfst := (hI.y (n - 1) pre ⟨(d, .trail k s), hm⟩ W hJ (pre_next hN)).mono (R' := fun e W1 => (e = .returned (.bool true) ∧ (W1.alloc (.cells #[.int .i64 k, .string s] 42)).cell? ⟨yb, 0, none⟩ = some (.func (.yield l) #[] #[]) ∧
      YieldAt Fence.wide (n - 1) Tryd.prog l #[.int .i64 ((d : Int) + 1), .iface 33 (.int .i64 k)] (W1.alloc (.cells #[.int .i64 k, .string s] 42)) fun e W' => (e = .returned (.bool true) ∧ J (pre ++ [⟨(d, .trail k s), hm⟩, ⟨(d + 1, .num k), hm1⟩]) W' ∧ KpO Own W W') ∨ (e = .returned (.bool false) ∧ Jx (pre ++ [⟨(d, .trail k s), hm⟩, ⟨(d + 1, .num k), hm1⟩]) W')) ∨
      (e = .returned (.bool false) ∧ Jx (pre ++ [⟨(d, .trail k s), hm⟩]) W1)) (fun e W1 h => h.elim (fun ⟨he, hJ1, hk1⟩ => .inl ⟨he, by
        have hal : Keeps (fun _ => False) W1 (W1.alloc (.cells #[.int .i64 k, .string s] 42)) := (Keeps.refl _ W1).alloc _
        obtain ⟨hJ2, hk2⟩ := hI.next hJ1 hk1 hal
        refine ⟨(hfc.kp hk2).cy, ?_⟩
        have hy := hI.y (n - 1) (pre ++ [⟨(d, .trail k s), hm⟩]) ⟨(d + 1, .num k), hm1⟩ _ hJ2 (by simpa using hN)
        have e1 : encI (⟨(d + 1, .num k), hm1⟩ : XI X) = #[.int .i64 ((d : Int) + 1), .iface 33 (.int .i64 k)] := by simp [encI, vv]
        rw [e1] at hy
        exact hy.mono fun e W' h => h.imp (fun ⟨a, b, c⟩ => ⟨a, by simpa using b, hk2.trans c⟩) (fun ⟨a, b⟩ => ⟨a, by simpa using b⟩)⟩) .inr)
  obtain ⟨fn, tmps, assign, body, hy, hR⟩ := hfst
  simp only [encI, vv] at hy
  have hdd : ∀ k : Nat, (Fence.wide.depth.isSome = true → 1 ≤ k) := fun k h => by cases h
  have x0 := as_trail_spot
  have x1 := as_trail_trail
  simp only [vv]
  refine callsIn_of_wp Tryd.func33 rfl trivial ?_
  simp only [Tryd.ntmps33, List.size_toArray, List.length_cons, List.length_nil, Nat.reduceAdd, Nat.reduceSub, Array.replicate_succ, Array.replicate_zero, List.push_toArray, List.append_toArray, List.nil_append, List.cons_append]
  gi_wp2_with (first
    | ((try refine ⟨hdd _, ?_⟩); refine hR.mono ?_; clear hR; rintro e W1 (⟨rfl, c2, fn2, tmps2, assign2, body2, hy2, hR2⟩ | ⟨rfl, hx1⟩))
    | ((try refine ⟨hdd _, ?_⟩); refine hR2.mono ?_; clear hR2; rintro e W2 (⟨rfl, hJ2, hk2⟩ | ⟨rfl, hx2⟩)))
  · go_ret
    exact .inl ⟨rfl, hJ2, hk2⟩
  · go_ret
    exact .inr ⟨rfl, _, List.prefix_refl _, hx2⟩
  · go_ret
    exact .inr ⟨rfl, [⟨(d, .trail k s), hm⟩], ⟨[_], rfl⟩, hx1⟩
theorem WalkR.bool {pre ys : List (XI X)} {W W' : World} {e : Ending} (h : WalkR Own J Jx pre ys W e W') : ∃ bv, e = .returned (.bool bv) ∧ WalkR Own J Jx pre ys W (.returned (.bool bv)) W' := by
  have h0 := h
  rcases h with ⟨rfl, _⟩ | ⟨rfl, _⟩
  · exact ⟨true, rfl, h0⟩
  · exact ⟨false, rfl, h0⟩
/-- Behind a walk over what comes later. -/
theorem WalkR.later {pre ys0 ys1 : List (XI X)} {W W1 W' : World} {e : Ending} (hk : KpO Own W W1) (h : WalkR Own J Jx (pre ++ ys0) ys1 W1 e W') : WalkR Own J Jx pre (ys0 ++ ys1) W e W' := by
  rcases h with ⟨he, hJ, hk1⟩ | ⟨he, q, hq, hx⟩
  · exact .inl ⟨he, by rw [← List.append_assoc]; exact hJ, hk.trans hk1⟩
  · exact .inr ⟨he, ys0 ++ q, (List.prefix_append_right_inj ys0).2 hq, by rw [← List.append_assoc]; exact hx⟩
set_option maxHeartbeats 4000000 in
set_option maxRecDepth 100000 in
theorem walk_note (hI : IterOK Own l N J Jx) (b : Nat) (wd : ByteArray) (er : VT) (ih : WalkOK Own l yb wb N J Jx er) : WalkOK Own l yb wb N J Jx (.note b wd er) := by
  intro d n pre ys W hys hat hfc hJ hN hd
  have hat' := hat
  simp only [At] at hat
  obtain ⟨hnb, hblk, hate⟩ := hat
  have c1 := hfc.cy
  cases hni : er.isNil with
  | true =>
    simp only [VT.items, hni, if_true] at hys
    obtain ⟨hm, rfl⟩ := map_one hys
    have hfst := (hI.y (n - 1) pre ⟨(d, .note b wd er), hm⟩ W hJ (pre_next hN)).mono (R' := fun e W1 => (e = .returned (.bool true) ∧ W1.cell? ⟨b, 1, none⟩ = some .nilIface ∧ Hid (J (pre ++ [⟨(d, .note b wd er), hm⟩]) W1 ∧ KpO Own W W1)) ∨ (e = .returned (.bool false) ∧ Jx (pre ++ [⟨(d, .note b wd er), hm⟩]) W1)) (fun e W1 h => h.elim (fun ⟨he, hJ1, hk1⟩ => .inl ⟨he, by
      have h1 : Blk W1 b 59 [.string wd, vv er] := hk1.kept _ _ _ _ hblk hnb
      have h2 := h1.cell 1
      rw [vv_nil hni] at h2
      exact h2, Lib.hid ⟨hJ1, hk1⟩⟩) .inr)
    obtain ⟨fn, tmps, assign, body, hy, hR⟩ := hfst
    simp only [encI, vv] at hy
    clear hat' hblk hate
    have hdd : ∀ k : Nat, (Fence.wide.depth.isSome = true → 1 ≤ k) := fun k h => by cases h
    have x0 := as_note_spot
    have x1 := as_note_trail
    have x2 := as_note_note
    simp only [vv]
    refine callsIn_of_wp Tryd.func33 rfl trivial ?_
    simp only [Tryd.ntmps33, List.size_toArray, List.length_cons, List.length_nil, Nat.reduceAdd, Nat.reduceSub, Array.replicate_succ, Array.replicate_zero, List.push_toArray, List.append_toArray, List.nil_append, List.cons_append]
    gi_wp2_with ((try refine ⟨hdd _, ?_⟩); refine hR.mono ?_; clear hR; rintro e W1 (⟨rfl, c2, hJK⟩ | ⟨rfl, hx1⟩))
    · gi_wp2
      refine wpIn_wide.2 ?_
      refine wp_region_held_drew (S := Keeps (fun _ => False) W1) (by kernel_rfl) (Keeps.refl (fun _ => False) _).drew (fun hHeld => ?_)
      refine wpAnyH_take (i := 0) (oi := ⟨some 42, _, _, _, _, _⟩) (v := ?_) rfl (by kernel_rfl) (by kernel_rfl) (by kernel_rfl) (fun _ _ _ h => h) (Or.inl ⟨by rfl, ?_⟩) hHeld ?_
      rotate_left
      · intro w' hSw
        go_simp
        first | done | rfl
      try simp only [Act.put, List.setIfInBounds_toArray, List.set_cons_zero, List.set_cons_succ]
      refine wpAnyH_ready (rs := [1]) (by kernel_rfl) (by simp) ?_
      refine AllReadyH.cons (o := ⟨some 43, _, _, _, _, _⟩) rfl (fun K hK => ?_) AllReadyH.nil
      go_simp
      refine (noteUnwrap_any _ b .nilIface (cell_keep hHeld c2)).mono ?_
      rintro e W2 ⟨rfl, h2⟩
      subst h2
      refine hK.out _ _ hHeld (fun hHeld => ?_)
      clear hK K
      try simp only [Act.put, List.setIfInBounds_toArray, List.set_cons_zero, List.set_cons_succ]
      refine wpAnyH_take (i := 2) (oi := ⟨some 44, _, _, _, _, _⟩) (v := ?_) rfl (by kernel_rfl) (by kernel_rfl) (by kernel_rfl) (fun _ _ _ h => h) (Or.inl ⟨by rfl, ?_⟩) hHeld ?_
      rotate_left
      · intro w' hSw
        go_simp
        first | done | rfl
      try simp only [Act.put, List.setIfInBounds_toArray, List.set_cons_zero, List.set_cons_succ]
      refine wpAnyH_take (i := 3) (oi := ⟨some 45, _, _, _, _, _⟩) (v := ?_) rfl (by kernel_rfl) (by kernel_rfl) (by kernel_rfl) (fun _ _ _ h => h) (Or.inl ⟨by rfl, ?_⟩) hHeld ?_
      rotate_left
      · intro w' hSw
        go_simp
        first | done | rfl
      try simp only [Act.put, List.setIfInBounds_toArray, List.set_cons_zero, List.set_cons_succ]
      refine wpAnyH_take (i := 4) (oi := ⟨some 46, _, _, _, _, _⟩) (v := undef) rfl (by kernel_rfl) (by kernel_rfl) (by kernel_rfl) (fun _ _ _ h => h) (Or.inr ⟨by rfl, rfl⟩) hHeld ?_
      try simp only [Act.put, List.setIfInBounds_toArray, List.set_cons_zero, List.set_cons_succ]
      refine wpAnyH_take (i := 5) (oi := ⟨some 47, _, _, _, _, _⟩) (v := undef) rfl (by kernel_rfl) (by kernel_rfl) (by kernel_rfl) (fun _ _ _ h => h) (Or.inr ⟨by rfl, rfl⟩) hHeld ?_
      try simp only [Act.put, List.setIfInBounds_toArray, List.set_cons_zero, List.set_cons_succ]
      refine wpAnyH_take (i := 6) (oi := ⟨some 48, _, _, _, _, _⟩) (v := undef) rfl (by kernel_rfl) (by kernel_rfl) (by kernel_rfl) (fun _ _ _ h => h) (Or.inr ⟨by rfl, rfl⟩) hHeld ?_
      try simp only [Act.put, List.setIfInBounds_toArray, List.set_cons_zero, List.set_cons_succ]
      refine wpAnyH_take (i := 7) (oi := ⟨some 49, _, _, _, _, _⟩) (v := undef) rfl (by kernel_rfl) (by kernel_rfl) (by kernel_rfl) (fun _ _ _ h => h) (Or.inr ⟨by rfl, rfl⟩) hHeld ?_
      try simp only [Act.put, List.setIfInBounds_toArray, List.set_cons_zero, List.set_cons_succ]
      refine wpAnyH_take (i := 8) (oi := ⟨some 50, _, _, _, _, _⟩) (v := undef) rfl (by kernel_rfl) (by kernel_rfl) (by kernel_rfl) (fun _ _ _ h => h) (Or.inr ⟨by rfl, rfl⟩) hHeld ?_
      try simp only [Act.put, List.setIfInBounds_toArray, List.set_cons_zero, List.set_cons_succ]
      refine wpAnyH_take (i := 9) (oi := ⟨some 51, _, _, _, _, _⟩) (v := undef) rfl (by kernel_rfl) (by kernel_rfl) (by kernel_rfl) (fun _ _ _ h => h) (Or.inr ⟨by rfl, rfl⟩) hHeld ?_
      try simp only [Act.put, List.setIfInBounds_toArray, List.set_cons_zero, List.set_cons_succ]
      refine wpAnyH_take (i := 10) (oi := ⟨some 52, _, _, _, _, _⟩) (v := undef) rfl (by kernel_rfl) (by kernel_rfl) (by kernel_rfl) (fun _ _ _ h => h) (Or.inr ⟨by rfl, rfl⟩) hHeld ?_
      try simp only [Act.put, List.setIfInBounds_toArray, List.set_cons_zero, List.set_cons_succ]
      refine wpAnyH_take (i := 11) (oi := ⟨some 53, _, _, _, _, _⟩) (v := undef) rfl (by kernel_rfl) (by kernel_rfl) (by kernel_rfl) (fun _ _ _ h => h) (Or.inr ⟨by rfl, rfl⟩) hHeld ?_
      try simp only [Act.put, List.setIfInBounds_toArray, List.set_cons_zero, List.set_cons_succ]
      refine wpAnyH_take (i := 12) (oi := ⟨some 54, _, _, _, _, _⟩) (v := ?_) rfl (by kernel_rfl) (by kernel_rfl) (by kernel_rfl) (fun _ _ _ h => h) (Or.inl ⟨by rfl, ?_⟩) hHeld ?_
      rotate_left
      · intro w' hSw
        go_simp
        first | done | rfl
      try simp only [Act.put, List.setIfInBounds_toArray, List.set_cons_zero, List.set_cons_succ]
      refine wpAnyH_take (i := 13) (oi := ⟨some 6, _, _, _, _, _⟩) (v := ?_) rfl (by kernel_rfl) (by kernel_rfl) (by kernel_rfl) (fun _ _ _ h => h) (Or.inl ⟨by rfl, ?_⟩) hHeld ?_
      rotate_left
      · intro w' hSw
        go_simp
        first | done | rfl
      try simp only [Act.put, List.setIfInBounds_toArray, List.set_cons_zero, List.set_cons_succ]
      refine wpAnyH_done (by kernel_rfl) ?_ _
      have HK := hHeld
      gi_wp2
      go_ret
      exact .inl ⟨rfl, hI.ab _ _ _ hJK.out.1 HK, hJK.out.2.trans (KpO.of_new hI.o hJK.out.1 HK)⟩
    · go_ret
      exact .inr ⟨rfl, [⟨(d, .note b wd er), hm⟩], List.prefix_refl _, hx1⟩
  | false =>
    simp only [VT.items, hni] at hys
    obtain ⟨hm, ys1, rfl, hys1⟩ := map_cons hys
    obtain ⟨T0, xv, hx0⟩ := vv_iface hni
    have hdp : (d : Int) + 1 ≤ 1048577 := by have := hd; omega
    have HW1 : Hid (IntKind.i64.wrap ((d : Int) + 1) = (d : Int) + 1) := Lib.hid (by rw [IntKind.wrap_i64]; omega)
    have hfst := (hI.y (n - 1) pre ⟨(d, .note b wd er), hm⟩ W hJ (pre_next hN)).mono (R' := fun e W1 => (e = .returned (.bool true) ∧ Hid (W1.cell? ⟨b, 1, none⟩ = some (.iface T0 xv)) ∧ Hid (W1.cell? ⟨wb, 0, none⟩ = some (.func (.func 33) #[] #[.pointer (some ⟨yb, 0, none⟩), .pointer (some ⟨wb, 0, none⟩)])) ∧
        Hid (∀ W2, Keeps (fun _ => False) W1 W2 → Calls Tryd.prog 33 #[.iface T0 xv, .int .i64 ((d : Int) + 1), .pointer (some ⟨yb, 0, none⟩), .pointer (some ⟨wb, 0, none⟩)] W2 fun e W' => ∃ bv, e = .returned (.bool bv) ∧ WalkR Own J Jx pre (⟨(d, .note b wd er), hm⟩ :: ys1) W (.returned (.bool bv)) W')) ∨
        (e = .returned (.bool false) ∧ Jx (pre ++ [⟨(d, .note b wd er), hm⟩]) W1)) (fun e W1 h => h.elim (fun ⟨he, hJ1, hk1⟩ => .inl ⟨he, by
      have h1 : Blk W1 b 59 [.string wd, vv er] := hk1.kept _ _ _ _ hblk hnb
      have h2 := h1.cell 1
      rw [hx0] at h2
      exact Lib.hid h2, Lib.hid (hfc.kp hk1).cw, Lib.hid fun W2 hW2 => by
      obtain ⟨hJ2, hk2⟩ := hI.next hJ1 hk1 hW2
      have h3 := callsIn_wide.1 (ih (d + 1) 0 (pre ++ [⟨(d, .note b wd er), hm⟩]) ys1 W2 (by simpa using hys1) (hate.kp hk2) (hfc.kp hk2) hJ2 (by simpa using hN) (by rw [deep_note, hni] at hd; simp at hd; omega))
      rw [hx0, show (((d + 1 : Nat)) : Int) = (d : Int) + 1 by omega] at h3
      refine h3.mono fun e W' h => ?_
      have h4 := WalkR.later (ys0 := [⟨(d, .note b wd er), hm⟩]) hk2 h
      exact h4.bool⟩) .inr)
    obtain ⟨fn, tmps, assign, body, hy, hR⟩ := hfst
    simp only [encI, vv] at hy
    clear hat' hblk hate hx0 hys hys1
    have hdd : ∀ k : Nat, (Fence.wide.depth.isSome = true → 1 ≤ k) := fun k h => by cases h
    have x0 := as_note_spot
    have x1 := as_note_trail
    have x2 := as_note_note
    simp only [vv]
    refine callsIn_of_wp Tryd.func33 rfl trivial ?_
    simp only [Tryd.ntmps33, List.size_toArray, List.length_cons, List.length_nil, Nat.reduceAdd, Nat.reduceSub, Array.replicate_succ, Array.replicate_zero, List.push_toArray, List.append_toArray, List.nil_append, List.cons_append]
    gi_wp2_with ((try refine ⟨hdd _, ?_⟩); refine hR.mono ?_; clear hR; rintro e W1 (⟨rfl, HCB, HCW, HWK⟩ | ⟨rfl, hx1⟩))
    · gi_wp2
      refine wpIn_wide.2 ?_
      refine wp_region_tail (S := Keeps (fun _ => False) W1) 11 (by kernel_rfl) (Keeps.refl (fun _ => False) _).drew (fun hHeld => ?_)
      refine wpAnyT_pure (i := 0) (oi := ⟨some 42, _, _, _, _, _⟩) (v := ?_) rfl (by kernel_rfl) (by kernel_rfl) (by kernel_rfl) (fun _ _ _ h => h) (Or.inl ⟨by rfl, ?_⟩) ?_
      rotate_left
      · intro w' hSw
        go_simp
        first | done | rfl
      try simp only [Act.put, List.setIfInBounds_toArray, List.set_cons_zero, List.set_cons_succ]
      refine wpAnyT_step (i := 1) (o := ⟨some 43, _, _, _, _, _⟩) (by kernel_rfl) rfl (fun K hK => ?_)
      go_simp
      refine (noteUnwrap_any _ b (.iface T0 xv) (cell_keep hHeld HCB.out)).mono ?_
      rintro e W2 ⟨rfl, h2⟩
      subst h2
      refine hK.out _ _ hHeld (fun hHeld => ?_)
      clear hK K
      try simp only [Act.put, List.setIfInBounds_toArray, List.set_cons_zero, List.set_cons_succ]
      refine wpAnyT_pure (i := 2) (oi := ⟨some 44, _, _, _, _, _⟩) (v := ?_) rfl (by kernel_rfl) (by kernel_rfl) (by kernel_rfl) (fun _ _ _ h => h) (Or.inl ⟨by rfl, ?_⟩) ?_
      rotate_left
      · intro w' hSw
        go_simp
        first | done | rfl
      try simp only [Act.put, List.setIfInBounds_toArray, List.set_cons_zero, List.set_cons_succ]
      refine wpAnyT_pure (i := 3) (oi := ⟨some 45, _, _, _, _, _⟩) (v := ?_) rfl (by kernel_rfl) (by kernel_rfl) (by kernel_rfl) (fun _ _ _ h => h) (Or.inl ⟨by rfl, ?_⟩) ?_
      rotate_left
      · intro w' hSw
        go_simp
        first | done | rfl
      try simp only [Act.put, List.setIfInBounds_toArray, List.set_cons_zero, List.set_cons_succ]
      refine wpAnyT_take [4, 11] (i := 4) (oi := ⟨some 46, _, _, _, _, _⟩) (v := ?_) rfl (by kernel_rfl) (by kernel_rfl) (by kernel_rfl) (by kernel_rfl) (by kernel_rfl) (fun _ _ _ h => h) (Or.inl ⟨by rfl, ?_⟩) hHeld ?_
      rotate_left
      · intro w' hSw
        have cv := cell_keep hSw HCW.out
        go_simp
        first | done | rfl
      try simp only [Act.put, List.setIfInBounds_toArray, List.set_cons_zero, List.set_cons_succ]
      refine wpAnyT_pure (i := 5) (oi := ⟨some 47, _, _, _, _, _⟩) (v := ?_) rfl (by kernel_rfl) (by kernel_rfl) (by kernel_rfl) (fun _ _ _ h => h) (Or.inl ⟨by rfl, ?_⟩) ?_
      rotate_left
      · intro w' hSw
        go_simp
        first | done | rfl
      try simp only [Act.put, List.setIfInBounds_toArray, List.set_cons_zero, List.set_cons_succ]
      refine wpAnyT_pure (i := 6) (oi := ⟨some 48, _, _, _, _, _⟩) (v := ?_) rfl (by kernel_rfl) (by kernel_rfl) (by kernel_rfl) (fun _ _ _ h => h) (Or.inl ⟨by rfl, ?_⟩) ?_
      rotate_left
      · intro w' hSw
        go_simp
        first | done | rfl
      try simp only [Act.put, List.setIfInBounds_toArray, List.set_cons_zero, List.set_cons_succ]
      refine wpAnyT_pure (i := 7) (oi := ⟨some 49, _, _, _, _, _⟩) (v := ?_) rfl (by kernel_rfl) (by kernel_rfl) (by kernel_rfl) (fun _ _ _ h => h) (Or.inl ⟨by rfl, ?_⟩) ?_
      rotate_left
      · intro w' hSw
        go_simp
        first | done | rfl
      try simp only [Act.put, List.setIfInBounds_toArray, List.set_cons_zero, List.set_cons_succ]
      refine wpAnyT_take [8, 11] (i := 8) (oi := ⟨some 50, _, _, _, _, _⟩) (v := ?_) rfl (by kernel_rfl) (by kernel_rfl) (by kernel_rfl) (by kernel_rfl) (by kernel_rfl) (fun _ _ _ h => h) (Or.inl ⟨by rfl, ?_⟩) hHeld ?_
      rotate_left
      · intro w' hSw
        have cv := cell_keep hSw HCB.out
        go_simp
        first | done | rfl
      try simp only [Act.put, List.setIfInBounds_toArray, List.set_cons_zero, List.set_cons_succ]
      refine wpAnyT_pure (i := 9) (oi := ⟨some 51, _, _, _, _, _⟩) (v := ?_) rfl (by kernel_rfl) (by kernel_rfl) (by kernel_rfl) (fun _ _ _ h => h) (Or.inl ⟨by rfl, ?_⟩) ?_
      rotate_left
      · intro w' hSw
        go_simp
        first | done | rfl
      try simp only [Act.put, List.setIfInBounds_toArray, List.set_cons_zero, List.set_cons_succ]
      refine wpAnyT_pure (i := 10) (oi := ⟨some 52, _, _, _, _, _⟩) (v := ?_) rfl (by kernel_rfl) (by kernel_rfl) (by kernel_rfl) (fun _ _ _ h => h) (Or.inl ⟨by rfl, ?_⟩) ?_
      rotate_left
      · intro w' hSw
        have hw := HW1.out
        go_simp
        first | done | rfl
      try simp only [Act.put, List.setIfInBounds_toArray, List.set_cons_zero, List.set_cons_succ]
      refine wpAnyT_tail (i := 11) (o := ⟨some 53, _, _, _, _, _⟩) (by kernel_rfl) (by kernel_rfl) rfl (fun K hK => ?_)
      go_simp
      refine (HWK.out _ hHeld).mono ?_
      rintro e9 W3 ⟨bv, rfl, hw3⟩
      have HW3 := Lib.hid hw3
      clear hw3
      refine hK.out _ _ ?_
      clear hK K
      try simp only [Act.put, List.setIfInBounds_toArray, List.set_cons_zero, List.set_cons_succ]
      refine wpAnyT_tail (i := 12) (o := ⟨some 54, _, _, _, _, _⟩) (by kernel_rfl) (by kernel_rfl) rfl (fun K hK => ?_)
      go_simp
      refine hK.out _ _ ?_
      clear hK K
      try simp only [Act.put, List.setIfInBounds_toArray, List.set_cons_zero, List.set_cons_succ]
      refine wpAnyT_tail (i := 13) (o := ⟨some 6, _, _, _, _, _⟩) (by kernel_rfl) (by kernel_rfl) rfl (fun K hK => ?_)
      go_simp
      refine hK.out _ _ ?_
      clear hK K
      try simp only [Act.put, List.setIfInBounds_toArray, List.set_cons_zero, List.set_cons_succ]
      refine wpAnyT_done (by kernel_rfl) ?_
      gi_wp2
      go_ret
      exact HW3.out
    · go_ret
      exact .inr ⟨rfl, [⟨(d, .note b wd er), hm⟩], ⟨ys1, rfl⟩, hx1⟩
/-- While the errors of a list are gone through. -/
structure AllInv (W wr : World) (d : Nat) (L : List VT) (A5 : Option Addr) (m j : Nat) (pre ys1 : List (XI X)) (y0 : XI X) (ysd ysr : List (XI X)) : Prop where
  split : ys1 = ysd ++ ysr
  rest : ysr.map (·.1) = ((L.drop j).map fun x => x.items (d + 1)).flatten
  J_ : J (pre ++ ([y0] ++ ysd)) wr
  kp : KpO Own W wr
  fc : Fc Own l yb wb wr
  at_ : ∀ x, x ∈ L → At (fun i => ¬ Own wr i) wr x
  row : 0 < m → ∃ g cur, A5 = some ⟨g, 0, none⟩ ∧ wr.heap[g]? = some (.cells cur 24 (0, 0)) ∧ ¬ Own wr g ∧ ∀ i, i < m → cur[i]? = (L.map vv)[i]?
set_option maxHeartbeats 4000000 in
set_option maxRecDepth 100000 in
theorem walk_all (hI : IterOK Own l N J Jx) (A : Option Addr) (c : Nat) (L : List VT) (ih : ∀ x, x ∈ L → WalkOK Own l yb wb N J Jx x) : WalkOK Own l yb wb N J Jx (.all A c L) := by
  intro d n pre ys W hys hat hfc hJ hN hd
  simp only [At] at hat
  obtain ⟨hlen, how, hno, hatx⟩ := hat
  have c1 := hfc.cy
  simp only [VT.items] at hys
  obtain ⟨hm, ys1, rfl, hys1⟩ := map_cons hys
  obtain ⟨m, hmm⟩ : ∃ m, m = L.length := ⟨_, rfl⟩
  rw [← hmm] at how hno hlen
  have hw1 : IntKind.i64.wrap ((d : Int) + 1) = (d : Int) + 1 := by rw [IntKind.wrap_i64]; omega
  obtain ⟨y0, hy0⟩ : ∃ y0 : XI X, y0 = ⟨(d, .all A c L), hm⟩ := ⟨_, rfl⟩
  rw [← hy0] at hN
  have hfst := (hI.y (n - 1) pre y0 W hJ (pre_next hN)).mono (R' := fun e W1 => (e = .returned (.bool true) ∧ Hid (Calls Tryd.prog 64 #[.slice A m c] W1 fun e W2 => ∃ A5 c5, e = .returned (.slice A5 m c5) ∧ AllInv (Own := Own) (l := l) (yb := yb) (wb := wb) (J := J) W W2 d L A5 m 0 pre ys1 y0 [] ys1)) ∨
      (e = .returned (.bool false) ∧ Jx (pre ++ [y0]) W1)) (fun e W1 h => h.elim (fun ⟨he, hJ1, hk1⟩ => .inl ⟨he, Lib.hid (by
    have hr1 : Rd W1 A m (L.map vv) := by
      have h2 : W1.ownsRow 0 24 1 (.slice A m c) m (L.map vv) := by
        refine ⟨how.1, ?_⟩
        rcases how.2 with hz | ⟨g, cap, cur, hv, hb, hg, rest⟩
        · exact .inl hz
        · exact .inr ⟨g, cap, cur, hv, hb, hk1.kept _ _ _ _ hg (hno g (by rw [hv]; rfl)), rest⟩
      exact Rd.of_own h2
    refine (allUnwrap_any W1 A m c (L.map vv) hr1 (vv_all L) (by omega)).mono fun e W2 ⟨A5, c5, he5, hm5⟩ => ⟨A5, c5, he5, ?_⟩
    obtain ⟨hJ2, hk2⟩ := hI.next hJ1 hk1 hm5.2.1
    refine ⟨by simp, by simpa using hys1, by simpa using hJ2, hk2, hfc.kp hk2, fun x hx => (hatx x hx).kp hk2, fun h0 => ?_⟩
    rcases hm5.1.2 with ⟨_, hz⟩ | ⟨g, cap, cur, hv, hb, hg, hle, hms, hs, ht⟩
    · omega
    · injection hv with hv1 hv2 hv3
      subst hv1
      refine ⟨g, cur, rfl, hg, fun ho => ?_, fun i hi => ?_⟩
      · have h5 := hI.o.lt _ _ hJ1 g (hI.o.old _ _ _ hJ1 hm5.2.1 g ho)
        have h6 := hm5.2.2 g rfl
        omega
      · rw [← ht, List.getElem?_take, if_pos (by omega)]
        simp)⟩) .inr)
  obtain ⟨fn, tmps, assign, body, hy, hR⟩ := hfst
  have HIH := Lib.hid ih
  have HY0 := Lib.hid hy0
  have HMM := Lib.hid hmm
  rw [hy0] at hy
  simp only [encI, vv] at hy
  rw [← hmm] at hy
  have HD : Hid (∀ x, x ∈ L → d + 1 + x.deep ≤ 1048576) := Lib.hid fun x hx => by
    rw [deep_all] at hd
    have := mem_maxL (List.mem_map.2 ⟨x, hx, rfl⟩ : x.deep ∈ L.map fun t => t.deep)
    omega
  have HN : Hid (pre ++ y0 :: ys1 <+: N) := Lib.hid hN
  clear ih hy0 hatx hno how hys hys1 hfc hN hd hJ
  have hdd : ∀ k : Nat, (Fence.wide.depth.isSome = true → 1 ≤ k) := fun k h => by cases h
  have x1 := as_all_spot
  have x2 := as_all_trail
  have x3 := as_all_note
  have x4 := as_all_several
  simp only [vv]
  rw [← hmm]
  clear hmm
  refine callsIn_of_wp Tryd.func33 rfl trivial ?_
  simp only [Tryd.ntmps33, List.size_toArray, List.length_cons, List.length_nil, Nat.reduceAdd, Nat.reduceSub, Array.replicate_succ, Array.replicate_zero, List.push_toArray, List.append_toArray, List.nil_append, List.cons_append]
  have mU : ∀ (v : Value) (w : World), (Go.method 253 45 v "Unwrap").run Tryd.prog w = .ok (64, v) w := fun v w => by kernel_rfl
  gi_wp2_with (first
    | ((try refine ⟨hdd _, ?_⟩); refine hR.mono ?_; clear hR; rintro e W1 (⟨rfl, HUW⟩ | ⟨rfl, hx1⟩))
    | ((try refine ⟨trivial, ?_⟩); (try refine ⟨hdd _, ?_⟩); gi_at_call 64; refine (callsIn_wide.2 HUW.out).mono ?_; rintro e W2 ⟨A5, c5, rfl, hin⟩; have HIN := Lib.hid hin; clear hin HUW))
  · gi_loopw [61] (fun i wr => ∃ (j : Nat) (ysd ysr : List (XI X)), j ≤ m ∧ i = .int .i64 j ∧ Hid (AllInv (Own := Own) (l := l) (yb := yb) (wb := wb) (J := J) W wr d L A5 m j pre ys1 y0 ysd ysr)) (fun i _ => m - (intOf i).toNat)
    case atStart => exact ⟨0, [], ys1, by omega, rfl, HIN⟩
    case round =>
      obtain ⟨j, ysd, ysr, hj, rfl, HV⟩ := hrel
      by_cases hlt : j < m
      · obtain ⟨g, cur, hA5, hg, hng, hcur⟩ := HV.out.row (by omega)
        subst hA5
        obtain ⟨x, hx⟩ : ∃ x, L[j]? = some x := ⟨_, List.getElem?_eq_getElem (by have := HMM.out; omega)⟩
        have hxm := List.mem_of_getElem? hx
        have hdj : L.drop j = x :: L.drop (j + 1) := by
          rw [List.drop_eq_getElem_cons (by have := HMM.out; omega)]
          rw [List.getElem?_eq_getElem (by have := HMM.out; omega)] at hx
          injection hx with hx
          rw [hx]
        have hrest := HV.out.rest
        rw [hdj, List.map_cons, List.flatten_cons] at hrest
        obtain ⟨yx, ysr', hsp, hyx, hyr⟩ := List.map_eq_append_iff.1 hrest
        have hcl : wr.cell? ⟨g, j, none⟩ = some (vv x) := by
          have h1 : cur[j]? = some (vv x) := by rw [hcur j hlt, List.getElem?_map, hx]; rfl
          rw [cell_of_row wr g j cur 24 (0, 0) hg, h1]
        have hcw := HV.out.fc.cw
        have hwk := HIH.out x hxm (d + 1) (n - 1) (pre ++ ([y0] ++ ysd)) yx wr hyx (HV.out.at_ x hxm) HV.out.fc HV.out.J_ (by
          have h1 := HN.out
          rw [HV.out.split, hsp] at h1
          exact List.IsPrefix.trans ⟨ysr', by simp⟩ h1) (HD.out x hxm)
        have hwk := hwk.mono (R' := fun e W3 => (e = .returned (.bool true) ∧ Hid (AllInv (Own := Own) (l := l) (yb := yb) (wb := wb) (J := J) W W3 d L (some ⟨g, 0, none⟩) m (j + 1) pre ys1 y0 (ysd ++ yx) ysr')) ∨ (e = .returned (.bool false) ∧ Hid (∃ q, q <+: (y0 :: ys1) ∧ Jx (pre ++ q) W3))) (fun e W3 h => by
          rcases h with ⟨he, hJ3, hk3⟩ | ⟨he, q, hq, hx3⟩
          · refine .inl ⟨he, Lib.hid ⟨by rw [HV.out.split, hsp, List.append_assoc], hyr, by rw [← List.append_assoc [y0], ← List.append_assoc pre]; exact hJ3, HV.out.kp.trans hk3, HV.out.fc.kp hk3, fun z hz => (HV.out.at_ z hz).kp hk3, fun _ => ⟨g, cur, rfl, hk3.kept _ _ _ _ hg hng, fun ho => (hk3.own g ho).elim hng (fun hl => ?_), hcur⟩⟩⟩
            have := (Array.getElem?_eq_some_iff.1 hg).1
            omega
          · refine .inr ⟨he, Lib.hid ⟨[y0] ++ ysd ++ q, ?_, by rw [List.append_assoc [y0], ← List.append_assoc pre]; simpa [List.append_assoc] using hx3⟩⟩
            rw [HV.out.split, hsp]
            obtain ⟨tl, htl⟩ := hq
            exact ⟨tl ++ ysr', by rw [← htl]; simp [List.append_assoc]⟩)
        rw [show (((d + 1 : Nat)) : Int) = (d : Int) + 1 by omega] at hwk
        clear hx hxm hdj hrest hsp hyx hyr hg hng hcur
        gi_wp2_with ((try refine ⟨trivial, ?_⟩); (try refine ⟨hdd _, ?_⟩); gi_at_call 33; refine hwk.mono ?_; clear hwk; rintro e W3 (⟨rfl, HV3⟩ | ⟨rfl, HX3⟩))
        · go_roundw
          case rel => exact ⟨j + 1, _, _, by omega, by go_num, HV3⟩
          case measure => simp [intOf]; omega
        · go_ret
          exact .inr ⟨rfl, by rw [← HY0.out]; exact HX3.out⟩
      · obtain rfl : j = m := by omega
        have hnil : ysr = [] := by
          have h1 := HV.out.rest
          rw [List.drop_of_length_le (by have := HMM.out; omega)] at h1
          simpa using h1
        gi_wp2
        go_ret
        refine .inl ⟨rfl, ?_, HV.out.kp⟩
        have h1 := HV.out.J_
        have h2 := HV.out.split
        rw [hnil, List.append_nil] at h2
        rw [← h2] at h1
        rw [← HY0.out]
        exact h1
  · go_ret
    exact .inr ⟨rfl, [y0], by rw [HY0.out]; exact ⟨ys1, rfl⟩, hx1⟩
theorem walk_any (hI : IterOK Own l N J Jx) (t : VT) : WalkOK Own l yb wb N J Jx t := by
  induction t using VT.ind with
  | h0 => exact walk_nil hI
  | h1 k => exact walk_num hI k
  | h2 k a => exact walk_spot hI k a
  | h3 k s => exact walk_trail hI k s
  | h4 => exact walk_gone hI
  | h5 b wd e ih => exact walk_note hI b wd e ih
  | h6 A c L ih => exact walk_all hI A c L ih
end
end Go.Proofs.YtinonjfnhedlpaaDoor
