/-
  WALKS: the iterator over an error as a contract; all.
-/
import Derived.Test.YtinonjfnhedlpaaDoorFIterW
import Derived.Test.YtinonjfnhedlpaaDoorFRoundK
import Derived.Laws.EntriesVeiled
set_option linter.unusedSimpArgs false
namespace Go.Fault
open Go Go.RowKit
/-- An iterator that hands its items out along a list: of a round it asks only what comes next. -/
def SeqNext {α : Type} (ok : List α → α → Prop) (F : Fence) (n : Nat) (P : Program) (g : Nat) (lb : Array Value) (encs : α → Array Value) (Kp : World → World → Prop) (S Sp : List α → Prop) (w : World) : Prop :=
  ∀ (l : Nat) (J Jx : List α → World → Prop) (W : World), Below w.heap.size w W → AbidesFrom W.heap.size J → AbidesFrom W.heap.size Jx →
    (∀ pre x W1, J pre W1 → ok pre x → YieldAt F (n - 1) P l (encs x) W1 fun e W' =>
      (e = .returned (.bool true) ∧ J (pre ++ [x]) W' ∧ Kp W1 W') ∨ (e = .returned (.bool false) ∧ Jx (pre ++ [x]) W')) →
    J [] W →
    CallsIn F n P g (#[.func (.yield l) #[] #[]] ++ lb) W fun e W' => (∃ v, e = .returned v) ∧ ((∃ xs, S xs ∧ J xs W') ∨ (∃ pre, Sp pre ∧ Jx pre W'))
theorem SeqNext.stops {α : Type} {ok : List α → α → Prop} {F : Fence} {n : Nat} {P : Program} {g : Nat} {lb : Array Value} {encs : α → Array Value} {Kp : World → World → Prop} {S Sp : List α → Prop} {w : World} {N : Nat}
    (h : SeqNext ok F n P g lb encs Kp S Sp w) (hok : ∀ pre x, ok pre x → pre.length < N) : SeqStopsK F n P g lb encs Kp S Sp N w :=
  fun l J Jx W hW hJ hJx hY h0 => h l J Jx W hW hJ hJx (fun pre x W1 hj hx => hY pre x W1 hj (hok pre x hx)) h0
end Go.Fault
namespace Go.Proofs.YtinonjfnhedlpaaDoor
open Go Go.RowKit Go.Shelf Go.Aff Go.Fault
attribute [local go_sem] Oper.semAt_some
/-- The blocks that are a body's own: its boxes, and the rows of the slices that lie in them. -/
def OwnB (Bs : List Nat) (W : World) (i : Nat) : Prop := i ∈ Bs ∨ ∃ B, B ∈ Bs ∧ ∃ a n c, W.cell? ⟨B, 0, none⟩ = some (.slice (some a) n c) ∧ i = a.block
theorem OwnB.old {Bs : List Nat} {W W' : World} {m i : Nat} (hB : ∀ B, B ∈ Bs → B < m) (h : ∀ k, k < m → W'.heap[k]? = W.heap[k]?) (ho : OwnB Bs W' i) : OwnB Bs W i := by
  rcases ho with h1 | ⟨B, hb, a, n, c, hc, rfl⟩
  · exact .inl h1
  · refine .inr ⟨B, hb, a, n, c, ?_, rfl⟩
    rw [← hc]
    unfold World.cell?
    rw [h B (hB B hb)]
/-- What the iterator knows of the caller's own. -/
def JS {β : Type} (Bs : List Nat) (m : Nat) (J : β → World → Prop) (p : β) (V : World) : Prop := J p V ∧ m ≤ V.heap.size ∧ ∀ i, OwnB Bs V i → i < V.heap.size
theorem JS.own {β : Type} {Bs : List Nat} {m : Nat} {J : β → World → Prop} (hB : ∀ B, B ∈ Bs → B < m) : OwnOK (OwnB Bs) (JS Bs m J) :=
  ⟨fun _ _ h i ho => h.2.2 i ho, fun _ W W' h hk i ho => OwnB.old (m := m) hB (fun k hk' => hk.block k (by have := h.2.1; omega) (fun h => h)) ho⟩
theorem OwnB.kb {Bs : List Nat} {m : Nat} (hB : ∀ B, B ∈ Bs → B < m) (W : World) (l : Nat) (o o' : Obj) (hl : m ≤ l) (ho : W.heap[l]? = some o) (hc : o.isCells = false) : KpO (OwnB Bs) W (W.putObj l o') := by
  refine ⟨by simp, fun i c t fr hi _ => ?_, fun i hi => .inl (OwnB.old (m := m) hB (fun k hk => World.putObj_heap_other (by omega)) hi)⟩
  have hne : i ≠ l := fun e => by
    subst e
    rw [ho] at hi
    injection hi with hi
    subst hi
    simp [Obj.isCells] at hc
  exact (World.putObj_heap_other hne).trans hi
def doneF (t : VT) (ys : List (XI (t.items 1))) : Prop := ys.map (·.1) = t.items 1
def partF (t : VT) (q : List (XI (t.items 1))) : Prop := q.map (·.1) <+: t.items 1
theorem doneF_attach (t : VT) : doneF t (t.items 1).attach := List.attach_map_subtype_val _
set_option maxHeartbeats 4000000 in
set_option maxRecDepth 100000 in
theorem all_next (n : Nat) (Bs : List Nat) (b : Nat) (t : VT) (w : World) (hBs : ∀ B, B ∈ Bs → B < w.heap.size) (hOw : ∀ i, OwnB Bs w i → i < w.heap.size)
    (hb : w.heap[b]? = some (.cells #[vv t] 24 (0, 0))) (hat : At (fun i => ¬ OwnB Bs w i) w t) (hd : t.deep ≤ 1048575) :
    SeqNext (fun pre x => pre ++ [x] <+: (t.items 1).attach) Fence.wide n Tryd.prog 32 #[.pointer (some ⟨b, 0, none⟩)] (encI (X := t.items 1)) (KpO (OwnB Bs)) (doneF t) (partF t) w := by
  intro l J Jx W hW hJ hJx hY h0
  have hWs := hW.size
  have hbl : b < w.heap.size := (Array.getElem?_eq_some_iff.1 hb).1
  have cW : W.cell? ⟨b, 0, none⟩ = some (vv t) := cell_of_box ((hW.block b hbl).trans hb)
  obtain ⟨W3, hW3⟩ : ∃ W3, W3 = (W.alloc (.cells #[.func (.yield l) #[] #[]] 98)).alloc (.cells #[.func (.func 33) #[] #[.pointer (some ⟨W.heap.size, 0, none⟩), .pointer (some ⟨W.heap.size + 1, 0, none⟩)]] 95) := ⟨_, rfl⟩
  have k3 : Keeps (fun _ => False) W W3 := by rw [hW3]; exact ((Keeps.refl _ W).alloc _).alloc _
  have o3 : ∀ i, OwnB Bs W3 i → OwnB Bs w i := fun i ho => OwnB.old (m := w.heap.size) hBs (fun k hk => (k3.block k (by omega) (fun h => h)).trans (hW.block k hk)) ho
  have hV3 : Blk W3 (W.heap.size + 1) 95 [.func (.func 33) #[] #[.pointer (some ⟨W.heap.size, 0, none⟩), .pointer (some ⟨W.heap.size + 1, 0, none⟩)]] := by
    have h1 := Blk.new (W.alloc (.cells #[.func (.yield l) #[] #[]] 98)) 95 [.func (.func 33) #[] #[.pointer (some ⟨W.heap.size, 0, none⟩), .pointer (some ⟨W.heap.size + 1, 0, none⟩)]]
    rw [World.size_alloc] at h1
    rw [hW3]
    exact h1
  have hY3 : Blk W3 W.heap.size 98 [.func (.yield l) #[] #[]] := by
    rw [hW3]
    exact (Blk.new W 98 [.func (.yield l) #[] #[]]).alloc _
  have hfc : Fc (OwnB Bs) l W.heap.size (W.heap.size + 1) W3 := ⟨⟨hY3, fun ho => by have := hOw _ (o3 _ ho); omega⟩, hV3, fun ho => by have := hOw _ (o3 _ ho); omega⟩
  have hat3 : At (fun i => ¬ OwnB Bs W3 i) W3 t := by
    have h1 : At (fun i => ¬ OwnB Bs w i ∧ i < w.heap.size) w t := hat.mono fun i hi hl => ⟨hi, hl⟩
    have h2 : At (fun i => ¬ OwnB Bs w i ∧ i < w.heap.size) W3 t := h1.kept fun i c t fr hi hD => ((k3.block i (by omega) (fun h => h)).trans (hW.block i hD.2)).trans hi
    exact h2.mono fun i hi _ ho => hi.1 (o3 i ho)
  have hI : IterOK (X := t.items 1) (OwnB Bs) l (t.items 1).attach (JS Bs w.heap.size J) Jx := by
    refine ⟨fun m pre x V hV hlen => ?_, JS.own hBs, fun p V V' hV hk => ⟨hJ _ _ _ none hV.1 (grown_keep hk) (fun r e => by cases e), Nat.le_trans hV.2.1 hk.size, fun i ho => Nat.lt_of_lt_of_le (hV.2.2 i ((JS.own hBs).old p V V' hV hk i ho)) hk.size⟩⟩
    refine YieldAt.deepW ((hY pre x V hV.1 hlen).mono ?_)
    rintro e V' (⟨he, hj, hk⟩ | h)
    · exact .inl ⟨he, ⟨hj, Nat.le_trans hV.2.1 hk.size, fun i ho => (hk.own i ho).elim (fun h => Nat.lt_of_lt_of_le (hV.2.2 i h) hk.size) (·.2)⟩, hk⟩
    · exact .inr h
  have hwk := walk_any hI t 1 (n - 1) [] (t.items 1).attach W3 (doneF_attach t) hat3 hfc ⟨hJ _ _ _ none h0 (grown_keep k3) (fun r e => by cases e), Nat.le_trans hWs k3.size, fun i ho => by have h1 := hOw i (o3 i ho); have h2 := k3.size; omega⟩ (by simp) (by omega)
  rw [show ((1 : Nat) : Int) = 1 from rfl] at hwk
  have cE : W3.cell? ⟨b, 0, none⟩ = some (vv t) := cell_keep k3 cW
  have hdd : ∀ k : Nat, (Fence.wide.depth.isSome = true → 1 ≤ k) := fun k h => by cases h
  have HWK := Lib.hid hwk
  clear hwk hY hI hat hat3 hfc hY3 hV3 k3 o3 hb hd h0 hJ hJx hW
  rw [hW3] at cE HWK
  refine callsIn_of_wp Tryd.func32 rfl trivial ?_
  simp only [Tryd.ntmps32, List.size_toArray, List.length_cons, List.length_nil, Nat.reduceAdd, Nat.reduceSub, Array.replicate_succ, Array.replicate_zero, List.push_toArray, List.append_toArray, List.nil_append, List.cons_append]
  gi_wp2_with ((try refine ⟨trivial, ?_⟩); (try refine ⟨hdd _, ?_⟩); gi_at_call 33; refine HWK.out.mono ?_; rintro e W4 (⟨rfl, hj4, _⟩ | ⟨rfl, q, hq, hx⟩))
  · go_end0
    exact ⟨⟨_, rfl⟩, .inl ⟨_, doneF_attach t, by simpa using hj4.1⟩⟩
  · go_end0
    refine ⟨⟨_, rfl⟩, .inr ⟨q, ?_, by simpa using hx⟩⟩
    obtain ⟨r, hr⟩ := hq
    exact ⟨r.map (·.1), by rw [← List.map_append, hr]; exact doneF_attach t⟩
theorem all_stops (n : Nat) (Bs : List Nat) (b : Nat) (t : VT) (w : World) (hBs : ∀ B, B ∈ Bs → B < w.heap.size) (hOw : ∀ i, OwnB Bs w i → i < w.heap.size)
    (hb : w.heap[b]? = some (.cells #[vv t] 24 (0, 0))) (hat : At (fun i => ¬ OwnB Bs w i) w t) (hd : t.deep ≤ 1048575) :
    SeqStopsK Fence.wide n Tryd.prog 32 #[.pointer (some ⟨b, 0, none⟩)] (encI (X := t.items 1)) (KpO (OwnB Bs)) (doneF t) (partF t) (t.items 1).length w :=
  (all_next n Bs b t w hBs hOw hb hat hd).stops fun pre x h => by
    have := h.length_le
    simp at this
    omega
theorem all_any (w : World) (t : VT) : Calls Tryd.prog 16 #[vv t] w fun e w' => e = .returned (.func (.func 32) #[] #[.pointer (some ⟨w.heap.size, 0, none⟩)]) ∧ w' = w.alloc (.cells #[vv t] 24) := by
  obtain ⟨v, hv⟩ : ∃ v, v = vv t := ⟨_, rfl⟩
  have hv1 : v.oneCell' = true := by rw [hv]; exact vv_one t
  rw [← hv]
  clear hv
  go_enter Tryd.func16, Tryd.ntmps16
  go_wp2
  go_ret
  exact ⟨rfl, rfl⟩
end Go.Proofs.YtinonjfnhedlpaaDoor
