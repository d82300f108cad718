/-
  What a loop over the iterator keeps: cells, a box with what is collected, the error's blocks; how many there are in an error.
-/
import Derived.Test.YtinonjfnhedlpaaDoorFEachW
import Derived.RangeFuncWrites
set_option linter.unusedSimpArgs false
namespace Go.Fault
open Go Go.RowKit Go.Aff
/-- Whatever is cells stays, and all below m. -/
structure CK (m : Nat) (W W' : World) : Prop where
  os : W'.os = W.os
  tape : W'.tape = W.tape
  output : W'.output = W.output
  size : W.heap.size ≤ W'.heap.size
  low : ∀ k, k < m → k < W.heap.size → W'.heap[k]? = W.heap[k]?
  cells : ∀ (k : Nat) (c : Array Value) (t : TypeId) (fr : Nat × Nat), W.heap[k]? = some (Obj.cells c t fr) → W'.heap[k]? = some (Obj.cells c t fr)
theorem ownFrom_cells {β : Type} (m : Nat) (I : β → World → Prop) (h : ∀ s W W', I s W → CK m W W' → I s W') : OwnFrom m I := fun s W W' row hs hg hr =>
  h s W W' hs ⟨hg.os, hg.tape, hg.output, hg.size, fun k hk hl => hg.block k hl (fun e => by have := (hr k e.symm).1; omega),
    fun k c t fr hk => (hg.block k (Array.getElem?_eq_some_iff.1 hk).1 (fun e => by
      obtain ⟨_, o, ho, hc⟩ := hr k e.symm
      rw [hk] at ho
      injection ho with ho
      subst ho
      simp [Obj.isCells] at hc)).trans hk⟩
section
variable {m : Nat} {w W W' : World}
theorem CK.putObj {l : Nat} {o : Obj} (h : W.heap[l]? = some o) (ho : o.isCells = false) (hm : m ≤ l) (o' : Obj) : CK m W (W.putObj l o') :=
  ⟨rfl, rfl, rfl, by simp, fun k hk _ => World.putObj_heap_other (by omega), fun k c t fr hk => (World.putObj_heap_other (fun e => by
    subst e
    rw [hk] at h
    injection h with h
    subst h
    simp [Obj.isCells] at ho)).trans hk⟩
theorem CK.keeps {F : Nat → Prop} (h : CK m W W') (hk : Keeps F w W) (hm : w.heap.size ≤ m) : Keeps F w W' :=
  ⟨h.os.trans hk.os, h.tape.trans hk.tape, h.output.trans hk.output, Nat.le_trans hk.size h.size, fun i hi hn => (h.low i (by omega) (Nat.lt_of_lt_of_le hi hk.size)).trans (hk.block i hi hn)⟩
theorem CK.blk {g : Nat} {t : TypeId} {cs : List Value} (h : CK m W W') (hb : Blk W g t cs) : Blk W' g t cs := h.cells _ _ _ _ hb
theorem CK.own {base : Nat} {e : TypeId} {size n : Nat} {v : Value} {xs : List Value} (h : CK m W W') (ho : W.ownsRow base e size v n xs) : W'.ownsRow base e size v n xs := by
  refine ⟨ho.1, ?_⟩
  rcases ho.2 with hz | ⟨g, cap, cur, hv, hb, hg, rest⟩
  · exact .inl hz
  · exact .inr ⟨g, cap, cur, hv, hb, h.cells _ _ _ _ hg, rest⟩
/-- A slice of W with rows of n elements, in a box of its own. -/
structure Coll (lo : Nat) (B : Nat) (T Te : TypeId) (s : Nat) (W : World) (v : Value) (n : Nat) (xs : List Value) : Prop where
  blk : Blk W B T [v]
  own : W.ownsRow 0 Te s v n xs
  hi : ∀ g, v.ownBlock = some g → lo ≤ g
theorem Coll.ck {lo B s n : Nat} {T Te : TypeId} {v : Value} {xs : List Value} (h : Coll lo B T Te s W v n xs) (k : CK m W W') : Coll lo B T Te s W' v n xs := ⟨k.blk h.blk, k.own h.own, h.hi⟩
theorem Coll.keep {lo B s n : Nat} {T Te : TypeId} {v : Value} {xs : List Value} (h : Coll lo B T Te s W v n xs) (k : Keeps (fun _ => False) W W') : Coll lo B T Te s W' v n xs := ⟨k.blk h.blk (fun h => h), k.own h.own (fun _ _ h => h), h.hi⟩
theorem keepsFrom_of {F : Nat → Prop} (B : Nat) (hk : Keeps F W W') (hF : ∀ i, F i → ∃ c t fr, W.heap[i]? = some (Obj.cells c t fr)) : KeepsFrom B W W' :=
  ⟨hk.size, fun k o _ ho hc => (hk.block k (Array.getElem?_eq_some_iff.1 ho).1 (fun hf => by
    obtain ⟨c, t, fr, h⟩ := hF k hf
    rw [ho] at h
    injection h with h
    subst h
    simp [Obj.isCells] at hc)).trans ho⟩
end
theorem own_cells {W : World} {base : Nat} {e : TypeId} {size n : Nat} {v : Value} {xs : List Value} (ho : W.ownsRow base e size v n xs) : ∀ g, v.ownBlock = some g → ∃ c t fr, W.heap[g]? = some (Obj.cells c t fr) := fun g hg => by
  rcases ho.2 with ⟨hz, _⟩ | ⟨g', cap, cur, hv, hb, hh, rest⟩
  · rw [hz] at hg; cases hg
  · rw [hv] at hg
    injection hg with hg
    subst hg
    exact ⟨_, _, _, hh⟩
/-- What buildSlice writes: a part's cells one by one. -/
theorem fold_zip (vs : List Value) : ∀ (k : Nat) (cs : Array Value), k + vs.length ≤ cs.size → List.foldl (fun (cs : Array Value) (x : Value × Nat) => cs.setIfInBounds x.snd x.fst) cs (vs.zipIdx k) = (cs.toList.take k ++ vs ++ cs.toList.drop (k + vs.length)).toArray := by
  induction vs with
  | nil => intro k cs h; simp
  | cons v vs ih =>
    intro k cs h
    simp only [List.length_cons] at h
    rw [List.zipIdx_cons, List.foldl_cons, ih (k + 1) _ (by simp; omega)]
    have hk : k < cs.toList.length := by simp; omega
    simp only [Array.toList_setIfInBounds]
    congr 1
    have e1 : (cs.toList.set k v).take (k + 1) = cs.toList.take k ++ [v] := by
      rw [List.take_add_one, List.getElem?_set_self hk, List.take_set_of_le (Nat.le_refl k)]
      rfl
    have e2 : (cs.toList.set k v).drop (k + 1 + vs.length) = cs.toList.drop (k + (vs.length + 1)) := by
      rw [List.drop_set_of_lt (by omega)]
      congr 1
      omega
    rw [e1, e2]
    simp
theorem fold_zip0 (vs : List Value) (cs : Array Value) (h : cs.size = vs.length) : List.foldl (fun (cs : Array Value) (x : Value × Nat) => cs.setIfInBounds x.snd x.fst) cs vs.zipIdx = vs.toArray := by
  have := fold_zip vs 0 cs (by omega)
  rw [this, List.drop_eq_nil_of_le (by simp; omega)]
  simp
/-- How many there are. -/
def VT.count (t : VT) : Nat := (t.items 1).length
def countL : List VT → Nat
  | [] => 0
  | x :: l => x.count + countL l
theorem VT.items_len (t : VT) : ∀ d, (t.items d).length = t.count := by
  induction t using VT.ind with
  | h5 b wd e ih =>
    intro d
    unfold VT.count
    cases h : e.isNil
    · simp [VT.items, h]
      rw [ih, ih]
    · simp [VT.items, h]
  | h6 A c l ih =>
    intro d
    simp only [VT.items, VT.count, List.length_cons, List.length_flatten, List.map_map]
    congr 2
    refine List.map_congr_left fun x hx => ?_
    simp [Function.comp, ih x hx]
  | _ => intro d; unfold VT.count; simp [VT.items]
theorem count_note (b : Nat) (wd : ByteArray) (e : VT) : (VT.note b wd e).count ≤ e.count + 1 := by
  have h1 := e.items_len 2
  cases h : e.isNil
  · rw [VT.count]; simp [VT.items, h, h1]
  · rw [VT.count]; simp [VT.items, h]
theorem count_all (A : Option Addr) (c : Nat) (l : List VT) : (VT.all A c l).count = countL l + 1 := by
  simp only [VT.count, VT.items, List.length_cons, List.length_flatten, List.map_map]
  congr 1
  induction l with
  | nil => rfl
  | cons x l ih => simp [countL, VT.items_len]; exact ih
theorem countL_append (a b : List VT) : countL (a ++ b) = countL a + countL b := by
  induction a with
  | nil => simp [countL]
  | cons x a ih => simp [countL, ih]; omega
theorem stepF_count (P : List VT) (c : CauseV) : (stepF P c).1 = 0 → countL (stepF P c).2 ≤ countL P + 2 := by
  unfold stepF
  repeat' split
  all_goals intro h
  all_goals (first | (simp at h; done) | skip)
  all_goals simp only [countL_append, countL]
  all_goals (try (simp [VT.count, VT.items]; done))
  · rename_i e he _
    obtain ⟨P', rfl⟩ := List.getLast?_eq_some_iff.1 he
    simp only [List.dropLast_concat, countL_append, countL]
    have := count_note 0 c.text e
    omega
  · have h1 : countL P = countL (P.take (P.length - c.count.toNat)) + countL (P.drop (P.length - c.count.toNat)) := by rw [← countL_append, List.take_append_drop]
    rw [count_all]
    omega
theorem runF_count (cs : List CauseV) : ∀ (P : List VT) (i : Nat) (Q : List VT), runF P i cs = .inr Q → countL Q ≤ countL P + 2 * cs.length := by
  induction cs with
  | nil => intro P i Q h; injection h with h; subst h; simp
  | cons c cs ih =>
    intro P i Q h
    unfold runF at h
    split at h
    · have h1 := ih _ _ _ h
      have h2 := stepF_count P c (by assumption)
      simp only [List.length_cons]
      omega
    · cases h
theorem buildF_count {cs : List CauseV} {t : VT} (h : buildF cs = .inr t) : t.count ≤ 131072 := by
  unfold buildF at h
  split at h
  · cases h
  · split at h
    · cases h
    · injection h with h; subst h
      rename_i h2
      have := runF_count _ _ _ _ h2
      simp only [countL] at this
      omega
    · cases h
theorem VT.count_erase (t : VT) : t.erase.count = t.count := by simp [VT.count, VT.items_erase]
end Go.Fault
namespace Go.Proofs.YtinonjfnhedlpaaDoor
open Go Go.RowKit Go.Shelf Go.Aff Go.Fault
theorem At.item {D : Nat → Prop} {w : World} {t : VT} (h : At D w t) : ∀ d p, p ∈ t.items d → At D w p.2 := by
  induction t using VT.ind with
  | h5 b wd e ih =>
    intro d p hp
    simp only [VT.items, List.mem_cons] at hp
    rcases hp with rfl | hp
    · exact h
    · simp only [At] at h
      split at hp
      · cases hp
      · exact ih h.2.2 _ _ hp
  | h6 A c l ih =>
    intro d p hp
    simp only [VT.items, List.mem_cons] at hp
    rcases hp with rfl | hp
    · exact h
    · simp only [At] at h
      obtain ⟨l1, hl1, hp⟩ := List.mem_flatten.1 hp
      obtain ⟨x, hx, rfl⟩ := List.mem_map.1 hl1
      exact ih x hx (h.2.2.2 x hx) _ _ hp
  | _ =>
    intro d p hp
    simp only [VT.items, List.mem_cons, List.not_mem_nil, or_false] at hp
    rcases hp with rfl | rfl <;> simp [At]
theorem At.ck {m : Nat} {D : Nat → Prop} {W W' : World} {t : VT} (h : At D W t) (k : CK m W W') : At D W' t := h.kept fun i c t fr hi _ => k.cells i c t fr hi
theorem OwnB.ck {m : Nat} {Bs : List Nat} {W W' : World} {i : Nat} (k : CK m W W') (hB : ∀ B, B ∈ Bs → ∃ c t fr, W.heap[B]? = some (Obj.cells c t fr)) (ho : OwnB Bs W' i) : OwnB Bs W i := by
  rcases ho with h1 | ⟨B, hb, a, n, c, hc, rfl⟩
  · exact .inl h1
  · refine .inr ⟨B, hb, a, n, c, ?_, rfl⟩
    obtain ⟨c1, t1, f1, h1⟩ := hB B hb
    have h2 := k.cells _ _ _ _ h1
    rw [← hc]
    simp [World.cell?, h1, h2]
/-- A round that appends keeps all but its own. -/
theorem Coll.kp {lo lo' B s n n' : Nat} {T Te : TypeId} {W W' : World} {v v' : Value} {xs xs' : List Value} (h : Coll lo B T Te s W v n xs) (h' : Coll lo' B T Te s W' v' n' xs')
    (hk : Keeps (fun i => i = B ∨ v.ownBlock = some i) W W') (hb : v'.ownBlock = v.ownBlock ∨ ∃ g, v'.ownBlock = some g ∧ W.heap.size ≤ g) : KpO (OwnB [B]) W W' := by
  obtain ⟨A, c, rfl⟩ := own_shape h.own
  obtain ⟨A', c', rfl⟩ := own_shape h'.own
  have own_of : ∀ i, (Value.slice A n c).ownBlock = some i → OwnB [B] W i := fun i hi => by
    cases A with
    | none => cases hi
    | some a =>
      injection hi with hi
      exact .inr ⟨B, List.mem_singleton.2 rfl, a, n, c, h.blk.cell 0, hi.symm⟩
  refine ⟨hk.size, fun i cc t fr hi hn => (hk.block i (Array.getElem?_eq_some_iff.1 hi).1 (fun e => ?_)).trans hi, fun i hi => ?_⟩
  · rcases e with rfl | e
    · exact hn (.inl (List.mem_singleton.2 rfl))
    · exact hn (own_of i e)
  · rcases hi with hi | ⟨B', hB', a, n2, c2, hc, rfl⟩
    · exact .inl (.inl hi)
    · obtain rfl := List.mem_singleton.1 hB'
      have h1 : W'.cell? ⟨B', 0, none⟩ = some (.slice A' n' c') := h'.blk.cell 0
      rw [hc] at h1
      injection h1 with h1
      injection h1 with e1 e2 e3
      have e4 : (Value.slice A' n' c').ownBlock = some a.block := by rw [← e1]; rfl
      rcases hb with hb | ⟨g, hb, hg⟩
      · exact .inl (own_of _ (hb ▸ e4))
      · rw [e4] at hb
        injection hb with hb
        exact .inr ⟨by omega, (h'.own.lt _ e4).2⟩
/-- What lies in no block of the caller's own, and all lies from lo on. -/
def NotB (lo : Nat) (Bs : List Nat) (W : World) (i : Nat) : Prop := lo ≤ i ∧ ¬ OwnB Bs W i
end Go.Proofs.YtinonjfnhedlpaaDoor
