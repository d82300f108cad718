/- Texts. -/
import Derived.Test.YtplleficmkfniaaGreatDoorQ08
import Derived.Great.BuildSlice
import Derived.Stop.Asserts
set_option linter.unusedSimpArgs false
set_option maxRecDepth 100000
set_option maxHeartbeats 4000000
namespace Go.Aff
open Go Go.RowKit
def cutS (s : Nat) (A : Option Addr) (c l : Nat) : Option Addr := if c = l then A else A.map (·.add (l * s))
section
variable {P : Program} {T e : TypeId} {s : Nat}
end
section
variable {w w0 : World} {s n c : Nat} {A : Option Addr} {xs : List Value}
theorem RdS.cut (h : RdS s w A n xs) {l : Nat} (hl : l ≤ n) (hc : n ≤ c) : RdS s w (cutS s A c l) (n - l) (xs.drop (l * s)) := by
 refine ⟨by rw [List.length_drop, h.1, Nat.sub_mul], fun hn => ?_⟩
 obtain ⟨g, o, rfl, hcell⟩ := h.2 (by omega)
 unfold cutS
 rw [if_neg (by omega)]
 refine ⟨g, o + l * s, by simp [add_at], fun j hj => ?_⟩
 rw [Nat.sub_mul] at hj
 rw [Nat.add_assoc, hcell _ (by omega), List.getElem?_drop]
theorem RdS.take (h : RdS s w A n xs) {k : Nat} (hk : k ≤ n) : RdS s w A k (xs.take (k * s)) := by
 have hle : k * s ≤ n * s := Nat.mul_le_mul_right s hk
 refine ⟨by rw [List.length_take, h.1]; omega, fun hn => ?_⟩
 obtain ⟨g, o, e, hcell⟩ := h.2 (by omega)
 refine ⟨g, o, e, fun j hj => ?_⟩
 rw [hcell j (by omega), List.getElem?_take, if_pos hj]
end
theorem fold_zipB (vs : List Value) : ∀ (k : Nat) (cs : Array Value), k + vs.length ≤ cs.size → List.foldl (fun (cs : Array Value) (x : Value × Nat) => cs.setIfInBounds x.snd x.fst) cs (vs.zipIdx k) = (cs.toList.take k ++ vs ++ cs.toList.drop (k + vs.length)).toArray := by
 induction vs with
 | nil => intro k cs h; simp
 | cons v vs ih =>
  intro k cs h
  simp only [List.length_cons] at h
  rw [List.zipIdx_cons, List.foldl_cons, ih (k + 1) _ (by simp; omega)]
  have hk : k < cs.toList.length := by simp; omega
  simp only [Array.toList_setIfInBounds]
  congr 1
  have e1 : (cs.toList.set k v).take (k + 1) = cs.toList.take k ++ [v] := by
   rw [List.take_add_one, List.getElem?_set_self hk, List.take_set_of_le (Nat.le_refl k)]
   rfl
  have e2 : (cs.toList.set k v).drop (k + 1 + vs.length) = cs.toList.drop (k + (vs.length + 1)) := by
   rw [List.drop_set_of_lt (by omega)]
   congr 1
   omega
  rw [e1, e2]
  simp
theorem fold_zipB0 (vs : List Value) (cs : Array Value) (h : cs.size = vs.length) : List.foldl (fun (cs : Array Value) (x : Value × Nat) => cs.setIfInBounds x.snd x.fst) cs vs.zipIdx = vs.toArray := by
 have := fold_zipB vs 0 cs (by omega)
 rw [this, List.drop_eq_nil_of_le (by simp; omega)]
 simp
section
variable {P : Program}
theorem run_box (w : World) (t e : TypeId) (z : Value) (sz : Nat) (ht : P.underlying t = some (.slice e)) (hinfo : (P.info? e).map (fun i => (i.zero, i.size)) = some (some z, sz)) (hpos : 0 < sz) (hsm : sz ≤ 16777216) (SX : List Value) (hl : SX.length = sz) :
  (Instr.buildSlice t 1 #[(0, .agg SX.toArray)]).run P w = .ok (.slice (some ⟨w.heap.size, 0, none⟩) 1 1) (w.alloc (.cells SX.toArray e)) := by
 obtain ⟨i, hi, hzi⟩ := Option.map_eq_some_iff.1 hinfo
 simp only [Prod.mk.injEq] at hzi
 refine run_buildSlice w t e 1 _ SX.toArray i z ht hi hzi.1 (by rw [hzi.2]; simp; omega) (by rw [hzi.2]; omega) ?_
 rw [hzi.2]
 simp only [Instr.fill, Value.cells, Nat.zero_mul, Nat.zero_add, Nat.one_mul, List.size_toArray, Array.size_map, Array.size_range, ← Array.foldl_toList, Array.toList_zipIdx]
 rw [if_neg (by simp [hl]), fold_zipB0 _ _ (by simp [hl])]
theorem wpList_box_S (w : World) {ops : Array Oper} {rest : List Oper} {o : Oper} {a : Act} {Q : Exit → Act → World → Prop} (hgd : o.guard = none) (t e : TypeId) (x : Operand) (ho : o.op = .buildSlice t 1 #[(0, x)])
  (z : Value) (sz : Nat) (ht : P.underlying t = some (.slice e)) (hinfo : (P.info? e).map (fun i => (i.zero, i.size)) = some (some z, sz)) (hpos : 0 < sz) (hsm : sz ≤ 16777216) (SX : List Value) (hl : SX.length = sz) (hx : a.eval x = .agg SX.toArray)
  (h : wpList P ops Q rest (a.put o.dst (.slice (some ⟨w.heap.size, 0, none⟩) 1 1)) (w.alloc (.cells SX.toArray e))) : wpList P ops Q (o :: rest) a w :=
 wpList_plain hgd fun K hK => by
  have hr := run_box (P := P) w t e z sz ht hinfo hpos hsm SX hl
  unfold Oper.wp execOp
  simp only [ho, Sem.run_bind, List.map_toArray, List.map_cons, List.map_nil, hx, hr, Result.andThen_ok]
  exact hK _ _ h
end
theorem step_store_whole {P : Program} {Q : Exit → Act → World → Prop} {K : Act → World → Prop} {ops : Array Oper} {a : Act} {w : World} {o : Oper} (hgd : o.guard = none) (ty : TypeId) (x v : Operand) (ho : o.op = .store ty x v)
  {g : Nat} {t : TypeId} {cs : List Value} (vs : List Value) (hx : a.eval x = .pointer (some ⟨g, 0, none⟩)) (hv : a.eval v = .agg vs.toArray) (hg : Blk w g t cs) (hl : cs.length = vs.length) (hi : (P.info? ty).map (·.size) = some vs.length) (h1 : ∀ v ∈ vs, v.oneCell' = true)
  (h : K (a.put o.dst undef) (w.setRow g vs.toArray)) : if Region.wanted o (yielded ops a.tmps) = true then Oper.wp P o a w K Q else K (a.put o.dst undef) w := by
 have hw : Region.wanted o (yielded ops a.tmps) = true := by simp [Region.wanted, hgd]
 rw [if_pos hw]
 unfold Oper.wp execOp
 simp only [ho, hx, hv, Instr.storeAt, Instr.sureAddr, Sem.run_bind, Sem.run_pure, Result.andThen_ok, run_storeVar_at ty 0 vs hg (by omega) hi h1]
 rw [splice_all _ _ hl]
 exact h
theorem setRow_keep (w : World) (p : Nat) (cs : Array Value) : Keeps (fun i => i = p) w (w.setRow p cs) := (Keeps.refl (fun i => i = p) w).setRow (.inl rfl) cs
def IsCells (w : World) (i : Nat) : Prop := ∃ c t fr, w.heap[i]? = some (Obj.cells c t fr)
theorem IsCells.keep {F : Nat → Prop} {w w' : World} {i : Nat} (h : IsCells w i) (k : Keeps F w w') (hF : ¬ F i) : IsCells w' i := by
 obtain ⟨c, t, fr, h⟩ := h
 exact ⟨c, t, fr, (k.block i (Array.getElem?_eq_some_iff.1 h).1 hF).trans h⟩
theorem IsCells.lt {w : World} {i : Nat} (h : IsCells w i) : i < w.heap.size := by
 obtain ⟨c, t, fr, h⟩ := h
 exact (Array.getElem?_eq_some_iff.1 h).1
theorem IsCells.blk {w : World} {i : Nat} {t : TypeId} {cs : List Value} (h : Blk w i t cs) : IsCells w i := ⟨_, _, _, h⟩
theorem IsCells.own {w : World} {b : Nat} {e : TypeId} {s n : Nat} {v : Value} {xs : List Value} (h : w.ownsRow b e s v n xs) : ∀ g, v.ownBlock = some g → IsCells w g := fun g hg => by
 rcases h.2 with ⟨rfl, _⟩ | ⟨g1, c1, cur, rfl, _, hh, _⟩
 ·cases hg
 ·have e1 : some g1 = some g := hg
  injection e1 with e1
  subst e1
  exact ⟨_, _, _, hh⟩
structure LogAt (T RT BT : TypeId) (E : Nat → Prop) (w : World) (p : Nat) (A : Option Addr) (c : Nat) (vals : List Value) (gs : List Nat) (l : List (List Int)) : Prop where
 box : Blk w p T [.slice A l.length c]
 inE : E p
 row : w.ownsRow 0 RT 1 (.slice A l.length c) l.length vals
 rowE : ∀ g, (Value.slice A l.length c).ownBlock = some g → E g
 len : gs.length = l.length
 nd : gs.Nodup
 at_ : ∀ (i : Nat) (g : Nat) (bs : List Int), gs[i]? = some g → l[i]? = some bs → E g ∧ ∃ ci, vals[i]? = some (.slice (some ⟨g, 0, none⟩) bs.length ci) ∧ w.ownsRow 0 BT 1 (.slice (some ⟨g, 0, none⟩) bs.length ci) bs.length (vb bs)
def LogSt (T RT BT : TypeId) (E : Nat → Prop) (w : World) (p : Nat) (l : List (List Int)) : Prop := ∃ A c vals gs, LogAt T RT BT E w p A c vals gs l
section
variable {T RT BT : TypeId} {E C F : Nat → Prop} {w w' w1 : World} {p : Nat} {A A' : Option Addr} {c c' : Nat} {vals : List Value} {gs : List Nat} {l : List (List Int)}
theorem LogAt.keep (h : LogAt T RT BT E w p A c vals gs l) (k : Keeps F w w') (hF : ∀ i, E i → ¬ F i) : LogAt T RT BT E w' p A c vals gs l :=
 ⟨k.blk h.box (hF _ h.inE), h.inE, k.own h.row (fun g hg => hF _ (h.rowE g hg)), h.rowE, h.len, h.nd, fun i g bs h1 h2 => by
  obtain ⟨h3, ci, h4, h5⟩ := h.at_ i g bs h1 h2
  exact ⟨h3, ci, h4, k.own h5 (fun g' hg' => by have e : some g = some g' := hg'; injection e with e; subst e; exact hF _ h3)⟩⟩
theorem LogAt.mono (h : LogAt T RT BT E w p A c vals gs l) (hC : ∀ i, E i → i < w.heap.size → C i) : LogAt T RT BT C w p A c vals gs l :=
 ⟨h.box, hC _ h.inE h.box.lt, h.row, fun g hg => hC _ (h.rowE g hg) (h.row.lt g hg).2, h.len, h.nd, fun i g bs h1 h2 => by
  obtain ⟨h3, ci, h4, h5⟩ := h.at_ i g bs h1 h2
  exact ⟨hC _ h3 (own_ltN h5), ci, h4, h5⟩⟩
theorem LogSt.keep (h : LogSt T RT BT E w p l) (k : Keeps F w w') (hF : ∀ i, E i → ¬ F i) : LogSt T RT BT E w' p l := by
 obtain ⟨A, c, vals, gs, h⟩ := h
 exact ⟨A, c, vals, gs, h.keep k hF⟩
theorem LogSt.mono (h : LogSt T RT BT E w p l) (hC : ∀ i, E i → i < w.heap.size → C i) : LogSt T RT BT C w p l := by
 obtain ⟨A, c, vals, gs, h⟩ := h
 exact ⟨A, c, vals, gs, h.mono hC⟩
theorem LogAt.grow (h : LogAt T RT BT E w p A c vals gs l) (h1 : RT ≠ T) (h2 : BT ≠ RT) (h3 : BT ≠ T) {g ci n : Nat} {bs : List Int} (hn : bs.length = n) (hg : ¬ E g) (hown : w.ownsRow 0 BT 1 (.slice (some ⟨g, 0, none⟩) n ci) n (vb bs)) {k : Nat} (hk : l.length = k)
  (hgr : w.grownBy w1 (Value.slice A k c).ownBlock) (ho : w1.ownsRow 0 RT 1 (.slice A' (k + 1) c') (k + 1) (vals ++ [.slice (some ⟨g, 0, none⟩) n ci])) (hb : (Value.slice A' (k + 1) c').ownBlock = (Value.slice A k c).ownBlock ∨ (Value.slice A' (k + 1) c').ownBlock = some w.heap.size) :
  LogSt T RT BT (fun i => (E i ∧ (Value.slice A k c).ownBlock ≠ some i) ∨ i = g ∨ (Value.slice A' (k + 1) c').ownBlock = some i) (w1.setCell ⟨p, 0, none⟩ (.slice A' (k + 1) c')) p (l ++ [bs]) ∧ Keeps E w (w1.setCell ⟨p, 0, none⟩ (.slice A' (k + 1) c')) ∧
   ((∀ i, E i → IsCells w i) → ∀ i, (E i ∧ (Value.slice A k c).ownBlock ≠ some i) ∨ i = g ∨ (Value.slice A' (k + 1) c').ownBlock = some i → IsCells (w1.setCell ⟨p, 0, none⟩ (.slice A' (k + 1) c')) i) ∧ ∀ i, (Value.slice A' (k + 1) c').ownBlock = some i → E i ∨ w.heap.size ≤ i := by
 subst hn hk
 have k1 : Keeps (fun i => (Value.slice A l.length c).ownBlock = some i) w w1 := Keeps.of_grown hgr
 have hp : (Value.slice A l.length c).ownBlock ≠ some p := own_blk h.row h.box h1
 have hgl : g < w.heap.size := own_ltN hown
 have hgp : g ≠ p := fun e => hg (e ▸ h.inE)
 have k2 : Keeps (fun i => i = p) w1 (w1.setCell ⟨p, 0, none⟩ (.slice A' (l.length + 1) c')) := (Keeps.refl (fun i => i = p) w1).setCell (p := ⟨p, 0, none⟩) (.inl rfl) _
 have hnew : ∀ g', (Value.slice A' (l.length + 1) c').ownBlock = some g' → E g' ∨ w.heap.size ≤ g' := fun g' hg' => by
  rcases hb with e | e
  ·exact .inl (h.rowE g' (e.symm.trans hg'))
  ·rw [e] at hg'; injection hg' with hg'; exact .inr (by omega)
 have hvl : vals.length = l.length := by have := h.row.1; simpa using this
 have hlen : (l ++ [bs]).length = l.length + 1 := by simp
 have hrows : ∀ (g' n' ci' : Nat) (xs : List Value), w.ownsRow 0 BT 1 (.slice (some ⟨g', 0, none⟩) n' ci') n' xs → g' ≠ p → (w1.setCell ⟨p, 0, none⟩ (.slice A' (l.length + 1) c')).ownsRow 0 BT 1 (.slice (some ⟨g', 0, none⟩) n' ci') n' xs := fun g' n' ci' xs hh hne =>
  k2.own (k1.own hh (fun i hi e => own_types h.row hh h2.symm e hi)) (fun i hi e => hne (by have e1 : some g' = some i := hi; injection e1 with e1; omega))
 refine ⟨⟨A', c', vals ++ [.slice (some ⟨g, 0, none⟩) bs.length ci], gs ++ [g], ?_, .inl ⟨h.inE, hp⟩, ?_, ?_, by simp [h.len], ?_, ?_⟩, ?_⟩
 ·rw [hlen]
  exact (k1.blk h.box hp).set_ 0 _
 ·rw [hlen]
  exact k2.own ho (fun g' hg' e => by
   subst e
   rcases hnew g' hg' with e1 | e1
   ·rcases hb with e2 | e2
    ·exact hp (e2.symm.trans hg')
    ·rw [e2] at hg'; injection hg' with hg'; have := h.box.lt; omega
   ·have := h.box.lt; omega)
 ·rw [hlen]
  exact fun g' hg' => .inr (.inr hg')
 ·rw [List.nodup_append]
  refine ⟨h.nd, by simp, fun a ha b hb' => ?_⟩
  rw [List.mem_singleton.1 hb']
  rintro rfl
  obtain ⟨i, hi, e⟩ := List.mem_iff_getElem.1 ha
  have hil : i < l.length := by rw [← h.len]; exact hi
  exact hg (e ▸ (h.at_ i gs[i] l[i] (List.getElem?_eq_getElem hi) (List.getElem?_eq_getElem hil)).1)
 ·intro i g' bs' e1 e2
  rcases Nat.lt_or_ge i l.length with hi | hi
  ·rw [List.getElem?_append_left (by rw [h.len]; exact hi)] at e1
   rw [List.getElem?_append_left hi] at e2
   obtain ⟨h4, ci', h5, h6⟩ := h.at_ i g' bs' e1 e2
   refine ⟨.inl ⟨h4, fun e => own_types h.row h6 h2.symm e rfl⟩, ci', by rw [List.getElem?_append_left (by rw [hvl]; exact hi)]; exact h5, hrows _ _ _ _ h6 (fun e => ?_)⟩
   subst e
   exact own_blk h6 h.box h3 rfl
  ·have hi2 : i = l.length := by have := (List.getElem?_eq_some_iff.1 e2).1; simp at this; omega
   subst hi2
   rw [List.getElem?_append_right (by rw [h.len]; exact Nat.le_refl _), h.len, Nat.sub_self] at e1
   rw [List.getElem?_append_right (Nat.le_refl _), Nat.sub_self] at e2
   simp at e1 e2
   subst e1 e2
   exact ⟨.inr (.inl rfl), ci, by rw [List.getElem?_append_right (by rw [hvl]; exact Nat.le_refl _), hvl, Nat.sub_self]; rfl, hrows _ _ _ _ hown hgp⟩
 ·refine ⟨(k1.mono fun i _ hi => h.rowE i hi).trans k2 fun i _ e => e ▸ h.inE, fun hc i hi => ?_, hnew⟩
  by_cases hip : i = p
  ·subst hip
   exact IsCells.blk ((k1.blk h.box hp).set_ 0 _)
  ·by_cases hio : (Value.slice A' (l.length + 1) c').ownBlock = some i
   ·exact (IsCells.own ho i hio).keep k2 hip
   ·rcases hi with hi | hi | hi
    ·exact ((hc i hi.1).keep k1 hi.2).keep k2 hip
    ·subst hi
     exact ((IsCells.own hown i rfl).keep k1 fun e => own_types h.row hown h2.symm e rfl).keep k2 hip
    ·exact absurd hi hio
end
structure Took (S : (Nat → Prop) → World → List (List Int) → Prop) (E E' : Nat → Prop) (w w' : World) (l' : List (List Int)) : Prop where
 st : S E' w' l'
 new : ∀ i, E' i → E i ∨ w.heap.size ≤ i
 cel : ∀ i, E' i → IsCells w' i
 keep : Keeps E w w'
theorem Took.lt {S : (Nat → Prop) → World → List (List Int) → Prop} {E E' : Nat → Prop} {w w' : World} {l' : List (List Int)} (h : Took S E E' w w' l') : ∀ i, E' i → i < w'.heap.size := fun i hi => (h.cel i hi).lt
theorem Took.trans {S : (Nat → Prop) → World → List (List Int) → Prop} {E E1 E2 : Nat → Prop} {w w1 w2 : World} {l1 l2 : List (List Int)} (h : Took S E E1 w w1 l1) (k : Took S E1 E2 w1 w2 l2) : Took S E E2 w w2 l2 :=
 ⟨k.st, fun i hi => (k.new i hi).elim (h.new i) fun e => .inr (Nat.le_trans h.keep.size e), k.cel, h.keep.trans k.keep fun i hi e => (h.new i e).elim id fun e => by omega⟩
theorem Took.begin {S : (Nat → Prop) → World → List (List Int) → Prop} {E E' : Nat → Prop} {w0 w w' : World} {l' : List (List Int)} (k : Keeps (fun _ => False) w0 w) (h : Took S E E' w w' l') : Took S E E' w0 w' l' :=
 ⟨h.st, fun i hi => (h.new i hi).imp id (fun e => Nat.le_trans k.size e), h.cel, (k.mono fun _ _ h => h.elim).trans h.keep fun _ _ e => e⟩
structure Lasts (S : (Nat → Prop) → World → List (List Int) → Prop) : Prop where
 keep : ∀ (E F : Nat → Prop) (w w' : World) (l : List (List Int)), S E w l → Keeps F w w' → (∀ i, E i → ¬ F i) → S E w' l
theorem Took.more {S : (Nat → Prop) → World → List (List Int) → Prop} (hS : Lasts S) {E E' F : Nat → Prop} {w w1 w2 : World} {l' : List (List Int)} (h : Took S E E' w w1 l') (k : Keeps F w1 w2) (hF : ∀ i, F i → w.heap.size ≤ i ∧ ¬ E' i) : Took S E E' w w2 l' :=
 ⟨hS.keep _ _ _ _ _ h.st k fun i hi hf => (hF i hf).2 hi, h.new, fun i hi => (h.cel i hi).keep k fun hf => (hF i hf).2 hi, h.keep.trans k fun i hi e => by have := (hF i e).1; omega⟩
theorem Took.stay {S : (Nat → Prop) → World → List (List Int) → Prop} (hS : Lasts S) {E E' : Nat → Prop} {w w1 w2 : World} {l' : List (List Int)} (h : Took S E E' w w1 l') (k : Keeps (fun _ => False) w1 w2) : Took S E E' w w2 l' :=
 h.more hS k fun _ e => e.elim
theorem Took.start {S : (Nat → Prop) → World → List (List Int) → Prop} {E : Nat → Prop} {w : World} {l : List (List Int)} (h : S E w l) (hl : ∀ i, E i → IsCells w i) : Took S E E w w l := ⟨h, fun _ h => .inl h, hl, Keeps.refl _ _⟩
end Go.Aff
namespace Go.Proofs.YtplleficmkfniaaGreatDoor
open Go Go.RowKit Go.Aff
def takeV (p : Nat) : Value := .func (.func 68) #[] #[.pointer (some ⟨p, 0, none⟩)]
def TkSt (fv : Value) (E : Nat → Prop) (w : World) (l : List (List Int)) : Prop := fv = .nilFunc ∨ ∃ p, fv = takeV p ∧ LogSt 39 48 5 E w p l
def RgSt (p : Nat) (E : Nat → Prop) (w : World) (l : List (List Int)) : Prop := LogSt 143 48 5 E w p l
theorem tkLasts (fv : Value) : Lasts (TkSt fv) := ⟨fun _ _ _ _ _ h k hF => h.imp id fun ⟨p, e, h⟩ => ⟨p, e, h.keep k hF⟩⟩
theorem rgLasts (p : Nat) : Lasts (RgSt p) := ⟨fun _ _ _ _ _ h k hF => LogSt.keep h k hF⟩
structure Tkg (S : (Nat → Prop) → World → List (List Int) → Prop) (E : Nat → Prop) (w : World) (l : List (List Int)) : Prop where
 st : S E w l
 cel : ∀ i, E i → IsCells w i
 gt : ∀ i, E i → GT ≤ i
 glob : GW w
theorem Tkg.lt {S : (Nat → Prop) → World → List (List Int) → Prop} {E : Nat → Prop} {w : World} {l : List (List Int)} (h : Tkg S E w l) : ∀ i, E i → i < w.heap.size := fun i hi => (h.cel i hi).lt
theorem Tkg.next {S : (Nat → Prop) → World → List (List Int) → Prop} {E E' : Nat → Prop} {w w' : World} {l l' : List (List Int)} (h : Tkg S E w l) (k : Took S E E' w w' l') : Tkg S E' w' l' :=
 ⟨k.st, k.cel, fun i hi => (k.new i hi).elim (h.gt i) fun e => Nat.le_trans h.glob.top e, h.glob.keep k.keep h.gt⟩
theorem Tkg.keep {S : (Nat → Prop) → World → List (List Int) → Prop} (hS : Lasts S) {E F : Nat → Prop} {w w' : World} {l : List (List Int)} (h : Tkg S E w l) (k : Keeps F w w') (hF : ∀ i, E i → ¬ F i) (hG : ∀ i, F i → GT ≤ i) : Tkg S E w' l :=
 ⟨hS.keep _ _ _ _ _ h.st k hF, fun i hi => (h.cel i hi).keep k (hF i hi), h.gt, h.glob.keep k hG⟩
theorem Tkg.stay {S : (Nat → Prop) → World → List (List Int) → Prop} (hS : Lasts S) {E : Nat → Prop} {w w' : World} {l : List (List Int)} (h : Tkg S E w l) (k : Keeps (fun _ => False) w w') : Tkg S E w' l := h.keep hS k (fun _ _ h => h) fun _ h => h.elim
theorem Tkg.none {w : World} (h : GW w) (l : List (List Int)) : Tkg (TkSt .nilFunc) (fun _ => False) w l := ⟨.inl rfl, fun _ h => h.elim, fun _ h => h.elim, h⟩
theorem Took.keeps {S : (Nat → Prop) → World → List (List Int) → Prop} {E' : Nat → Prop} {w w' : World} {l' : List (List Int)} (h : Took S (fun _ => False) E' w w' l') : Keeps (fun _ => False) w w' := h.keep
theorem TkSt.none (E : Nat → Prop) (w : World) (l : List (List Int)) : TkSt .nilFunc E w l := .inl rfl
end Go.Proofs.YtplleficmkfniaaGreatDoor
namespace Go.Proofs.YtplleficmkfniaaGreatDoor
open Go Go.RowKit Go.Aff Go.Json
theorem as_null_null (v : Value) (w : World) : (Instr.typeAssert (.iface 217 v) 93 217 true).run Tryz.prog w = .ok (.tuple #[v, .bool true]) w := by kernel_rfl
theorem as_null_list (v : Value) (w : World) : (Instr.typeAssert (.iface 217 v) 93 186 true).run Tryz.prog w = .ok (.tuple #[.pointer none, .bool false]) w := by kernel_rfl
theorem as_null_obj (v : Value) (w : World) : (Instr.typeAssert (.iface 217 v) 93 187 true).run Tryz.prog w = .ok (.tuple #[.pointer none, .bool false]) w := by kernel_rfl
theorem as_flag_null (v : Value) (w : World) : (Instr.typeAssert (.iface 218 v) 93 217 true).run Tryz.prog w = .ok (.tuple #[.agg #[], .bool false]) w := by kernel_rfl
theorem as_flag_flag (v : Value) (w : World) : (Instr.typeAssert (.iface 218 v) 93 218 true).run Tryz.prog w = .ok (.tuple #[v, .bool true]) w := by kernel_rfl
theorem as_flag_list (v : Value) (w : World) : (Instr.typeAssert (.iface 218 v) 93 186 true).run Tryz.prog w = .ok (.tuple #[.pointer none, .bool false]) w := by kernel_rfl
theorem as_flag_obj (v : Value) (w : World) : (Instr.typeAssert (.iface 218 v) 93 187 true).run Tryz.prog w = .ok (.tuple #[.pointer none, .bool false]) w := by kernel_rfl
theorem as_num_null (v : Value) (w : World) : (Instr.typeAssert (.iface 223 v) 93 217 true).run Tryz.prog w = .ok (.tuple #[.agg #[], .bool false]) w := by kernel_rfl
theorem as_num_flag (v : Value) (w : World) : (Instr.typeAssert (.iface 223 v) 93 218 true).run Tryz.prog w = .ok (.tuple #[.bool false, .bool false]) w := by kernel_rfl
theorem as_num_num (v : Value) (w : World) : (Instr.typeAssert (.iface 223 v) 93 223 true).run Tryz.prog w = .ok (.tuple #[v, .bool true]) w := by kernel_rfl
theorem as_num_list (v : Value) (w : World) : (Instr.typeAssert (.iface 223 v) 93 186 true).run Tryz.prog w = .ok (.tuple #[.pointer none, .bool false]) w := by kernel_rfl
theorem as_num_obj (v : Value) (w : World) : (Instr.typeAssert (.iface 223 v) 93 187 true).run Tryz.prog w = .ok (.tuple #[.pointer none, .bool false]) w := by kernel_rfl
theorem as_text_null (v : Value) (w : World) : (Instr.typeAssert (.iface 224 v) 93 217 true).run Tryz.prog w = .ok (.tuple #[.agg #[], .bool false]) w := by kernel_rfl
theorem as_text_flag (v : Value) (w : World) : (Instr.typeAssert (.iface 224 v) 93 218 true).run Tryz.prog w = .ok (.tuple #[.bool false, .bool false]) w := by kernel_rfl
theorem as_text_num (v : Value) (w : World) : (Instr.typeAssert (.iface 224 v) 93 223 true).run Tryz.prog w = .ok (.tuple #[.float .f64 0, .bool false]) w := by kernel_rfl
theorem as_text_text (v : Value) (w : World) : (Instr.typeAssert (.iface 224 v) 93 224 true).run Tryz.prog w = .ok (.tuple #[v, .bool true]) w := by kernel_rfl
theorem as_text_list (v : Value) (w : World) : (Instr.typeAssert (.iface 224 v) 93 186 true).run Tryz.prog w = .ok (.tuple #[.pointer none, .bool false]) w := by kernel_rfl
theorem as_text_obj (v : Value) (w : World) : (Instr.typeAssert (.iface 224 v) 93 187 true).run Tryz.prog w = .ok (.tuple #[.pointer none, .bool false]) w := by kernel_rfl
theorem as_list_null (v : Value) (w : World) : (Instr.typeAssert (.iface 186 v) 93 217 true).run Tryz.prog w = .ok (.tuple #[.agg #[], .bool false]) w := by kernel_rfl
theorem as_list_flag (v : Value) (w : World) : (Instr.typeAssert (.iface 186 v) 93 218 true).run Tryz.prog w = .ok (.tuple #[.bool false, .bool false]) w := by kernel_rfl
theorem as_list_num (v : Value) (w : World) : (Instr.typeAssert (.iface 186 v) 93 223 true).run Tryz.prog w = .ok (.tuple #[.float .f64 0, .bool false]) w := by kernel_rfl
theorem as_list_text (v : Value) (w : World) : (Instr.typeAssert (.iface 186 v) 93 224 true).run Tryz.prog w = .ok (.tuple #[.string ⟨#[]⟩, .bool false]) w := by kernel_rfl
theorem as_list_list (v : Value) (w : World) : (Instr.typeAssert (.iface 186 v) 93 186 true).run Tryz.prog w = .ok (.tuple #[v, .bool true]) w := by kernel_rfl
theorem as_list_obj (v : Value) (w : World) : (Instr.typeAssert (.iface 186 v) 93 187 true).run Tryz.prog w = .ok (.tuple #[.pointer none, .bool false]) w := by kernel_rfl
theorem as_obj_null (v : Value) (w : World) : (Instr.typeAssert (.iface 187 v) 93 217 true).run Tryz.prog w = .ok (.tuple #[.agg #[], .bool false]) w := by kernel_rfl
theorem as_obj_flag (v : Value) (w : World) : (Instr.typeAssert (.iface 187 v) 93 218 true).run Tryz.prog w = .ok (.tuple #[.bool false, .bool false]) w := by kernel_rfl
theorem as_obj_num (v : Value) (w : World) : (Instr.typeAssert (.iface 187 v) 93 223 true).run Tryz.prog w = .ok (.tuple #[.float .f64 0, .bool false]) w := by kernel_rfl
theorem as_obj_text (v : Value) (w : World) : (Instr.typeAssert (.iface 187 v) 93 224 true).run Tryz.prog w = .ok (.tuple #[.string ⟨#[]⟩, .bool false]) w := by kernel_rfl
theorem as_obj_list (v : Value) (w : World) : (Instr.typeAssert (.iface 187 v) 93 186 true).run Tryz.prog w = .ok (.tuple #[.pointer none, .bool false]) w := by kernel_rfl
theorem as_obj_obj (v : Value) (w : World) : (Instr.typeAssert (.iface 187 v) 93 187 true).run Tryz.prog w = .ok (.tuple #[v, .bool true]) w := by kernel_rfl
theorem at_errno_errno (v : Value) (w : World) : (Instr.typeAssert (.iface 85 v) 32 85 false).run Tryz.prog w = .ok v w := by kernel_rfl
end Go.Proofs.YtplleficmkfniaaGreatDoor
