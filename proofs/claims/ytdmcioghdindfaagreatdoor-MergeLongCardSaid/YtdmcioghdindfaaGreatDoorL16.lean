/- Texts. -/
import Derived.Test.YtdmcioghdindfaaGreatDoorL15
set_option linter.unusedSimpArgs false
set_option maxRecDepth 100000
set_option maxHeartbeats 4000000
namespace Go.Json
theorem perm_map_lift {α β : Type} (f : α → β) {l m : List β} (h : l.Perm m) : ∀ T : List α, T.map f = m → ∃ T' : List α, T'.Perm T ∧ T'.map f = l := by
 induction h with
 | nil => intro T hT; exact ⟨T, .refl _, hT⟩
 | cons x _ ih =>
  intro T hT
  match T, hT with
  | t :: T1, hT =>
   rw [List.map_cons] at hT
   injection hT with h1 h2
   obtain ⟨T', hp, hm⟩ := ih T1 h2
   exact ⟨t :: T', hp.cons t, by rw [List.map_cons, h1, hm]⟩
 | swap x y l =>
  intro T hT
  match T, hT with
  | a :: b :: T1, hT =>
   rw [List.map_cons, List.map_cons] at hT
   injection hT with h1 h2
   injection h2 with h2 h3
   exact ⟨b :: a :: T1, .swap a b T1, by rw [List.map_cons, List.map_cons, h1, h2, h3]⟩
  | [], hT => cases hT
  | [_], hT => simp at hT
 | trans _ _ ih1 ih2 =>
  intro T hT
  obtain ⟨T2, hp2, hm2⟩ := ih2 T hT
  obtain ⟨T1, hp1, hm1⟩ := ih1 T2 hm2
  exact ⟨T1, hp1.trans hp2, hm1⟩
section
variable {γ : Type}
theorem zip3_a : ∀ (ks : List ByteArray) (css : List γ) (js : List JV), css.length = ks.length → js.length = ks.length → (ks.zip (css.zip js)).map (fun t => (t.1, t.2.1)) = ks.zip css
 | [], _, _, _, _ => by simp
 | k :: ks, c :: css, j :: js, h1, h2 => by
  simp only [List.zip_cons_cons, List.map_cons]
  rw [zip3_a ks css js (by simpa using h1) (by simpa using h2)]
 | _ :: _, [], _, h, _ => by simp at h
 | _ :: _, _ :: _, [], _, h => by simp at h
theorem zip3_b : ∀ (ks : List ByteArray) (css : List γ) (js : List JV), css.length = ks.length → js.length = ks.length → (ks.zip (css.zip js)).map (fun t => (t.1, t.2.2)) = ks.zip js
 | [], _, _, _, _ => by simp
 | k :: ks, c :: css, j :: js, h1, h2 => by
  simp only [List.zip_cons_cons, List.map_cons]
  rw [zip3_b ks css js (by simpa using h1) (by simpa using h2)]
 | _ :: _, [], _, h, _ => by simp at h
 | _ :: _, _ :: _, [], _, h => by simp at h
theorem zipk_fst : ∀ (ks : List ByteArray) (js : List JV), js.length = ks.length → (ks.zip js).map (·.1) = ks
 | [], _, _ => by simp
 | k :: ks, j :: js, h => by
  simp only [List.zip_cons_cons, List.map_cons]
  rw [zipk_fst ks js (by simpa using h)]
 | _ :: _, [], h => by simp at h
theorem ordered_obj {ks : List ByteArray} {css : List γ} {js : List JV} (h1 : css.length = ks.length) (h2 : js.length = ks.length) {ms' : List (ByteArray × γ)} (hp : ms'.Perm (ks.zip css)) (hn : NotM ms') (hnd : ks.Nodup) (hr : ∀ k ∈ ks, rightS k = true) :
  ∃ T : List (ByteArray × γ × JV), T.Perm (ks.zip (css.zip js)) ∧ ms' = T.map (fun t => (t.1, t.2.1)) ∧ mkObj ks js = .obj (T.map (·.1)) (T.map (·.2.2)) := by
 obtain ⟨T, hT, hm⟩ := perm_map_lift (fun t : ByteArray × γ × JV => (t.1, t.2.1)) hp _ (zip3_a ks css js h1 h2)
 refine ⟨T, hT, hm.symm, ?_⟩
 have hg : (T.map fun t => (t.1, t.2.2)).Perm (ks.zip js) := by
  rw [← zip3_b ks css js h1 h2]
  exact hT.map _
 have hk : (T.map fun t => (t.1, t.2.2)).map (·.1) = T.map (·.1) := by rw [List.map_map]; rfl
 have hpk : (T.map (·.1)).Perm ks := by
  have := hg.map (·.1)
  rw [hk, zipk_fst ks js h2] at this
  exact this
 have hnk : (T.map (·.1)).Nodup := hpk.nodup_iff.2 hnd
 have hri : Rising (T.map fun t => (t.1, t.2.2)) := by
  have ha : T.Pairwise fun p q => ¬ ltS q.1 p.1 := by
   rw [← hm] at hn
   exact List.pairwise_map.1 hn
  have hb : T.Pairwise fun p q => p.1 ≠ q.1 := List.pairwise_map.1 hnk
  have hc : ∀ t ∈ T, rightS t.1 = true := fun t ht => hr _ (hpk.mem_iff.1 (List.mem_map.2 ⟨t, ht, rfl⟩))
  refine List.pairwise_map.2 ?_
  refine (ha.and hb).imp_of_mem fun {p q} hp hq h => ?_
  rcases ltS_tri (hc p hp) (hc q hq) with h3 | h3 | h3
  ·exact h3
  ·exact absurd h3 h.2
  exact absurd h3 h.1
 have hz : sortM (ks.zip js) = T.map fun t => (t.1, t.2.2) := by
  refine rising_eq (sortM_rising _ (by rw [zipk_fst ks js h2]; exact hnd) fun p hp => hr _ (List.of_mem_zip hp).1) hri fun x => ?_
  rw [(sortM_perm _).mem_iff, hg.mem_iff]
 unfold mkObj
 rw [hz, List.map_map, List.map_map]
 rfl
end
end Go.Json
namespace Go.Proofs.YtdmcioghdindfaaGreatDoor
open Go.Json
theorem right_noughts : rightS .empty = true := right_empty rfl
theorem mkObj_ok {ks : List ByteArray} {js : List JV} (h2 : js.length = ks.length) (hnd : ks.Nodup) (hr : ∀ k ∈ ks, rightS k = true) (hj : ∀ j ∈ js, JOk j) : JOk (mkObj ks js) := by
 have hri : Rising (sortM (ks.zip js)) := sortM_rising _ (by rw [zipk_fst ks js h2]; exact hnd) fun p hp => hr _ (List.of_mem_zip hp).1
 have hmem : ∀ p ∈ sortM (ks.zip js), p ∈ ks.zip js := fun p h => (sortM_perm _).mem_iff.1 h
 refine .mk _ ?_ (fun _ => ?_) ?_ ?_ right_noughts ?_
 ·show ((sortM (ks.zip js)).map (·.1)).length ≤ ((sortM (ks.zip js)).map (·.2)).length
  rw [List.length_map, List.length_map]
  exact Nat.le_refl _
 ·show ((sortM (ks.zip js)).map (·.1)).length = ((sortM (ks.zip js)).map (·.2)).length
  rw [List.length_map, List.length_map]
 ·exact List.pairwise_map.2 hri
 ·intro k hk
  obtain ⟨p, hp, rfl⟩ := List.mem_map.1 (show k ∈ (sortM (ks.zip js)).map (·.1) from hk)
  exact hr _ (List.of_mem_zip (hmem p hp)).1
 intro x hx
 obtain ⟨p, hp, rfl⟩ := List.mem_map.1 (show x ∈ (sortM (ks.zip js)).map (·.2) from hx)
 exact hj _ (List.of_mem_zip (hmem p hp)).2
theorem leaf_ok {j : JV} (h : j.items = []) (hk : j.keys = []) (hs : j.sort ≠ 6) (ht : rightS j.last.text = true) : JOk j :=
 .mk j (by rw [hk]; exact Nat.zero_le _) (fun e => absurd e hs) (by rw [hk]; exact .nil) (fun k h => by rw [hk] at h; cases h) ht (fun x hx => by rw [‹j.items = []›] at hx; cases hx)
theorem list_ok {l : List JV} (h : ∀ j ∈ l, JOk j) : JOk (.list l) :=
 by
 exact .mk _ (Nat.zero_le _) (fun e => absurd (show (5 : Int) = 6 from e) (by decide)) .nil (fun k h => by cases h) right_noughts h
theorem mkV_ok {s : StepV} {L : List JV} (hu : usedF s = true) (ht : rightS s.text = true) (hk : ∀ k ∈ s.keys, rightS k = true) (hn : s.keys.Nodup) (hl : s.sort = 6 → L.length = s.keys.length) (hL : ∀ j ∈ L, JOk j) : JOk (mkV s L) := by
 obtain ⟨_, _, _, h1, h6, _⟩ := used_parts hu
 have hs : s.sort = 1 ∨ s.sort = 2 ∨ s.sort = 3 ∨ s.sort = 4 ∨ s.sort = 5 ∨ s.sort = 6 := by omega
 unfold mkV
 by_cases a1 : s.sort = 1
 ·rw [if_pos a1]; exact leaf_ok rfl rfl (by decide) right_noughts
 rw [if_neg a1]
 by_cases a2 : s.sort = 2
 ·rw [if_pos a2]; exact leaf_ok rfl rfl (by simp [JV.sort]) right_noughts
 rw [if_neg a2]
 by_cases a3 : s.sort = 3
 ·rw [if_pos a3]; exact leaf_ok rfl rfl (by simp [JV.sort]) right_noughts
 rw [if_neg a3]
 by_cases a4 : s.sort = 4
 ·rw [if_pos a4]; exact leaf_ok rfl rfl (by simp [JV.sort]) ht
 rw [if_neg a4]
 by_cases a5 : s.sort = 5
 ·rw [if_pos a5]; exact list_ok hL
 rw [if_neg a5]
 exact mkObj_ok (hl (by omega)) hn hk hL
def RowOk (P : List JV) : Prop := ∀ j ∈ P, JOk j ∧ j.within
theorem RowOk.nil : RowOk [] := fun j h => by cases h
theorem doF_ok {P P' : List JV} {s : StepV} (h : doF P s = .inr P') (hP : RowOk P) : RowOk P' := by
 unfold doF at h
 split at h
 ·cases h
 rename_i hu
 have hu : usedF s = true := by simpa using hu
 split at h
 ·cases h
 split at h
 ·cases h
 rename_i hr
 split at h
 ·cases h
 rename_i hn
 split at h
 ·cases h
 rename_i hf
 split at h
 ·cases h
 rename_i hw
 injection h with h
 subst h
 obtain ⟨_, u2, _, _, _, u0⟩ := used_parts hu
 have hr1 : rightS s.text = true := by
  rcases hq : rightS s.text with _ | _
  ·exact absurd (.inl hq) hr
  rfl
 have hr2 : s.keys.all rightS = true := by
  rcases hq : s.keys.all rightS with _ | _
  ·exact absurd (.inr hq) hr
  rfl
 intro j hj
 rcases List.mem_append.1 hj with hj | hj
 ·exact hP j (List.mem_of_mem_take hj)
 rw [List.mem_singleton.1 hj]
 refine ⟨mkV_ok hu hr1 (fun k hk => List.all_eq_true.1 hr2 k hk) (Classical.not_not.1 hn) (fun e => ?_) fun x hx => (hP x (List.mem_of_mem_drop hx)).1, Classical.not_not.1 hw⟩
 rw [List.length_drop, u2 (by omega)]
 have : ¬ P.length < (0 : Int).toNat + s.keys.length := by rw [← u2 (by omega)]; exact hf
 simp at this ⊢
 omega
end Go.Proofs.YtdmcioghdindfaaGreatDoor
namespace Go.Proofs.YtdmcioghdindfaaGreatDoor
open Go Go.RowKit Go.Aff Go.Json Go.Utf
def MadePost (D : Nat → Prop) (w : World) (j : JV) (e : Ending) (w' : World) : Prop :=
 ∃ v, e = .returned (.agg v.toArray) ∧ RAt (fun i => D i ∨ w.heap.size ≤ i) w' v j ∧ Keeps (fun _ => False) w w'
theorem list6 {cs : List Value} (h : cs.length = 6) : ∃ a b c d e f, cs = [a, b, c, d, e, f] := by
 match cs, h with
 | [a, b, c, d, e, f], _ => exact ⟨a, b, c, d, e, f, rfl⟩
theorem zip_take {ks : List ByteArray} {css : List (List Value)} {i : Nat} {k : ByteArray} {cs : List Value} (h1 : ks[i]? = some k) (h2 : css[i]? = some cs) : (ks.zip css).take (i + 1) = (ks.zip css).take i ++ [(k, cs)] := by
 have : (ks.zip css)[i]? = some (k, cs) := List.getElem?_zip_eq_some.2 ⟨h1, h2⟩
 rw [List.take_add_one, this]
 rfl
theorem six_zip {ks : List ByteArray} {css : List (List Value)} (h : ∀ c ∈ css, c.length = 6 ∧ ∀ u ∈ c, u.oneCell' = true) : SixM (ks.zip css) := fun p hp => h p.2 (List.of_mem_zip hp).2
theorem item_range {w : World} {g o n i : Nat} {css : List (List Value)} {cs : List Value} (hc : ∀ j, j < n * 6 → w.cell? ⟨g, o + j, none⟩ = css.flatten[j]?) (hi : i < n) (h6 : ∀ c ∈ css, c.length = 6) (h : css[i]? = some cs) : w.rangeAt g (o + i * 6) cs := fun j v hv => by
 have hj : j < 6 := by
  have := (List.getElem?_eq_some_iff.1 hv).1
  rw [h6 cs (List.mem_of_getElem? h)] at this
  exact this
 rw [Nat.add_assoc, hc _ (by omega)]
 exact flat_get h6 h hv
theorem mem_range7 {w : World} {g o n i : Nat} {ms : List MemV} {p : MemV} (hc : ∀ j, j < n * 7 → w.cell? ⟨g, o + j, none⟩ = (flatM ms)[j]?) (hi : i < n) (h6 : SixM ms) (h : ms[i]? = some p) : w.rangeAt g (o + i * 7) (memC p) := fun j v hv => by
 have hp := h6 p (List.mem_of_getElem? h)
 have hj : j < 7 := by
  have := (List.getElem?_eq_some_iff.1 hv).1
  rwa [memC_len hp.1] at this
 rw [Nat.add_assoc, hc _ (by omega), ← List.getElem?_drop, flatM_drop i h6]
 obtain ⟨hl, he⟩ := List.getElem?_eq_some_iff.1 h
 rw [List.drop_eq_getElem_cons hl, he, flatM_cons, List.getElem?_append_left (by rw [memC_len hp.1]; exact hj)]
 exact hv
def valZ : List Value := [.int .i64 0, .bool false, .int .u64 0, .string .empty, .slice none 0 0, .slice none 0 0]
theorem MineS.inB {s : Nat} {w wr : World} {e : TypeId} {A : Option Addr} {m c : Nat} {xs : List Value} (h : MineS s w wr e A m c xs) : InB (fun i => w.heap.size ≤ i) A m := fun _ a e => h.2.2 a.block (by subst e; rfl)
def sixSet (w : World) (b : Nat) (v0 v1 v2 v3 v4 v5 : Value) : World :=
 (((((w.setCell ⟨b, 0, none⟩ v0).setCell ⟨b, 1, none⟩ v1).setCell ⟨b, 2, none⟩ v2).setCell ⟨b, 3, none⟩ v3).setCell ⟨b, 4, none⟩ v4).setCell ⟨b, 5, none⟩ v5
theorem six_keeps (w : World) (b : Nat) (v0 v1 v2 v3 v4 v5 : Value) : Keeps (fun i => i = b) w (sixSet w b v0 v1 v2 v3 v4 v5) :=
 ((((((Keeps.refl (fun i => i = b) w).setCell (p := ⟨b, 0, none⟩) (.inl rfl) v0).setCell (p := ⟨b, 1, none⟩) (.inl rfl) v1).setCell (p := ⟨b, 2, none⟩) (.inl rfl) v2).setCell (p := ⟨b, 3, none⟩) (.inl rfl) v3).setCell (p := ⟨b, 4, none⟩) (.inl rfl) v4).setCell (p := ⟨b, 5, none⟩) (.inl rfl) v5
theorem six_blk {w : World} {b : Nat} {T : TypeId} {z0 z1 z2 z3 z4 z5 : Value} (h : Blk w b T [z0, z1, z2, z3, z4, z5]) (v0 v1 v2 v3 v4 v5 : Value) : Blk (sixSet w b v0 v1 v2 v3 v4 v5) b T [v0, v1, v2, v3, v4, v5] :=
 (((((h.set_ 0 v0).set_ 1 v1).set_ 2 v2).set_ 3 v3).set_ 4 v4).set_ 5 v5
theorem made_end {D : Nat → Prop} {w w2 wr : World} {ks : List ByteArray} {css : List (List Value)} {js : List JV} {T : List (ByteArray × List Value × JV)} {n b p : Nat} {A1 A2 : Option Addr} {d1 d2 : Nat} {cs : List Value} {e f : TypeId} {TT : TypeId} {z0 z1 z2 z3 z4 z5 : Value} {TV : TypeId}
  (hl : RList D w css js) (hT : T.Perm (ks.zip (css.zip js))) (hobj : mkObj ks js = .obj (T.map (·.1)) (T.map (·.2.2))) (hn : T.length = n) (hb : b = w.heap.size) (hw : Keeps (fun _ => False) w w2) (hb2 : b < w2.heap.size) (hbb : Blk wr b TV [z0, z1, z2, z3, z4, z5])
  (h : BoxTwo w2 wr p TT cs e 1 A1 n d1 ((T.map (·.1)).map .string) f 6 A2 n d2 (T.map (·.2.1)).flatten) :
  Blk (sixSet wr b (.int .i64 6) (.bool false) (.int .u64 0) (.string .empty) (.slice A2 n d2) (.slice A1 n d1)) b TV [.int .i64 6, .bool false, .int .u64 0, .string .empty, .slice A2 n d2, .slice A1 n d1] ∧
  RAt (fun i => D i ∨ w.heap.size ≤ i) (sixSet wr b (.int .i64 6) (.bool false) (.int .u64 0) (.string .empty) (.slice A2 n d2) (.slice A1 n d1)) [.int .i64 6, .bool false, .int .u64 0, .string .empty, .slice A2 n d2, .slice A1 n d1] (mkObj ks js) ∧
  Keeps (fun _ => False) w (sixSet wr b (.int .i64 6) (.bool false) (.int .u64 0) (.string .empty) (.slice A2 n d2) (.slice A1 n d1)) := by
 have hwr := hw.trans h.hold (fun _ _ h => h)
 have hk := six_keeps wr b (.int .i64 6) (.bool false) (.int .u64 0) (.string .empty) (.slice A2 n d2) (.slice A1 n d1)
 refine ⟨six_blk hbb _ _ _ _ _ _, ?_, hwr.trans hk (fun i hi e => by omega)⟩
 have hlist : RList (fun i => (D i ∧ i < w.heap.size) ∨ w2.heap.size ≤ i) wr (T.map (·.2.1)) (T.map (·.2.2)) := by
  refine ⟨by simp, fun i c x h1 h2 => ?_⟩
  rw [List.getElem?_map] at h1 h2
  obtain ⟨t, ht, e1⟩ := Option.map_eq_some_iff.1 h1
  rw [ht] at h2
  injection h2 with e2
  have hm := hT.mem_iff.1 (List.mem_of_getElem? ht)
  obtain ⟨q, hq⟩ := List.getElem?_of_mem hm
  have h3 := (List.getElem?_zip_eq_some.1 hq).2
  have h4 := List.getElem?_zip_eq_some.1 h3
  have h5 := hl.2 q _ _ h4.1 h4.2
  rw [← e1, ← e2]
  exact ((h5.mono (C := fun i => D i ∧ i < w.heap.size) (fun i h1 h2 => ⟨h1, h2⟩)).stay hwr).mono (fun i h1 _ => .inl h1)
 have hA := MineS.rdS h.two.b
 have hB := MineS.rd h.two.a
 have hw2 := h.hold
 have hr : RAt (fun i => (D i ∧ i < w.heap.size) ∨ w2.heap.size ≤ i) wr (refC (.obj (T.map (·.1)) (T.map (·.2.2))) A2 d2 A1 d1) (.obj (T.map (·.1)) (T.map (·.2.2))) := by
  have l1 : (T.map (·.2.2)).length = n := by rw [List.length_map]; exact hn
  have l2 : (T.map (·.1)).length = n := by rw [List.length_map]; exact hn
  refine RAt.of (.obj (T.map (·.1)) (T.map (·.2.2))) hlist ?_ ?_ ?_ ?_
  ·show RdS 6 wr A2 (T.map (·.2.2)).length _
   rw [l1]; exact hA
  ·show InB _ A2 (T.map (·.2.2)).length
   rw [l1]; exact (MineS.inB h.two.b).mono fun i hi => .inr hi
  ·show Rd wr A1 (T.map (·.1)).length _
   rw [l2]; exact hB
  show InB _ A1 (T.map (·.1)).length
  rw [l2]; exact (MineS.inB h.two.a).mono fun i hi => .inr hi
 rw [hobj]
 have hcs : refC (.obj (T.map (·.1)) (T.map (·.2.2))) A2 d2 A1 d1 = [.int .i64 6, .bool false, .int .u64 0, .string .empty, .slice A2 n d2, .slice A1 n d1] := by
  show [Value.int .i64 6, .bool false, .int .u64 0, .string .empty, .slice A2 (T.map (·.2.2)).length d2, .slice A1 (T.map (·.1)).length d1] = _
  rw [List.length_map, List.length_map, hn]
 rw [hcs] at hr
 refine (hr.keep hk (fun i hi e => ?_)).mono fun i hi _ => hi.elim (fun h => .inl h.1) (fun h => .inr (by have := hw.size; omega))
 rcases hi with h1 | h1
 ·have := h1.2; omega
 omega
theorem rmade_any {D : Nat → Prop} (w : World) (B : Option Addr) (n d : Nat) (ks : List ByteArray) (hn : ks.length = n) (hr : Rd w B n (ks.map .string)) (A : Option Addr) (c : Nat) (css : List (List Value)) (js : List JV) (hA : RdS 6 w A n css.flatten) (hl : RList D w css js) (hj : js.length = n)
  (hnd : ks.Nodup) (hri : ∀ s ∈ ks, rightS s = true) (hs : ∀ s ∈ ks, s.size ≤ 1099511627776) (hm : n ≤ 1048576) :
  Calls Tryz.prog 69 #[.slice B n d, .slice A n c] w (MadePost D w (mkObj ks js)) := by
 have HR := H_ hr
 have HA := H_ hA
 have HL := H_ hl
 have HN := H_ (And.intro hn hj)
 have HS := H_ (And.intro hnd (And.intro hri hs))
 have HC6 : Hid (∀ c ∈ css, c.length = 6 ∧ ∀ u ∈ c, u.oneCell' = true) := H_ fun c hc => ⟨hl.six c hc, fun u hu => hl.cells u (List.mem_flatten.2 ⟨c, hc, hu⟩)⟩
 have HCL : Hid (css.length = n) := H_ (hl.1.trans hj)
 have HB0 := H_ (And.intro ((Keeps.refl (fun _ => False) w).alloc (.cells valZ.toArray 31)) (Blk.new w 31 valZ))
 unfold valZ at HB0
 clear hn hr hA hl hj hnd hri hs
 go_enter Tryz.func69, Tryz.ntmps69
 go_upto_block 0 with fail
 obtain ⟨b, hb⟩ : ∃ b, b = w.heap.size := ⟨_, rfl⟩
 rw [← hb] at HB0 ⊢
 refine gen_codeF (fun W => Keeps (fun _ => False) w W ∧ Blk W b 31 [.int .i64 0, .bool false, .int .u64 0, .string .empty, .slice none 0 0, .slice none 0 0]) HB0.out ?_
 intro w1 hb1
 have HB1 := H_ hb1
 have HBW := H_ hb
 clear hb1 HB0 hb
 go_wp2
 go_loopg [5, 6] n (fun gk y t wx => ∃ (i : Nat) (L : Option Addr) (cl : Nat), i ≤ n ∧ y = .slice L i cl ∧ t = .int .i64 i ∧ gk = n - i ∧ Hid (MineS 7 w1 wx 210 L i cl (flatM ((ks.zip css).take i))))
 case atStart => exact ⟨0, none, 0, by omega, rfl, rfl, rfl, H_ (by rw [List.take_zero]; exact MineS.nil 7 w1 _)⟩
 case round =>
  obtain ⟨i, L, cl, hin, rfl, rfl, hgk, HO⟩ := hrel
  have HGK := H_ hgk
  clear hgk
  by_cases hlt : i < n
  ·obtain ⟨g, o, k, hB, hk, hck⟩ := textAt (HR.out.keep (HB1.out.1.trans HO.out.2.1 (fun _ _ h => h)) (fun _ _ _ h => h)) hlt
   subst hB
   obtain ⟨g2, o2, hA2, hc2⟩ := (HA.out.stay (HB1.out.1.trans HO.out.2.1 (fun _ _ h => h))).2 (by omega)
   subst hA2
   obtain ⟨cs, hcs⟩ : ∃ cs, css[i]? = some cs := ⟨_, List.getElem?_eq_getElem (by rw [HCL.out]; exact hlt)⟩
   have hrg := item_range hc2 hlt (fun c hc => (HC6.out c hc).1) hcs
   have hz := zip_take hk hcs
   have h61 := HC6.out cs (List.mem_of_getElem? hcs)
   obtain ⟨u0, u1, u2, u3, u4, u5, rfl⟩ := list6 h61.1
   have HCK := H_ (And.intro hck hrg)
   have HZ := H_ hz
   have H61 := H_ h61.2
   clear hk hck hc2 hcs hrg hz h61
   have hi63 : (0 : Int) ≤ (i : Int) := by omega
   have hiN : (i : Int) < (n : Int) := by omega
   go_upto_region 5 with fail
   refine wp_region_tail (S := Keeps (fun _ => False) wr) 11 (by kernel_rfl) (Keeps.refl _ _).drew (fun h_ => ?_)
   refine tJ 0 15 ?_
   try simp only [pu]
   refine tJ 1 16 ?_
   try simp only [pu]
   refine tJ 2 17 ?_
   try simp only [pu]
   refine tJ 3 18 ?_
   try simp only [pu]
   refine tT [4, 9, 10] (i := 4) (oi := ⟨some 19, _, _, _, _, _⟩) (v := ?_) rfl (Or.inl ⟨by rfl, ?_⟩) h_ ?_
   rotate_left
   ·intro w' hSw
    have cv := cell_keep hSw HCK.out.1
    go_simp
    first | done | rfl
   try simp only [pu]
   refine tJ 5 20 ?_
   try simp only [pu]
   refine tJ 6 21 ?_
   try simp only [pu]
   refine tJ 7 22 ?_
   try simp only [pu]
   refine tT [8, 9, 10] (i := 8) (oi := ⟨some 23, _, _, _, _, _⟩) (v := _) rfl (yieldsIf_load_mid (by rfl) _ _ rfl _ _ rfl [u0, u1, u2, u3, u4, u5] _ (fun w' h => fun j v hv => cell_keep h (HCK.out.2 j v hv)) Tryz.underlying31 rfl (by kernel_rfl)) h_ ?_
   try simp only [pu]
   refine tJ 9 24 ?_
   try simp only [pu]
   refine wpAnyT_step (i := 10) (o := ⟨some 25, _, _, _, _, _⟩) (by kernel_rfl) rfl (fun K hK => ?_)
   refine step_box_S rfl 208 210 (.tmp 24) rfl (.agg #[.string .empty, .int .i64 0, .bool false, .int .u64 0, .string .empty, .slice none 0 0, .slice none 0 0]) 7 Tryz.underlying208 (by kernel_rfl) (by decide) (by decide) [.string k, u0, u1, u2, u3, u4, u5] rfl rfl ?_
   refine hK.out _ _ (h_.alloc _) (fun h_ => ?_)
   clear hK K
   try simp only [pu]
   refine wpAnyT_tail (i := 11) (o := ⟨some 26, _, _, _, _, _⟩) (by kernel_rfl) (by kernel_rfl) rfl (fun K hK => ?_)
   refine step_append_own rfl (.tmp 15) (.tmp 25) 208 rfl 210 (.agg #[.string .empty, .int .i64 0, .bool false, .int .u64 0, .string .empty, .slice none 0 0, .slice none 0 0]) 7 104 Tryz.underlying208 (by kernel_rfl) rfl (by decide) L i cl _ rfl (HO.out.keep h_).1 ⟨wr.drew.heap.size, 0, none⟩ 1 1 [.string k, u0, u1, u2, u3, u4, u5] rfl rfl (fun j u hu => by rw [add_at, Nat.zero_add]; exact ((Blk.new _ _ _).cell j).trans hu) (memC_one (p := (k, [u0, u1, u2, u3, u4, u5])) H61.out) (by simp only [maxLen]; omega) (by omega) ?_
   intro A5 c5 w5 hown5 hg5 hb5
   have HM5 := H_ ((HO.out.keep h_).grown hown5 hg5 hb5)
   refine hK.out _ _ ?_
   clear hK K
   try simp only [pu]
   refine wpAnyT_tail (i := 12) (o := ⟨some 5, _, _, _, _, _⟩) (by kernel_rfl) (by kernel_rfl) rfl (fun K hK => ?_)
   go_simp
   refine hK.out _ _ ?_
   clear hK K
   try simp only [pu]
   refine wpAnyT_done (by kernel_rfl) ?_
   go_wp2
   go_roundg (n - (i + 1))
   case measure => rw [HGK.out]; omega
   case rel => exact ⟨i + 1, A5, c5, by omega, rfl, by go_num, rfl, H_ (by rw [HZ.out, flatM_app, show flatM [(k, [u0, u1, u2, u3, u4, u5])] = [.string k, u0, u1, u2, u3, u4, u5] by simp [flatM, memC]]; exact HM5.out)⟩
  obtain rfl : i = n := by omega
  have HZ : Hid ((ks.zip css).take i = ks.zip css) := H_ (List.take_of_length_le (by rw [List.length_zip, HN.out.1, HCL.out]; omega))
  have HO2 : Hid (MineS 7 w1 wr 210 L i cl (flatM (ks.zip css))) := H_ (by have := HO.out; rwa [HZ.out] at this)
  have HORD : Hid (Calls Tryz.prog 109 #[.slice L i cl] wr fun e w' => ∃ A c ms', e = .returned (.slice A i c) ∧ Hid (RdS 7 w' A i (flatM ms')) ∧ Hid (ms'.Perm (ks.zip css) ∧ NotM ms') ∧ Hid (Keeps (fun _ => False) wr w')) := H_ (by
   have hz : (ks.zip css).length = i := by rw [List.length_zip, HN.out.1, HCL.out, Nat.min_self]
   refine (rordered_any i wr L cl (ks.zip css) hz (MineS.cap HO2.out) (MineS.rdS HO2.out) (six_zip HC6.out) (by omega) (fun s h => HS.out.2.2 _ (List.of_mem_zip h).1) (fun s h => HS.out.2.1 _ (List.of_mem_zip h).1)).mono ?_
   rintro e w' ⟨A, c, ms', he, _, h1, h2, h3, h4⟩
   rw [hz] at he h1
   exact ⟨A, c, ms', he, H_ h1, H_ ⟨h2, h3⟩, H_ h4⟩)
  clear HO HZ
  go_upto_block 2 with (go_at_call 109; refine HORD.out.mono ?_; rintro e w2 ⟨L2, c2, ms, rfl, HM2, HP2, HK2⟩; have hbz := Blk.new w2 31 [.int .i64 0, .bool false, .int .u64 0, .string .empty, .slice none 0 0, .slice none 0 0]; have f0 := hbz.frozen 0; have f1 := hbz.frozen 1; have f2 := hbz.frozen 2; have f3 := hbz.frozen 3; have f4 := hbz.frozen 4; have f5 := hbz.frozen 5; clear hbz)
  obtain ⟨T, hT, hms, hobj⟩ := ordered_obj (css := css) (js := js) (HCL.out.trans HN.out.1.symm) (HN.out.2.trans HN.out.1.symm) HP2.out.1 HP2.out.2 HS.out.1 HS.out.2.1
  have hTl : T.length = i := by rw [hT.length_eq, List.length_zip, List.length_zip, HN.out.1, HN.out.2, HCL.out]; omega
  have HT := H_ (And.intro hT (And.intro hms (And.intro hobj hTl)))
  have HM6 : Hid (SixM ms) := H_ ((six_zip HC6.out).of_mem fun p hp => HP2.out.1.mem_iff.1 hp)
  have HR7 : Hid (∀ (W : World) (q : Nat), Keeps (fun _ => False) w2 W → q < i → ∃ g o k cs j, L2 = some ⟨g, o, none⟩ ∧ T[q]? = some (k, cs, j) ∧ (cs.length = 6 ∧ ∀ u ∈ cs, u.oneCell' = true) ∧ W.rangeAt g (o + q * 7) (memC (k, cs))) := H_ fun W q hW hq => by
   obtain ⟨g, o, e, hc⟩ := (HM2.out.stay hW).2 (by omega)
   obtain ⟨⟨k, cs, j⟩, ht⟩ : ∃ t, T[q]? = some t := ⟨_, List.getElem?_eq_getElem (by omega)⟩
   have hm : ms[q]? = some (k, cs) := by rw [hms, List.getElem?_map, ht]; rfl
   exact ⟨g, o, k, cs, j, e, ht, HM6.out _ (List.mem_of_getElem? hm), mem_range7 hc hq HM6.out hm⟩
  have HBW2 : Hid (b < w2.heap.size) := H_ (by have h1 := HB1.out.2.lt; have h2 := HO2.out.2.1.size; have h3 := HK2.out.size; omega)
  clear hT hms hobj hTl HORD
  obtain ⟨p, hp⟩ : ∃ p, p = w2.heap.size := ⟨_, rfl⟩
  rw [← hp]
  refine gen_codeF (fun W => BoxTwo w2 W p 31 [.int .i64 6, .bool false, .int .u64 0, .string .empty, .slice none 0 0, .slice none 0 0] 9 1 none 0 0 [] 31 6 none 0 0 []) (by rw [hp]; exact BoxTwo.start w2 _ _ _ _ _ (Keeps.refl _ w2) _) ?_
  intro w3 hb3
  have HB3 := H_ hb3
  clear hb3 hp
  go_wp2
  go_loopg [8] i (fun gk t wx => ∃ (q : Nat) (A1 : Option Addr) (d1 : Nat) (A2 : Option Addr) (d2 : Nat), q ≤ i ∧ t = .int .i64 q ∧ gk = i - q ∧ Hid (BoxTwo w2 wx p 31 [.int .i64 6, .bool false, .int .u64 0, .string .empty, .slice A2 q d2, .slice A1 q d1] 9 1 A1 q d1 (((T.take q).map (·.1)).map .string) 31 6 A2 q d2 ((T.take q).map (·.2.1)).flatten))
  case atStart => exact ⟨0, none, 0, none, 0, by omega, rfl, rfl, H_ (by rw [List.take_zero]; exact HB3.out)⟩
  case round =>
   obtain ⟨q, A1, d1, A2, d2, hqi, rfl, hgk, HBX⟩ := hrel
   have HGK := H_ hgk
   clear hgk
   by_cases hlt : q < i
   ·obtain ⟨g, o, k, cs, j, hL2, hTq, h61, hrg⟩ := HR7.out wr q HBX.out.hold hlt
    subst hL2
    obtain ⟨u0, u1, u2, u3, u4, u5, rfl⟩ := list6 h61.1
    have HTQ := H_ hTq
    have H61 := H_ h61.2
    have HRG := H_ hrg
    have HCK : Hid (wr.cell? ⟨g, o + q * 7, none⟩ = some (.string k)) := H_ (by have := hrg 0 _ rfl; simpa using this)
    clear hTq h61 hrg
    have hi63 : (0 : Int) ≤ (q : Int) := by omega
    have hiN : (q : Int) < (i : Int) := by omega
    go_upto_region 11 with fail
    refine wp_region_tail (S := Keeps (fun _ => False) wr) 8 (by kernel_rfl) (Keeps.refl _ _).drew (fun h_ => ?_)
    refine tJ 0 36 ?_
    try simp only [pu]
    refine tT [1] (i := 1) (oi := ⟨some 37, _, _, _, _, _⟩) (v := ?_) rfl (Or.inl ⟨by rfl, ?_⟩) h_ ?_
    rotate_left
    ·intro w' hSw
     have cv := (HBX.out.keep hSw).blk.cell 5
     go_simp
     first | done | rfl
    try simp only [pu]
    refine tJ 2 38 ?_
    try simp only [pu]
    refine tJ 3 39 ?_
    try simp only [pu]
    refine tJ 4 40 ?_
    try simp only [pu]
    refine tJ 5 41 ?_
    try simp only [pu]
    refine tT [6, 7] (i := 6) (oi := ⟨some 42, _, _, _, _, _⟩) (v := ?_) rfl (Or.inl ⟨by rfl, ?_⟩) h_ ?_
    rotate_left
    ·intro w' hSw
     have cv := cell_keep hSw HCK.out
     go_simp
     first | done | rfl
    try simp only [pu]
    refine wpAnyT_step (i := 7) (o := ⟨some 43, _, _, _, _, _⟩) (by kernel_rfl) rfl (fun K hK => ?_)
    go_simp
    refine hK.out _ _ (h_.alloc _) (fun h_ => ?_)
    clear hK K
    try simp only [pu]
    refine wpAnyT_tail (i := 8) (o := ⟨some 44, _, _, _, _, _⟩) (by kernel_rfl) (by kernel_rfl) rfl (fun K hK => ?_)
    refine step_append_own rfl (.tmp 37) (.tmp 43) 29 rfl 9 (.string .empty) 1 16 Tryz.underlying29 (by kernel_rfl) rfl (by decide) A1 q d1 _ rfl (HBX.out.keep h_).two.a.1 ⟨wr.drew.heap.size, 0, none⟩ 1 1 [.string k] rfl rfl (cell_one_new _ _ _) (by intro u hu; rw [List.mem_singleton.1 hu]; rfl) (by simp only [maxLen]; omega) (by omega) ?_
    intro A5 c5 w5 hown5 hg5 hb5
    have HBX5 := H_ ((HBX.out.keep h_).app hown5 hg5 hb5)
    have cv5 := HBX5.out.blk.cell 5
    have fz5 := HBX5.out.blk.frozen 5
    refine hK.out _ _ ?_
    clear hK K
    try simp only [pu]
    refine wpAnyT_tail (i := 9) (o := ⟨some 45, _, _, _, _, _⟩) (by kernel_rfl) (by kernel_rfl) rfl (fun K hK => ?_)
    go_simp
    refine hK.out _ _ ?_
    clear hK K
    try simp only [pu]
    refine wpAnyT_tail (i := 10) (o := ⟨none, _, _, _, _, _⟩) (by kernel_rfl) (by kernel_rfl) rfl (fun K hK => ?_)
    go_simp
    refine hK.out _ _ ?_
    clear hK K
    try simp only [pu]
    refine wpAnyT_done (by kernel_rfl) ?_
    obtain ⟨w6, hw6⟩ : ∃ w6, w6 = w5.setCell ⟨p, 5, none⟩ (.slice A5 (q + 1) c5) := ⟨_, rfl⟩
    have HB6 : Hid (BoxTwo w2 w6 p 31 [.int .i64 6, .bool false, .int .u64 0, .string .empty, .slice A2 q d2, .slice A5 (q + 1) c5] 9 1 A5 (q + 1) c5 (((T.take (q + 1)).map (·.1)).map .string) 31 6 A2 q d2 ((T.take q).map (·.2.1)).flatten) := H_ (by
     rw [hw6, List.take_add_one, HTQ.out]
     have := HBX5.out.set 5 (.slice A5 (q + 1) c5)
     simpa using this)
    have HVC : Hid (∀ W, Keeps (fun _ => False) w2 W → W.rangeAt g (o + q * 7 + 1) [u0, u1, u2, u3, u4, u5]) := H_ fun W hW => by
     obtain ⟨g', o', k', cs', j', e1, e2, _, e3⟩ := HR7.out W q hW hlt
     injection e1 with e1
     injection e1 with e1 e4
     rw [HTQ.out] at e2
     injection e2 with e2
     injection e2 with e2 e5
     injection e5 with e5 e6
     subst e1 e4 e2 e5
     intro j v hv
     have := e3 (j + 1) v hv
     rwa [Nat.add_comm j 1, ← Nat.add_assoc] at this
    rw [← hw6]
    clear cv5 fz5 hw6 HBX5 hown5 hg5 hb5 h_
    go_upto_region 12 with fail
    refine wp_region_tail (S := Keeps (fun _ => False) w6) 8 (by kernel_rfl) (Keeps.refl _ _).drew (fun h_ => ?_)
    refine tJ 0 46 ?_
    try simp only [pu]
    refine tT [1] (i := 1) (oi := ⟨some 47, _, _, _, _, _⟩) (v := ?_) rfl (Or.inl ⟨by rfl, ?_⟩) h_ ?_
    rotate_left
    ·intro w' hSw
     have cv := (HB6.out.keep hSw).blk.cell 4
     go_simp
     first | done | rfl
    try simp only [pu]
    refine tJ 2 48 ?_
    try simp only [pu]
    refine tJ 3 49 ?_
    try simp only [pu]
    refine tJ 4 50 ?_
    try simp only [pu]
    refine tJ 5 51 ?_
    try simp only [pu]
    refine tT [6, 7] (i := 6) (oi := ⟨some 52, _, _, _, _, _⟩) (v := _) rfl (yieldsIf_load_mid (by rfl) _ _ rfl _ _ rfl [u0, u1, u2, u3, u4, u5] _ (fun w' h => HVC.out _ (HB6.out.hold.trans h (fun _ _ h => h))) Tryz.underlying31 rfl (by kernel_rfl)) h_ ?_
    try simp only [pu]
    refine wpAnyT_step (i := 7) (o := ⟨some 53, _, _, _, _, _⟩) (by kernel_rfl) rfl (fun K hK => ?_)
    refine step_box_S rfl 28 31 (.tmp 52) rfl (.agg #[.int .i64 0, .bool false, .int .u64 0, .string .empty, .slice none 0 0, .slice none 0 0]) 6 Tryz.underlying28 (by kernel_rfl) (by decide) (by decide) [u0, u1, u2, u3, u4, u5] rfl rfl ?_
    refine hK.out _ _ (h_.alloc _) (fun h_ => ?_)
    clear hK K
    try simp only [pu]
    refine wpAnyT_tail (i := 8) (o := ⟨some 54, _, _, _, _, _⟩) (by kernel_rfl) (by kernel_rfl) rfl (fun K hK => ?_)
    refine step_append_own rfl (.tmp 47) (.tmp 53) 28 rfl 31 (.agg #[.int .i64 0, .bool false, .int .u64 0, .string .empty, .slice none 0 0, .slice none 0 0]) 6 88 Tryz.underlying28 (by kernel_rfl) rfl (by decide) A2 q d2 _ rfl (HB6.out.swap.keep h_).two.a.1 ⟨w6.drew.heap.size, 0, none⟩ 1 1 [u0, u1, u2, u3, u4, u5] rfl rfl (fun j u hu => by rw [add_at, Nat.zero_add]; exact ((Blk.new _ _ _).cell j).trans hu) H61.out (by simp only [maxLen]; omega) (by omega) ?_
    intro A8 c8 w8 hown8 hg8 hb8
    have HBX8 := H_ (((HB6.out.swap.keep h_).app hown8 hg8 hb8).swap)
    have cv8 := HBX8.out.blk.cell 4
    have fz8 := HBX8.out.blk.frozen 4
    refine hK.out _ _ ?_
    clear hK K
    try simp only [pu]
    refine wpAnyT_tail (i := 9) (o := ⟨some 55, _, _, _, _, _⟩) (by kernel_rfl) (by kernel_rfl) rfl (fun K hK => ?_)
    go_simp
    refine hK.out _ _ ?_
    clear hK K
    try simp only [pu]
    refine wpAnyT_tail (i := 10) (o := ⟨none, _, _, _, _, _⟩) (by kernel_rfl) (by kernel_rfl) rfl (fun K hK => ?_)
    go_simp
    refine hK.out _ _ ?_
    clear hK K
    try simp only [pu]
    refine wpAnyT_done (by kernel_rfl) ?_
    obtain ⟨w9, hw9⟩ : ∃ w9, w9 = w8.setCell ⟨p, 4, none⟩ (.slice A8 (q + 1) c8) := ⟨_, rfl⟩
    have HB9 : Hid (BoxTwo w2 w9 p 31 [.int .i64 6, .bool false, .int .u64 0, .string .empty, .slice A8 (q + 1) c8, .slice A5 (q + 1) c5] 9 1 A5 (q + 1) c5 (((T.take (q + 1)).map (·.1)).map .string) 31 6 A8 (q + 1) c8 ((T.take (q + 1)).map (·.2.1)).flatten) := H_ (by
     have h2 : ((T.take (q + 1)).map (·.2.1)).flatten = ((T.take q).map (·.2.1)).flatten ++ [u0, u1, u2, u3, u4, u5] := by
      rw [List.take_add_one, HTQ.out]
      simp
     rw [hw9, h2]
     exact HBX8.out.set 4 (.slice A8 (q + 1) c8))
    rw [← hw9]
    clear cv8 fz8 hw9 HBX8 hown8 hg8 hb8 h_
    go_wp2
    go_roundg (i - (q + 1))
    case measure => rw [HGK.out]; omega
    case rel => exact ⟨q + 1, A5, c5, A8, c8, by omega, by go_num, rfl, HB9⟩
   obtain rfl : q = i := by omega
   have HBE : Hid (BoxTwo w2 wr p 31 [.int .i64 6, .bool false, .int .u64 0, .string .empty, .slice A2 q d2, .slice A1 q d1] 9 1 A1 q d1 ((T.map (·.1)).map .string) 31 6 A2 q d2 (T.map (·.2.1)).flatten) := H_ (by
    have := HBX.out
    rwa [List.take_of_length_le (by have := HT.out.2.2.2; omega)] at this)
   have hbb : Blk wr b 31 [.int .i64 0, .bool false, .int .u64 0, .string .empty, .slice none 0 0, .slice none 0 0] := (((HO2.out.2.1.trans HK2.out (fun _ _ h => h)).trans HBE.out.hold (fun _ _ h => h))).blk HB1.out.2 (fun h => h)
   have HBB := H_ hbb
   have f0 := hbb.frozen 0
   have f1 := hbb.frozen 1
   have f2 := hbb.frozen 2
   have f3 := hbb.frozen 3
   have f4 := hbb.frozen 4
   have f5 := hbb.frozen 5
   have e0 := hbb.cell 0
   have e1 := hbb.cell 1
   have e2 := hbb.cell 2
   have e3 := hbb.cell 3
   have e4 := hbb.cell 4
   have e5 := hbb.cell 5
   have hpp := HBE.out.blk
   have c0 := hpp.cell 0
   have c1 := hpp.cell 1
   have c2' := hpp.cell 2
   have c3 := hpp.cell 3
   have c4 := hpp.cell 4
   have c5 := hpp.cell 5
   have HEND := H_ (made_end HL.out HT.out.1 HT.out.2.2.1 HT.out.2.2.2 HBW.out ((HB1.out.1.trans HO2.out.2.1 (fun _ _ h => h)).trans HK2.out (fun _ _ h => h)) HBW2.out hbb HBE.out)
   clear hbb hpp
   go_wp2
   refine bodyPost_ret (results_blk rfl _ _ rfl HEND.out.1 Tryz.underlying31 rfl (by kernel_rfl)) rfl ⟨_, rfl, HEND.out.2.1, HEND.out.2.2⟩
end Go.Proofs.YtdmcioghdindfaaGreatDoor
