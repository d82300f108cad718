/- Texts. -/
import Derived.Test.YtplleficmkfniaaGreatDoorS15
import Derived.Maps.Views
import Derived.Maps.Own
import Derived.Maps.OwnSet
import Derived.Maps.Keyed
import Derived.StringKeys
set_option linter.unusedSimpArgs false
set_option maxRecDepth 100000
set_option maxHeartbeats 4000000
namespace Go.Json
section
variable {γ : Type}
theorem zipk_fst : ∀ (ks : List ByteArray) (js : List JV), js.length = ks.length → (ks.zip js).map (·.1) = ks
 | [], _, _ => by simp
 | k :: ks, j :: js, h => by
  simp only [List.zip_cons_cons, List.map_cons]
  rw [zipk_fst ks js (by simpa using h)]
 | _ :: _, [], h => by simp at h
end
end Go.Json
namespace Go.Proofs.YtplleficmkfniaaGreatDoor
open Go.Json
theorem right_noughts : rightS .empty = true := right_empty rfl
theorem mkObj_ok {ks : List ByteArray} {js : List JV} (h2 : js.length = ks.length) (hnd : ks.Nodup) (hr : ∀ k ∈ ks, rightS k = true) (hj : ∀ j ∈ js, JOk j) : JOk (mkObj ks js) := by
 have hri : Rising (sortM (ks.zip js)) := sortM_rising _ (by rw [zipk_fst ks js h2]; exact hnd) fun p hp => hr _ (List.of_mem_zip hp).1
 have hmem : ∀ p ∈ sortM (ks.zip js), p ∈ ks.zip js := fun p h => (sortM_perm _).mem_iff.1 h
 refine .mk _ ?_ (fun _ => ?_) ?_ ?_ right_noughts ?_
 ·show ((sortM (ks.zip js)).map (·.1)).length ≤ ((sortM (ks.zip js)).map (·.2)).length
  rw [List.length_map, List.length_map]
  exact Nat.le_refl _
 ·show ((sortM (ks.zip js)).map (·.1)).length = ((sortM (ks.zip js)).map (·.2)).length
  rw [List.length_map, List.length_map]
 ·exact List.pairwise_map.2 hri
 ·intro k hk
  obtain ⟨p, hp, rfl⟩ := List.mem_map.1 (show k ∈ (sortM (ks.zip js)).map (·.1) from hk)
  exact hr _ (List.of_mem_zip (hmem p hp)).1
 ·intro x hx
  obtain ⟨p, hp, rfl⟩ := List.mem_map.1 (show x ∈ (sortM (ks.zip js)).map (·.2) from hx)
  exact hj _ (List.of_mem_zip (hmem p hp)).2
theorem leaf_ok {j : JV} (h : j.items = []) (hk : j.keys = []) (hs : j.sort ≠ 6) (ht : rightS j.last.text = true) : JOk j :=
 .mk j (by rw [hk]; exact Nat.zero_le _) (fun e => absurd e hs) (by rw [hk]; exact .nil) (fun k h => by rw [hk] at h; cases h) ht (fun x hx => by rw [‹j.items = []›] at hx; cases hx)
theorem list_ok {l : List JV} (h : ∀ j ∈ l, JOk j) : JOk (.list l) :=
 by
 exact .mk _ (Nat.zero_le _) (fun e => absurd (show (5 : Int) = 6 from e) (by decide)) .nil (fun k h => by cases h) right_noughts h
theorem mkV_ok {s : StepV} {L : List JV} (hu : usedF s = true) (ht : rightS s.text = true) (hk : ∀ k ∈ s.keys, rightS k = true) (hn : s.keys.Nodup) (hl : s.sort = 6 → L.length = s.keys.length) (hL : ∀ j ∈ L, JOk j) : JOk (mkV s L) := by
 obtain ⟨_, _, _, h1, h6, _⟩ := used_parts hu
 have hs : s.sort = 1 ∨ s.sort = 2 ∨ s.sort = 3 ∨ s.sort = 4 ∨ s.sort = 5 ∨ s.sort = 6 := by omega
 unfold mkV
 by_cases a1 : s.sort = 1
 ·rw [if_pos a1]; exact leaf_ok rfl rfl (by decide) right_noughts
 rw [if_neg a1]
 by_cases a2 : s.sort = 2
 ·rw [if_pos a2]; exact leaf_ok rfl rfl (by simp [JV.sort]) right_noughts
 rw [if_neg a2]
 by_cases a3 : s.sort = 3
 ·rw [if_pos a3]; exact leaf_ok rfl rfl (by simp [JV.sort]) right_noughts
 rw [if_neg a3]
 by_cases a4 : s.sort = 4
 ·rw [if_pos a4]; exact leaf_ok rfl rfl (by simp [JV.sort]) ht
 rw [if_neg a4]
 by_cases a5 : s.sort = 5
 ·rw [if_pos a5]; exact list_ok hL
 rw [if_neg a5]
 exact mkObj_ok (hl (by omega)) hn hk hL
def RowOk (P : List JV) : Prop := ∀ j ∈ P, JOk j ∧ j.within
theorem RowOk.nil : RowOk [] := fun j h => by cases h
theorem doF_ok {P P' : List JV} {s : StepV} (h : doF P s = .inr P') (hP : RowOk P) : RowOk P' := by
 unfold doF at h
 split at h
 ·cases h
 rename_i hu
 have hu : usedF s = true := by simpa using hu
 split at h
 ·cases h
 split at h
 ·cases h
 rename_i hr
 split at h
 ·cases h
 rename_i hn
 split at h
 ·cases h
 rename_i hf
 split at h
 ·cases h
 rename_i hw
 injection h with h
 subst h
 obtain ⟨_, u2, _, _, _, u0⟩ := used_parts hu
 have hr1 : rightS s.text = true := by
  rcases hq : rightS s.text with _ | _
  ·exact absurd (.inl hq) hr
  ·rfl
 have hr2 : s.keys.all rightS = true := by
  rcases hq : s.keys.all rightS with _ | _
  ·exact absurd (.inr hq) hr
  ·rfl
 intro j hj
 rcases List.mem_append.1 hj with hj | hj
 ·exact hP j (List.mem_of_mem_take hj)
 ·rw [List.mem_singleton.1 hj]
  refine ⟨mkV_ok hu hr1 (fun k hk => List.all_eq_true.1 hr2 k hk) (Classical.not_not.1 hn) (fun e => ?_) fun x hx => (hP x (List.mem_of_mem_drop hx)).1, Classical.not_not.1 hw⟩
  rw [List.length_drop, u2 (by omega)]
  have : ¬ P.length < (0 : Int).toNat + s.keys.length := by rw [← u2 (by omega)]; exact hf
  simp at this ⊢
  omega
theorem rowF_ok : ∀ (l : List StepV) (i : Nat) (P P' : List JV), rowF i P l = .inr P' → RowOk P → RowOk P'
 | [], _, P, P', h, hP => by
  injection h with h
  subst h
  exact hP
 | s :: l, i, P, P', h, hP => by
  unfold rowF at h
  cases hd : doF P s with
  | inl e => rw [hd] at h; cases h
  | inr Q =>
   rw [hd] at h
   exact rowF_ok l (i + 1) Q P' h (doF_ok hd hP)
theorem buildF_ok {l : List StepV} {j : JV} (h : buildF l = .inr j) : JOk j ∧ j.within := by
 unfold buildF at h
 split at h
 ·cases h
 split at h
 ·cases h
 ·rename_i P hP
  split at h
  ·injection h with h
   subst h
   exact rowF_ok l 0 [] _ hP RowOk.nil _ (List.mem_singleton.2 rfl)
  ·cases h
end Go.Proofs.YtplleficmkfniaaGreatDoor
namespace Go.Proofs.YtplleficmkfniaaGreatDoor
open Go Go.RowKit Go.Aff Go.Json Go.Utf
theorem item_range {w : World} {g o n i : Nat} {css : List (List Value)} {cs : List Value} (hc : ∀ j, j < n * 6 → w.cell? ⟨g, o + j, none⟩ = css.flatten[j]?) (hi : i < n) (h6 : ∀ c ∈ css, c.length = 6) (h : css[i]? = some cs) : w.rangeAt g (o + i * 6) cs := fun j v hv => by
 have hj : j < 6 := by
  have := (List.getElem?_eq_some_iff.1 hv).1
  rw [h6 cs (List.mem_of_getElem? h)] at this
  exact this
 rw [Nat.add_assoc, hc _ (by omega)]
 exact flat_get h6 h hv
theorem MineS.inB {s : Nat} {w wr : World} {e : TypeId} {A : Option Addr} {m c : Nat} {xs : List Value} (h : MineS s w wr e A m c xs) : InB (fun i => w.heap.size ≤ i) A m := fun _ a e => h.2.2 a.block (by subst e; rfl)
def sixSet (w : World) (b : Nat) (v0 v1 v2 v3 v4 v5 : Value) : World :=
 (((((w.setCell ⟨b, 0, none⟩ v0).setCell ⟨b, 1, none⟩ v1).setCell ⟨b, 2, none⟩ v2).setCell ⟨b, 3, none⟩ v3).setCell ⟨b, 4, none⟩ v4).setCell ⟨b, 5, none⟩ v5
end Go.Proofs.YtplleficmkfniaaGreatDoor
namespace Go.Proofs.YtplleficmkfniaaGreatDoor
open Go Go.RowKit Go.Aff Go.Json
def kS (s : ByteArray) : Lit := .string s.data.toList
theorem kS_inj {a b : ByteArray} (h : kS a = kS b) : a = b := by
 injection h with h
 cases a; cases b
 congr
 exact Array.toList_inj.1 h
theorem kS_of (s : ByteArray) (hs : s.size ≤ maxLen) : keyOf Tryz.prog 9 (.string s) = some (kS s) := WideMaps.keyOf_string_mk Tryz.underlying9 hs
theorem strKeyed : Maps.Keyed Tryz.prog 9 := Maps.string_keyed Tryz.underlying9
theorem kS_key (s : ByteArray) (hs : s.size ≤ maxLen) : WideAt.IsKeyLit (kS s) := strKeyed.key (kS_of s hs)
theorem zeroInt (w : World) : (zeroValue 3).run Tryz.prog w = .ok (.int .i64 0) w := by kernel_rfl
theorem plainInt (x : Int) (h : IntKind.i64.min ≤ x ∧ x ≤ IntKind.i64.max) : plainElem (H := Unit) Tryz.prog 3 (.int .i64 x) = some (.lit (.int .i64 x), []) := plainElem_int Tryz.underlying3 (by simp [Lit.wf]; exact h)
def KeyMap (D : DataW Unit) (ks : List ByteArray) (i : Nat) : Prop := Maps.IsMap D ∧ (∀ s, Maps.has D (kS s) = true ↔ s ∈ ks.take i) ∧ ∀ (j : Nat) (s : ByteArray), j < i → ks[j]? = some s → D.atKey (kS s) (.lit (.int .i64 0)) = .lit (.int .i64 j)
theorem KeyMap.zero (ks : List ByteArray) : KeyMap (.map []) ks 0 := ⟨⟨[], rfl⟩, fun s => by simp [Maps.has], fun j s h => by omega⟩
theorem KeyMap.step {D : DataW Unit} {ks : List ByteArray} {i : Nat} {s : ByteArray} (h : KeyMap D ks i) (hs : ks[i]? = some s) (hn : s ∉ ks.take i) (hsz : s.size ≤ maxLen) : KeyMap (D.put (kS s) (.lit (.int .i64 i))) ks (i + 1) := by
 obtain ⟨h1, h2, h3⟩ := h
 have ht : ks.take (i + 1) = ks.take i ++ [s] := by rw [List.take_add_one, hs]; rfl
 refine ⟨?_, fun t => ?_, fun j t hj ht' => ?_⟩
 ·obtain ⟨es, rfl⟩ := h1
  exact ⟨_, rfl⟩
 ·by_cases e : t = s
  ·subst e
   rw [Maps.has_put_same h1 (kS_key t hsz), ht]
   simp
  ·rw [Maps.has_put_other (fun e' => e (kS_inj e')), h2, ht]
   simp [e]
 ·rcases Nat.lt_or_ge j i with hlt | hge
  ·have hne : t ≠ s := by
    rintro rfl
    apply hn
    rw [List.mem_iff_getElem?]
    exact ⟨j, by rw [List.getElem?_take_of_lt hlt]; exact ht'⟩
   rw [Maps.atKey_put_other (fun e' => hne (kS_inj e'))]
   exact h3 j t hlt ht'
  ·obtain rfl : j = i := by omega
   rw [hs] at ht'
   injection ht' with ht'
   subst ht'
   exact Maps.atKey_put_same h1 (kS_key s hsz) _ _
theorem Keeps.mapS {H : Type} {P : Program} {k : TypeId} {R : Value → Option (DataW H × List MemPlace)} {F : Nat → Prop} {w w' : World} {b n : Nat} {D : DataW H} (hk : Keeps F w w') (h : w.ownsMap P k R b n D) (hF : ¬ F b) : w'.ownsMap P k R b n D := by
 obtain ⟨es, clock, hb, h2⟩ := h
 exact ⟨es, clock, (hk.block b (Array.getElem?_eq_some_iff.1 hb).1 hF).trans hb, h2⟩
end Go.Proofs.YtplleficmkfniaaGreatDoor
