/-
  WALKS: Resume; what is resumed goes on as it did.
-/
import Derived.Test.YtgblndddcbfdiaaDoorResW
import Derived.Deep.RegionHeld3
set_option linter.unusedSimpArgs false
namespace Go.Sha
open Go Go.Aff
theorem stN_split (S : Nat → Int) (W : List Int) (q : Nat) : ∀ k, stN S W (q + k) = stN (stN S W q) (W.drop (64 * q)) k
  | 0 => rfl
  | k + 1 => by
    show round (stN S W (q + k)) (blockAt W (q + k)) = round (stN (stN S W q) (W.drop (64 * q)) k) (blockAt (W.drop (64 * q)) k)
    rw [stN_split S W q k]
    refine round_congr _ _ _ (fun i hi => ?_)
    unfold blockAt
    rw [List.getD_eq_getElem?_getD, List.getD_eq_getElem?_getD, List.getElem?_drop]
    congr 2
    omega
/-- Taken up from how it stands, a hash goes on as it did. -/
theorem sumF_resume (S : Nat → Int) (nb : Nat) (X Z : List Int) : sumF (stN S X (X.length / 64)) (nb + X.length / 64) (X.drop (64 * (X.length / 64)) ++ Z) = sumF S nb (X ++ Z) := by
  unfold sumF
  have e1 : 64 * (nb + X.length / 64) + (X.drop (64 * (X.length / 64)) ++ Z).length = 64 * nb + (X ++ Z).length := by
    rw [List.length_append, List.length_append, List.length_drop]
    omega
  rw [e1]
  obtain ⟨P, hP⟩ : ∃ P, P = padF (64 * nb + (X ++ Z).length) := ⟨_, rfl⟩
  obtain ⟨L, hL⟩ : ∃ L, L = padLen (64 * nb + (X ++ Z).length) := ⟨_, rfl⟩
  rw [← hP, ← hL]
  have e2 : (X ++ Z ++ P).drop (64 * (X.length / 64)) = X.drop (64 * (X.length / 64)) ++ Z ++ P := by
    rw [List.append_assoc, List.drop_append_of_le_length (by omega), List.append_assoc]
  have e3 : stN S X (X.length / 64) = stN S (X ++ Z ++ P) (X.length / 64) := stN_congr S _ _ _ (fun i hi => by
    rw [List.append_assoc, List.getElem?_append_left (by omega)])
  rw [e3, ← e2, ← stN_split]
  congr 2
  rw [List.length_append, List.length_append, List.length_drop]
  omega
end Go.Sha
namespace Go.Proofs.YtgblndddcbfdiaaDoor
open Go Go.RowKit Go.Sha Go.Aff

set_option maxHeartbeats 4000000 in
set_option maxRecDepth 100000 in
theorem Resume_ok (w : World) (st : Nat → Int) (m n c : Nat) (A : Option Addr) (X : List Int) (hX : X.length = n) (hn : n < 64) (hm : m < 36028797018963968) (hr : Rd w A n (vb X)) (hb : IsBytes X) :
    Calls Tryd.prog 30 #[.agg (hcells st m (.slice A n c)).toArray] w fun e w' => ∃ q u, e = .returned (.tuple #[.pointer (some ⟨q, 0, none⟩), .nilIface]) ∧ HashAt w' q u st m X ∧ Keeps (fun _ => False) w w' ∧ ∀ i, Foot q u i → w.heap.size ≤ i := by
  have hbk := Blk.new w 49 (hcells st m (.slice A n c))
  obtain ⟨cs, hcs⟩ : ∃ cs, cs = (hcells st m (.slice A n c)).toArray := ⟨_, rfl⟩
  rw [← hcs] at hbk ⊢
  have k8 : cs[8]? = some (.int .u64 m) := by rw [hcs]; rfl
  have k9 : cs[9]? = some (.slice A n c) := by rw [hcs]; rfl
  have HS : Hid (∀ W, Keeps (fun _ => False) (w.alloc (.cells cs 49)) W → W.cell? ⟨w.heap.size, 0, none⟩ = some (.int .u32 (st 0)) ∧ W.cell? ⟨w.heap.size, 1, none⟩ = some (.int .u32 (st 1)) ∧ W.cell? ⟨w.heap.size, 2, none⟩ = some (.int .u32 (st 2)) ∧ W.cell? ⟨w.heap.size, 3, none⟩ = some (.int .u32 (st 3)) ∧ W.cell? ⟨w.heap.size, 4, none⟩ = some (.int .u32 (st 4)) ∧ W.cell? ⟨w.heap.size, 5, none⟩ = some (.int .u32 (st 5)) ∧ W.cell? ⟨w.heap.size, 6, none⟩ = some (.int .u32 (st 6)) ∧ W.cell? ⟨w.heap.size, 7, none⟩ = some (.int .u32 (st 7)) ∧ W.cell? ⟨w.heap.size, 8, none⟩ = some (.int .u64 m) ∧ W.cell? ⟨w.heap.size, 9, none⟩ = some (.slice A n c)) := by
    intro W hk
    have hbW := hk.blk hbk (fun h => h)
    refine ⟨?_, ?_, ?_, ?_, ?_, ?_, ?_, ?_, ?_, ?_⟩ <;> (rw [hbW.cell]; rfl)
  have HC : Hid (∀ W, Keeps (fun _ => False) (w.alloc (.cells cs 49)) W → Calls Tryd.prog 27 #[.slice A n c] W fun e w' => ∃ A' c', e = .returned (.slice A' n c') ∧ w'.ownsRow 0 5 1 (.slice A' n c') n (vb X) ∧ Keeps (fun _ => False) W w' ∧ ∀ g, (Value.slice A' n c').ownBlock = some g → W.heap.size ≤ g) := by
    intro W hk
    have := clone_any W A c X (by rw [hX]; exact hr.keep (((Keeps.refl (fun _ => False) w).alloc _).trans hk (fun _ _ h => h)) (no_out _ _)) (by omega)
    rw [hX] at this
    exact this.mono fun e w' ⟨A', c', he, ho, hk, hn⟩ => ⟨A', c', by rw [he, hX], by rw [hX] at ho; exact ho, hk, by rw [hX] at hn; exact hn⟩
  have HX := Lib.hid hX
  have HBB := Lib.hid hb
  have hmi : (m : Int) < 36028797018963968 := by omega
  obtain ⟨mi, hmi'⟩ : ∃ mi : Int, mi = m := ⟨_, rfl⟩
  have HMI := Lib.hid hmi'
  rw [← hmi'] at hmi k8 HS
  have hm0 : 0 ≤ mi := by omega
  clear hcs hbk hr hb hX hm hmi'
  go_enter Tryd.func30, Tryd.ntmps30
  go_wp2
  go_region_held3 (fun w' => w'.cell? ⟨w.heap.size, 0, none⟩ = some (.int .u32 (st 0)) ∧ w'.cell? ⟨w.heap.size, 1, none⟩ = some (.int .u32 (st 1)) ∧ w'.cell? ⟨w.heap.size, 2, none⟩ = some (.int .u32 (st 2)) ∧ w'.cell? ⟨w.heap.size, 3, none⟩ = some (.int .u32 (st 3)) ∧ w'.cell? ⟨w.heap.size, 4, none⟩ = some (.int .u32 (st 4)) ∧ w'.cell? ⟨w.heap.size, 5, none⟩ = some (.int .u32 (st 5)) ∧ w'.cell? ⟨w.heap.size, 6, none⟩ = some (.int .u32 (st 6)) ∧ w'.cell? ⟨w.heap.size, 7, none⟩ = some (.int .u32 (st 7)) ∧ w'.cell? ⟨w.heap.size, 8, none⟩ = some (.int .u64 mi) ∧ w'.cell? ⟨w.heap.size, 9, none⟩ = some (.slice A n c))
    (first | exact HS.out _ ((Keeps.refl _ _).drew) | exact HS.out _ (by assumption) | exact HS.out _ (Keeps.alloc (by assumption) _))
    (first | (go_at_call 27; refine (HC.out _ ((Keeps.refl _ _).drew)).mono ?_; rintro e w' ⟨A', c', rfl, hown, hk, hnew⟩; have hk2 := ((Keeps.refl (fun _ => False) (w.alloc (.cells cs 49))).drew).trans hk (fun _ _ h => h)))
  go_wp2
  go_ret2
  have hx0 : X.length / 64 = 0 := by have := HX.out; omega
  have hk3 : Keeps (fun _ => False) w w' := ((Keeps.refl _ w).alloc _).trans hk2 (fun _ _ h => h)
  refine ⟨w'.heap.size, .slice A' n c', rfl, ⟨?_, ?_, HBB.out⟩, hk3.alloc _, ?_⟩
  · rw [hx0, Nat.add_zero, ← HMI.out]
    exact Blk.new w' _ (hcells st mi _)
  · have e1 : X.length % 64 = n := by have := HX.out; omega
    rw [e1, hx0]
    exact Keeps.own ((Keeps.refl (fun _ => False) _).alloc _) hown (fun _ _ h => h)
  · intro i hi
    rcases hi with rfl | hi
    · exact hk3.size
    · have := hnew i hi
      simp at this
      omega
end Go.Proofs.YtgblndddcbfdiaaDoor
