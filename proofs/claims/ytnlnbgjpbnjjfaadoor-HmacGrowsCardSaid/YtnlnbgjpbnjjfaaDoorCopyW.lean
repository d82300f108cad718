/-
  A hash in memory; WALKS: Copy.
-/
import Derived.Test.YtnlnbgjpbnjjfaaDoorPadW
import Derived.Deep.RegionHeld3
namespace Go.Proofs.YtnlnbgjpbnjjfaaDoor
open Go Go.RowKit Go.Sha Go.Aff

/-- At block p lies a hash that began at state S behind nb blocks, to which X was written; v: its rest. -/
def HashAt (w : World) (p : Nat) (v : Value) (S : Nat → Int) (nb : Nat) (X : List Int) : Prop :=
  Blk w p 99 (hcells (stN S X (X.length / 64)) ((nb + X.length / 64 : Nat) : Int) v) ∧ w.ownsRow 0 5 1 v (X.length % 64) (vb (X.drop (64 * (X.length / 64)))) ∧ IsBytes X
/-- Its blocks. -/
def Foot (p : Nat) (v : Value) (i : Nat) : Prop := i = p ∨ v.ownBlock = some i

theorem HashAt.keep {F : Nat → Prop} {w w' : World} {p : Nat} {v : Value} {S : Nat → Int} {nb : Nat} {X : List Int} (h : HashAt w p v S nb X) (hk : Keeps F w w') (hF : ∀ i, Foot p v i → ¬ F i) : HashAt w' p v S nb X :=
  ⟨hk.blk h.1 (hF p (.inl rfl)), hk.own h.2.1 (fun g hg => hF g (.inr hg)), h.2.2⟩
theorem HashAt.lt {w : World} {p : Nat} {v : Value} {S : Nat → Int} {nb : Nat} {X : List Int} (h : HashAt w p v S nb X) : ∀ i, Foot p v i → i < w.heap.size := by
  intro i hi
  rcases hi with rfl | hi
  · exact h.1.lt
  · exact (h.2.1.lt i hi).2
theorem HashAt.apart {w : World} {p : Nat} {v : Value} {S : Nat → Int} {nb : Nat} {X : List Int} (h : HashAt w p v S nb X) : v.ownBlock ≠ some p := by
  intro he
  rcases h.2.1.2 with ⟨rfl, _⟩ | ⟨g, cap, cur, rfl, _, hh, _⟩
  · cases he
  · have e : g = p := by have e' : some g = some p := he; injection e'
    subst e
    have hb := h.1
    unfold Blk at hb
    rw [hb] at hh
    injection hh with hh
    injection hh with _ ht
    exact absurd ht (by decide)
theorem bytes_drop {X : List Int} (h : IsBytes X) (k : Nat) : IsBytes (X.drop k) := fun x hx => h x (List.mem_of_mem_drop hx)
theorem rest_length (X : List Int) : (X.drop (64 * (X.length / 64))).length = X.length % 64 := by rw [List.length_drop]; omega

/-- What Copy leaves. -/
def Copied (w : World) (S : Nat → Int) (nb : Nat) (X : List Int) (e : Ending) (w' : World) : Prop :=
  ∃ q u, e = .returned (.pointer (some ⟨q, 0, none⟩)) ∧ HashAt w' q u S nb X ∧ Keeps (fun _ => False) w w' ∧ ∀ i, Foot q u i → w.heap.size ≤ i

set_option maxHeartbeats 1000000 in
set_option maxRecDepth 100000 in
theorem copy_any (w : World) (p : Nat) (v : Value) (S : Nat → Int) (nb : Nat) (X : List Int) (h : HashAt w p v S nb X) :
    Calls Tryd.prog 52 #[.pointer (some ⟨p, 0, none⟩)] w (Copied w S nb X) := by
  obtain ⟨hb, ho, hx⟩ := h
  obtain ⟨A, c, rfl⟩ := own_shape ho
  obtain ⟨st, hst⟩ : ∃ st, st = stN S X (X.length / 64) := ⟨_, rfl⟩
  obtain ⟨m, hm⟩ : ∃ m : Nat, m = nb + X.length / 64 := ⟨_, rfl⟩
  rw [← hst, ← hm] at hb
  have hlen := rest_length X
  have hr : Rd w A (X.drop (64 * (X.length / 64))).length (vb (X.drop (64 * (X.length / 64)))) := by rw [hlen]; exact Rd.of_own ho
  have hl64 : X.length % 64 ≤ 140737488355328 := by omega
  have HS : Hid (∀ W, Keeps (fun _ => False) w W → W.cell? ⟨p, 0, none⟩ = some (.int .u32 (st 0)) ∧ W.cell? ⟨p, 1, none⟩ = some (.int .u32 (st 1)) ∧ W.cell? ⟨p, 2, none⟩ = some (.int .u32 (st 2)) ∧ W.cell? ⟨p, 3, none⟩ = some (.int .u32 (st 3)) ∧ W.cell? ⟨p, 4, none⟩ = some (.int .u32 (st 4)) ∧ W.cell? ⟨p, 5, none⟩ = some (.int .u32 (st 5)) ∧ W.cell? ⟨p, 6, none⟩ = some (.int .u32 (st 6)) ∧ W.cell? ⟨p, 7, none⟩ = some (.int .u32 (st 7)) ∧ W.cell? ⟨p, 8, none⟩ = some (.int .u64 m) ∧ W.cell? ⟨p, 9, none⟩ = some (.slice A (X.length % 64) c)) := by
    intro W hk
    have hbW := hk.blk hb (fun h => h)
    refine ⟨?_, ?_, ?_, ?_, ?_, ?_, ?_, ?_, ?_, ?_⟩ <;> (rw [hbW.cell]; rfl)
  have HC : Hid (∀ W, Keeps (fun _ => False) w W → Calls Tryd.prog 44 #[.slice A (X.length % 64) c] W fun e w' => ∃ A' c', e = .returned (.slice A' (X.length % 64) c') ∧ w'.ownsRow 0 5 1 (.slice A' (X.length % 64) c') (X.length % 64) (vb (X.drop (64 * (X.length / 64)))) ∧ Keeps (fun _ => False) W w' ∧ ∀ g, (Value.slice A' (X.length % 64) c').ownBlock = some g → W.heap.size ≤ g) := by
    intro W hk
    have := clone_any W A c (X.drop (64 * (X.length / 64))) (hr.keep hk (fun _ _ _ h => h)) (by omega)
    rw [hlen] at this
    exact this.mono fun e w' ⟨A', c', he, ho, hk, hn⟩ => ⟨A', c', by rw [he, hlen], by rw [hlen] at ho; exact ho, hk, by rw [hlen] at hn; exact hn⟩
  have HX := Lib.hid hx
  have HST := Lib.hid hst
  have HM := Lib.hid hm
  clear hb ho hst hm hlen hr hx
  obtain ⟨r, hr⟩ : ∃ r, r = X.length % 64 := ⟨_, rfl⟩
  rw [← hr] at HS HC
  have HR := Lib.hid hr
  clear hr
  go_enter Tryd.func52, Tryd.ntmps52
  go_wp2
  go_region_held3 (fun w' => w'.cell? ⟨p, 0, none⟩ = some (.int .u32 (st 0)) ∧ w'.cell? ⟨p, 1, none⟩ = some (.int .u32 (st 1)) ∧ w'.cell? ⟨p, 2, none⟩ = some (.int .u32 (st 2)) ∧ w'.cell? ⟨p, 3, none⟩ = some (.int .u32 (st 3)) ∧ w'.cell? ⟨p, 4, none⟩ = some (.int .u32 (st 4)) ∧ w'.cell? ⟨p, 5, none⟩ = some (.int .u32 (st 5)) ∧ w'.cell? ⟨p, 6, none⟩ = some (.int .u32 (st 6)) ∧ w'.cell? ⟨p, 7, none⟩ = some (.int .u32 (st 7)) ∧ w'.cell? ⟨p, 8, none⟩ = some (.int .u64 m) ∧ w'.cell? ⟨p, 9, none⟩ = some (.slice A r c))
    (first | exact HS.out _ ((Keeps.refl _ _).drew) | exact HS.out _ (by assumption) | exact HS.out _ (Keeps.alloc (by assumption) _))
    (first | (go_at_call 44; refine (HC.out _ ((Keeps.refl _ _).drew)).mono ?_; rintro e w' ⟨A', c', rfl, hown, hk, hnew⟩; have hk2 := ((Keeps.refl (fun _ => False) w).drew).trans hk (fun _ _ h => h)))
  go_wp2
  go_ret
  refine ⟨w'.heap.size, .slice A' r c', rfl, ⟨?_, ?_, HX.out⟩, hk2.alloc _, ?_⟩
  · rw [← HST.out, ← HM.out]
    exact Blk.new w' _ (hcells st m _)
  · rw [← HR.out]
    exact Keeps.own ((Keeps.refl (fun _ => False) _).alloc _) hown (fun _ _ h => h)
  · intro i hi
    rcases hi with rfl | hi
    · exact hk2.size
    · exact hnew i hi
end Go.Proofs.YtnlnbgjpbnjjfaaDoor
