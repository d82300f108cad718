/-
  Comparing rows of bytes (bytealg's entry), in plain Lean; WALKS: bytes.Compare, Compare.
-/
import Derived.Test.YtgblndddcbfdiaaDoorShaBW
import Derived.Lib.BytesEntry
namespace Go.Sha
open Go Go.Aff
/-- The order of rows of bytes. -/
def cmpI (xs ys : List Int) : Int := Lib.compareBytes (Lib.bytesOf xs) (Lib.bytesOf ys)
end Go.Sha
namespace Go.Aff
open Go Go.RowKit Go.Sha
theorem run_bytesOf_rd {P : Program} (w : World) (A : Option Addr) (c : Nat) (xs : List Int) (hr : Rd w A xs.length (vb xs)) : (Extern.Bytes.bytesOf (.slice A xs.length c)).run P w = .ok ⟨(Lib.bytesOf xs).toArray⟩ w := by
  rcases Nat.eq_zero_or_pos xs.length with h0 | h0
  · have hn : xs = [] := List.eq_nil_of_length_eq_zero h0
    subst hn
    cases A with
    | none => rfl
    | some a => rfl
  · obtain ⟨g, o, rfl, hc⟩ := hr.2 h0
    have hl := Lib.run_loadBytesX (P := P) w xs ⟨g, o, none⟩ .empty (fun j x hj => by
      have hjl : j < xs.length := (List.getElem?_eq_some_iff.1 hj).1
      rw [add_at, hc j hjl]
      simp [vb, hj])
    show (Extern.Bytes.loadBytes ⟨g, o, none⟩ xs.length .empty).run P w = _
    rw [hl]
    congr 1
    apply ByteArray.ext
    show (#[] : Array UInt8) ++ (Lib.bytesOf xs).toArray = (Lib.bytesOf xs).toArray
    simp
theorem run_compare_rd {P : Program} (w : World) (A B : Option Addr) (c d : Nat) (xs ys : List Int) (hx : Rd w A xs.length (vb xs)) (hy : Rd w B ys.length (vb ys)) :
    (Extern.BytealgCompare.compare #[.slice A xs.length c, .slice B ys.length d]).run P w = .ok (.int .i64 (cmpI xs ys)) w := by
  change Sem.run P (do pure (goInt (Extern.BytealgCompare.cmp (← Extern.Bytes.bytesOf (.slice A xs.length c)) (← Extern.Bytes.bytesOf (.slice B ys.length d))))) w = _
  simp only [Sem.run_bind, Sem.run_pure, run_bytesOf_rd w A c xs hx, run_bytesOf_rd w B d ys hy, Result.andThen]
  rw [Lib.cmp_eq]
  rfl
end Go.Aff
namespace Go.Proofs.YtgblndddcbfdiaaDoor
open Go Go.RowKit Go.Sha Go.Aff

set_option maxHeartbeats 1000000 in
set_option maxRecDepth 100000 in
theorem bytesCompare_any (w : World) (A B : Option Addr) (c d : Nat) (xs ys : List Int) (hx : Rd w A xs.length (vb xs)) (hy : Rd w B ys.length (vb ys)) :
    Calls Tryd.prog 14 #[.slice A xs.length c, .slice B ys.length d] w fun e w' => e = .returned (.int .i64 (cmpI xs ys)) ∧ w' = w := by
  have hrun := run_compare_rd (P := Tryd.prog) w A B c d xs ys hx hy
  have HRUN := Lib.hid hrun
  clear hrun hx hy
  go_enter Tryd.func14, Tryd.ntmps14
  go_wp2
  rw [run_callFunc_extern Tryd.func42 (by kernel_rfl) (by kernel_rfl) (by kernel_rfl) (e := Extern.BytealgCompare.compare) (by kernel_rfl), HRUN.out]
  simp only [Result.andThen]
  rw [Oper.upon_value]
  go_wp2
  go_ret
  exact ⟨rfl, rfl⟩

set_option maxHeartbeats 1000000 in
set_option maxRecDepth 100000 in
theorem compare_any (w : World) (xs ys : List Int) (hx : xs.length = 32) (hy : ys.length = 32) :
    Calls Tryd.prog 13 #[.agg (vb xs).toArray, .agg (vb ys).toArray] w fun e w' => e = .returned (.int .i64 (cmpI xs ys)) ∧ Keeps (fun _ => False) w w' := by
  have hb : ∀ k, Calls Tryd.prog 14 #[.slice (some ⟨w.heap.size, 0, none⟩) 32 32, .slice (some ⟨w.heap.size + 1, 0, none⟩) 32 32] (((w.alloc (.cells (vb xs).toArray 23)).alloc (.cells (vb ys).toArray 23)).drewN k) fun e w' => e = .returned (.int .i64 (cmpI xs ys)) ∧ Keeps (fun _ => False) w w' := by
    intro k
    have h1 : Rd (((w.alloc (.cells (vb xs).toArray 23)).alloc (.cells (vb ys).toArray 23)).drewN k) (some ⟨w.heap.size, 0, none⟩) xs.length (vb xs) := Rd.of_blk (((Blk.new w 23 (vb xs)).alloc _).drewN k) (by simp [vb])
    have h2 : Rd (((w.alloc (.cells (vb xs).toArray 23)).alloc (.cells (vb ys).toArray 23)).drewN k) (some ⟨w.heap.size + 1, 0, none⟩) ys.length (vb ys) := by
      have := Blk.new (w.alloc (.cells (vb xs).toArray 23)) 23 (vb ys)
      rw [World.size_alloc] at this
      exact Rd.of_blk (this.drewN k) (by simp [vb])
    have := bytesCompare_any _ _ _ 32 32 xs ys h1 h2
    rw [hx, hy] at this
    exact this.mono fun e w' ⟨he, hw⟩ => ⟨he, by rw [hw]; exact (((Keeps.refl _ w).alloc _).alloc _).drewN k⟩
  obtain ⟨xa, hxa⟩ : ∃ xa, xa = (vb xs).toArray := ⟨_, rfl⟩
  obtain ⟨ya, hya⟩ : ∃ ya, ya = (vb ys).toArray := ⟨_, rfl⟩
  rw [← hxa, ← hya] at hb ⊢
  have HB := Lib.hid hb
  clear hb hxa hya
  go_enter Tryd.func13, Tryd.ntmps13
  go_wp2
  refine wp_region_order [] [0, 1] 2 [3] (by kernel_rfl) (by kernel_rfl) (by intro _ _ d _ _ h; cases d <;> exact h) ?_
  simp only [pickOps, List.filterMap_cons, List.filterMap_nil, List.getElem?_cons_zero, List.getElem?_cons_succ]
  show wpQuiet _ _ _ _ [] _
  refine wpQuiet_nil ?_
  show wpQuiet _ _ _ _ [_, _] _
  repeat (go_big_quiet_step (fail))
  refine wpQuiet_nil ?_
  rintro _ ⟨nq, rfl⟩
  show wpList _ _ _ [_, _] _ _
  go_wp2_with (go_at_call 14; refine (HB.out nq).mono ?_; rintro e w' ⟨rfl, hk⟩)
  go_ret
  exact ⟨rfl, hk⟩
end Go.Proofs.YtgblndddcbfdiaaDoor
