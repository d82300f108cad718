/-
  WALK: works (errors.Is finds a Spot's number within two others).
-/
import Derived.Test.YtinonjfnhedlpaaDoorFIsW
set_option linter.unusedSimpArgs false
namespace Go.Proofs.YtinonjfnhedlpaaDoor
open Go Go.RowKit Go.Aff Go.Fault
theorem flat_five (cs : List CauseV) : ∀ (k j : Nat) (c : CauseV), cs[k]? = some c → j < 5 → (cs.flatMap causeCells)[k * 5 + j]? = (causeCells c)[j]? := by
  induction cs with
  | nil => intro k j c h; cases h
  | cons x cs ih =>
    intro k j c h hj
    have hl : (causeCells x).length = 5 := rfl
    cases k with
    | zero =>
      simp only [List.getElem?_cons_zero, Option.some.injEq] at h
      subst h
      rw [List.flatMap_cons, List.getElem?_append_left (by omega), Nat.zero_mul, Nat.zero_add]
    | succ k =>
      rw [List.flatMap_cons, List.getElem?_append_right (by omega), hl, show (k + 1) * 5 + j - 5 = k * 5 + j by omega]
      exact ih k j c h hj
/-- A list of steps laid in a block. -/
theorem causes_blk {w : World} {b : Nat} {cs : List CauseV} (h : Blk w b 65 (cs.flatMap causeCells)) : CausesAt w (some ⟨b, 0, none⟩) cs := fun k c hc => by
  refine ⟨b, 0, rfl, fun j y hj => ?_⟩
  have h5 : j < 5 := (List.getElem?_eq_some_iff.1 hj).1
  have h1 := flat_five cs k j c hc h5
  have h2 : w.cell? ⟨b, k * 5 + j, none⟩ = (cs.flatMap causeCells)[k * 5 + j]? := h.cell _
  show w.cell? ⟨b, 0 + k * 5 + j, none⟩ = some y
  rw [Nat.zero_add, h2, h1, hj]
def worksC : List CauseV := [⟨3, 7, 3, ⟨#[]⟩, 0⟩, ⟨5, 0, 0, ⟨#[120]⟩, 0⟩, ⟨6, 0, 0, ⟨#[]⟩, 0⟩, ⟨7, 0, 0, ⟨#[]⟩, 2⟩]
theorem build_works : buildF worksC = .inr (.all none 0 [.note 0 ⟨#[120]⟩ (.spot 7 3), .gone]) := by
  simp [buildF, worksC, runF, stepF, VT.deep, VT.isNil, maxL]
theorem shape_works {t : VT} (h : t.erase = .all none 0 [.note 0 ⟨#[120]⟩ (.spot 7 3), .gone]) : ∃ A c b, t = .all A c [.note b ⟨#[120]⟩ (.spot 7 3), .gone] := by
  cases t with
  | all A c l =>
    simp only [VT.erase, VT.all.injEq, true_and] at h
    cases l with
    | nil => simp at h
    | cons x l =>
      cases l with
      | nil => simp at h
      | cons y l =>
        cases l with
        | cons z l => simp at h
        | nil =>
          simp only [List.map_cons, List.map_nil, List.cons.injEq, and_true] at h
          obtain ⟨h1, h2⟩ := h
          cases x with
          | note b wd e =>
            simp only [VT.erase, VT.note.injEq, true_and] at h1
            obtain ⟨rfl, h1⟩ := h1
            cases e <;> simp [VT.erase] at h1
            obtain ⟨rfl, rfl⟩ := h1
            cases y <;> simp [VT.erase] at h2
            exact ⟨A, c, b, rfl⟩
          | _ => simp [VT.erase] at h1
  | _ => simp [VT.erase] at h
theorem eql_spot73 (w : World) : (binOp .eql 24 (.iface 40 (.agg #[.int .i64 7, .int .i64 3])) (.iface 40 (.agg #[.int .i64 7, .int .i64 3]))).run Tryd.prog w = .ok (.bool true) w := by kernel_rfl
set_option maxHeartbeats 4000000 in
set_option maxRecDepth 100000 in
theorem works_any (w : World) : Calls Tryd.prog 5 #[] w fun e w' => e = .returned (.bool true) ∧ Keeps (fun _ => False) w w' := by
  obtain ⟨wa, hwa⟩ : ∃ wa, wa = w.alloc (.cells (worksC.flatMap causeCells).toArray 65) := ⟨_, rfl⟩
  have HKA : Hid (Keeps (fun _ => False) w wa) := Lib.hid (by rw [hwa]; exact (Keeps.refl _ w).alloc _)
  have HB : Hid (Calls Tryd.prog 4 #[.slice (some ⟨w.heap.size, 0, none⟩) 4 4] wa fun e w' => ∃ g c b, e = .returned (.tuple #[.iface 45 (.slice (some ⟨g, 0, none⟩) 2 c), .nilIface]) ∧ w'.cell? ⟨g, 0, none⟩ = some (.iface 43 (.pointer (some ⟨b, 0, none⟩))) ∧ w'.cell? ⟨g, 1, none⟩ = some (.iface 43 (.pointer none)) ∧
      w'.cell? ⟨b, 0, none⟩ = some (.string ⟨#[120]⟩) ∧ w'.cell? ⟨b, 1, none⟩ = some (.iface 40 (.agg #[.int .i64 7, .int .i64 3])) ∧ Hid (Keeps (fun _ => False) wa w' ∧ ∀ W, Keeps (fun _ => False) w' W → Calls Tryd.prog 10 #[.iface 45 (.slice (some ⟨g, 0, none⟩) 2 c), .iface 33 (.int .i64 7)] W fun e w2 => e = .returned (.bool true) ∧ Keeps (fun _ => False) W w2)) := Lib.hid (by
    refine (Build_any wa (some ⟨w.heap.size, 0, none⟩) 4 4 worksC rfl (causes_blk (by rw [hwa]; exact Blk.new w _ _))).mono fun e w' h => ?_
    obtain ⟨vt, h1, rfl, h3, h4⟩ := h.2.2 _ build_works
    obtain ⟨A, c, b, rfl⟩ := shape_works h1
    have h3' := h3
    simp only [At] at h3
    obtain ⟨_, ho, _, hx⟩ := h3
    obtain ⟨g, rfl⟩ := own_headF ho (by simp)
    have hb0 := hx _ (List.mem_cons_self ..)
    simp only [At] at hb0
    have hb := hb0.2.1
    have c0 := own_cell ho 0 (by simp)
    have c1 := own_cell ho 1 (by simp)
    refine ⟨g, c, b, rfl, c0, c1, hb.cell 0, hb.cell 1, Lib.hid ⟨h.1, fun W hW => ?_⟩⟩
    have h5 := Is_any _ 7 W _ (h3'.keep hW (fun _ _ h => h))
    rw [show inT 7 (.all (some ⟨g, 0, none⟩) c [.note b ⟨#[120]⟩ (.spot 7 3), .gone]) = true by simp [inT]] at h5
    exact h5)
  rw [hwa] at HB HKA
  have hcc : (worksC.flatMap causeCells).toArray = #[.int .i64 3, .int .i64 7, .int .i64 3, .string ⟨#[]⟩, .int .i64 0, .int .i64 5, .int .i64 0, .int .i64 0, .string ⟨#[120]⟩, .int .i64 0, .int .i64 6, .int .i64 0, .int .i64 0, .string ⟨#[]⟩, .int .i64 0, .int .i64 7, .int .i64 0, .int .i64 0, .string ⟨#[]⟩, .int .i64 2] := rfl
  rw [hcc] at HB HKA
  clear hwa hcc
  have x1 := as_all_all
  have x2 := as_note_note
  have x3 := eql_spot73
  go_enter Tryd.func5, Tryd.ntmps5
  go_wp2_with (first
    | (go_at_call 4; refine HB.out.mono ?_; rintro e w1 ⟨g, c, b, rfl, c0, c1, c2, c3, HK⟩)
    | (go_at_call 10; refine (HK.out.2 _ (Keeps.refl _ _)).mono ?_; rintro e w2 ⟨rfl, hk2⟩))
  go_ret
  exact ⟨rfl, (HKA.out.trans HK.out.1 (fun _ _ h => h)).trans hk2 (fun _ _ h => h)⟩
end Go.Proofs.YtinonjfnhedlpaaDoor
