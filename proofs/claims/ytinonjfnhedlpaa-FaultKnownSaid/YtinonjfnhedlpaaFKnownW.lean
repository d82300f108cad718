/-
  WALK: the law FaultKnown (what the document's examples name).
-/
import Derived.Test.YtinonjfnhedlpaaFKnownK
import Derived.Test.YtinonjfnhedlpaaFErrorW
import Derived.Test.YtinonjfnhedlpaaFFirstW
import Derived.Test.YtinonjfnhedlpaaFHeldW
import Derived.Test.YtinonjfnhedlpaaFEqualW
import Derived.Test.YtinonjfnhedlpaaFSpotW
set_option linter.unusedSimpArgs false
namespace Go.Proofs.Ytinonjfnhedlpaa
open Go Go.RowKit Go.Shelf Go.Aff Go.Fault
def kN7 : CauseV := ⟨2, 7, 0, ⟨#[]⟩, 0⟩
def kNote (s : ByteArray) : CauseV := ⟨5, 0, 0, s, 0⟩
def kX : ByteArray := ⟨#[120]⟩
def kY : ByteArray := ⟨#[121]⟩
def kA : ByteArray := ⟨#[47, 97]⟩
def kThird : List CauseV := [⟨3, 7, 3, ⟨#[]⟩, 0⟩, ⟨1, 0, 0, ⟨#[]⟩, 0⟩, ⟨4, 8, 0, kA, 0⟩, ⟨7, 0, 0, ⟨#[]⟩, 3⟩]
def tThird : VT := .all none 0 [.spot 7 3, .nil, .trail 8 kA]
theorem b_n7x : buildF [kN7, kNote kX] = .inr (.note 0 kX (.num 7)) := by simp [buildF, kN7, kNote, runF, stepF, VT.deep, VT.isNil, maxL]
theorem b_gone : buildF [⟨6, 0, 0, ⟨#[]⟩, 0⟩] = .inr .gone := by simp [buildF, runF, stepF, VT.deep, VT.isNil, maxL]
theorem b_third : buildF kThird = .inr tThird := by simp [buildF, kThird, tThird, runF, stepF, VT.deep, VT.isNil, maxL]
theorem b_all0 : buildF [⟨7, 0, 0, ⟨#[]⟩, 0⟩] = .inr (.all none 0 []) := by simp [buildF, runF, stepF, VT.deep, VT.isNil, maxL]
theorem b_n7xy : buildF [kN7, kNote kX, kNote kY] = .inr (.note 0 kY (.note 0 kX (.num 7))) := by simp [buildF, kN7, kNote, runF, stepF, VT.deep, VT.isNil, maxL]
theorem b_n7 : buildF [kN7] = .inr (.num 7) := by simp [buildF, kN7, runF, stepF, VT.deep, VT.isNil, maxL]
theorem b_spot : buildF [⟨3, 7, 3, ⟨#[]⟩, 0⟩] = .inr (.spot 7 3) := by simp [buildF, runF, stepF, VT.deep, VT.isNil, maxL]
theorem b_nil : buildF [⟨1, 0, 0, ⟨#[]⟩, 0⟩] = .inr .nil := by simp [buildF, runF, stepF, VT.deep, VT.isNil, maxL]
theorem e_none : buildF [] = .inl (81, 0) := by simp [buildF, runF]
theorem e_two : buildF [kN7, kN7] = .inl (81, 2) := by simp [buildF, kN7, runF, stepF]
theorem e_note : buildF [⟨5, 0, 0, ⟨#[]⟩, 0⟩] = .inl (80, 0) := by simp [buildF, runF, stepF]
theorem e_all1 : buildF [⟨7, 0, 0, ⟨#[]⟩, 1⟩] = .inl (80, 0) := by simp [buildF, runF, stepF]
theorem e_nine : buildF [⟨9, 0, 0, ⟨#[]⟩, 0⟩] = .inl (80, 0) := by simp [buildF, runF, stepF]
/-- What is known between the law's steps: two rows of steps. -/
structure KnI (w : World) (b1 b2 : Nat) (W : World) : Prop where
  keep : Keeps (fun _ => False) w W
  n7 : Blk W b1 73 (causeCells kN7)
  third : Blk W b2 73 (kThird.flatMap causeCells)
theorem KnI.step {w : World} {b1 b2 : Nat} {W W' : World} (h : KnI w b1 b2 W) (k : Keeps (fun _ => False) W W') : KnI w b1 b2 W' := ⟨h.keep.trans k (fun _ _ h => h), k.blk h.n7 (fun h => h), k.blk h.third (fun h => h)⟩
theorem note_of {t : VT} (h : t.erase = .note 0 kX (.num 7)) : ∃ b, t = .note b kX (.num 7) := by
  cases t with
  | note b wd e =>
    simp only [VT.erase, VT.note.injEq, true_and] at h
    obtain ⟨rfl, h⟩ := h
    cases e <;> simp [VT.erase] at h
    subst h
    exact ⟨b, rfl⟩
  | _ => simp [VT.erase] at h
theorem num_of {t : VT} {n : Int} (h : t.erase = .num n) : t = .num n := by
  cases t <;> simp [VT.erase] at h
  rw [h]
theorem nil_of {t : VT} (h : t.erase = .nil) : t = .nil := by
  cases t <;> simp [VT.erase] at h
  rfl
theorem gone_of {t : VT} (h : t.erase = .gone) : t = .gone := by
  cases t <;> simp [VT.erase] at h
  rfl
theorem third_of {t : VT} (h : t.erase = tThird) : ∃ A c, t = .all A c [.spot 7 3, .nil, .trail 8 kA] := by
  cases t with
  | all A c l =>
    simp only [tThird, VT.erase, VT.all.injEq, true_and] at h
    refine ⟨A, c, ?_⟩
    match l, h with
    | [x, y, z], h =>
      simp only [List.map_cons, List.map_nil, List.cons.injEq, and_true] at h
      obtain ⟨h1, h2, h3⟩ := h
      have e1 : x = .spot 7 3 := by cases x <;> simp [VT.erase] at h1 ⊢; exact h1
      have e2 := nil_of h2
      have e3 : z = .trail 8 kA := by cases z <;> simp [VT.erase] at h3 ⊢; exact h3
      rw [e1, e2, e3]
    | [], h => simp at h
    | [_], h => simp at h
    | [_, _], h => simp at h
    | _ :: _ :: _ :: _ :: _, h => simp at h
  | _ => simp [tThird, VT.erase] at h
theorem kb_n7x (W : World) (b : Nat) (h : Blk W b 73 ([kN7, kNote kX].flatMap causeCells)) : Calls Try.prog 15 #[.slice (some ⟨b, 0, none⟩) 2 2] W fun e w' => ∃ nb, e = .returned (.tuple #[.iface 87 (.pointer (some ⟨nb, 0, none⟩)), .nilIface]) ∧ Hid (Keeps (fun _ => False) W w' ∧ Blk w' nb 90 [.string ⟨#[120]⟩, .iface 32 (.int .i64 7)]) :=
  (Build_any W _ 2 2 _ rfl (causes_blk h)).mono fun e w' h => by
    obtain ⟨vt, h1, h2, h3, h4⟩ := h.2.2 _ b_n7x
    obtain ⟨nb, rfl⟩ := note_of h1
    simp only [At] at h3
    exact ⟨nb, h2, Lib.hid ⟨h.1, h3.2.1⟩⟩
theorem kb_gone (W : World) (b : Nat) (h : Blk W b 73 ([(⟨6, 0, 0, ⟨#[]⟩, 0⟩ : CauseV)].flatMap causeCells)) : Calls Try.prog 15 #[.slice (some ⟨b, 0, none⟩) 1 1] W fun e w' => e = .returned (.tuple #[.iface 87 (.pointer none), .nilIface]) ∧ Hid (Keeps (fun _ => False) W w') :=
  (Build_any W _ 1 1 _ rfl (causes_blk h)).mono fun e w' h => by
    obtain ⟨vt, h1, h2, h3, h4⟩ := h.2.2 _ b_gone
    rw [gone_of h1] at h2
    exact ⟨h2, Lib.hid h.1⟩
theorem third_count : tThird.count = 6 := by simp [VT.count, tThird, VT.items]
theorem k_look (W : World) (b : Nat) (h : Blk W b 73 (kThird.flatMap causeCells)) : Calls Try.prog 8 #[.slice (some ⟨b, 0, none⟩) 4 4] W fun e w' => ∃ A3 c3, e = .returned (.tuple #[.slice A3 6 c3, .nilIface]) ∧ Hid (Keeps (fun _ => False) W w' ∧ w'.ownsRow 0 34 6 (.slice A3 6 c3) 6 (looksF (tThird.items 1))) :=
  (Look_any W _ 4 4 _ rfl (causes_blk h)).mono fun e w' h => by
    obtain ⟨v, h1, h2, h3⟩ := h.2.2 _ b_third
    rw [third_count] at h2
    obtain ⟨A3, c3, rfl⟩ := own_shape h2
    exact ⟨A3, c3, h1, Lib.hid ⟨h.1, h2⟩⟩
def kSeen : List Value := [.int .i64 7, .int .i64 1, .int .i64 0, .int .i64 0, .string ⟨#[]⟩, .int .i64 3, .int .i64 3, .int .i64 2, .int .i64 7, .int .i64 3, .string ⟨#[]⟩, .int .i64 0, .int .i64 2, .int .i64 3, .int .i64 7, .int .i64 0, .string ⟨#[]⟩, .int .i64 0, .int .i64 1, .int .i64 2, .int .i64 0, .int .i64 0, .string ⟨#[]⟩, .int .i64 0, .int .i64 4, .int .i64 2, .int .i64 8, .int .i64 0, .string ⟨#[47, 97]⟩, .int .i64 0, .int .i64 2, .int .i64 3, .int .i64 8, .int .i64 0, .string ⟨#[]⟩, .int .i64 0]
theorem third_looks : looksF (tThird.items 1) = kSeen := by simp [looksF, tThird, VT.items, seenV, kSeen, kA]
theorem k_same (W : World) (A3 : Option Addr) (c3 : Nat) (h : W.ownsRow 0 34 6 (.slice A3 6 c3) 6 (looksF (tThird.items 1))) : Calls Try.prog 21 #[.slice A3 6 c3, .slice (some ⟨W.heap.size, 0, none⟩) 6 6] (W.alloc (.cells kSeen.toArray 34)) fun e w' => e = .returned (.bool true) ∧ Keeps (fun _ => False) (W.alloc (.cells kSeen.toArray 34)) w' := by
  have hl : (tThird.items 1).length = 6 := third_count
  refine sEqualSeen_any _ A3 _ 6 c3 6 (tThird.items 1) hl (by omega) (fun k p hp => ?_) (fun k p hp => ?_)
  · exact seen_range (((Keeps.refl (fun _ => False) W).alloc _).own h (fun _ _ h => h)) (by have := (List.getElem?_eq_some_iff.1 hp).1; omega) hp
  · rw [← third_looks]
    refine ⟨_, rfl, fun f y hf => ?_⟩
    have h6 : f < 6 := by have := (List.getElem?_eq_some_iff.1 hf).1; rw [seenV_length] at this; exact this
    exact ((Blk.new W 34 (looksF (tThird.items 1))).cell _).trans ((seen_at _ k f p hp h6).trans hf)
theorem err_meth (v : Value) (w : World) : (Go.method 284 87 v "Error").run Try.prog w = .ok (93, v) w := by kernel_rfl
theorem k_is8 (W : World) (b : Nat) (h : Blk W b 73 (kThird.flatMap causeCells)) : Calls Try.prog 18 #[.slice (some ⟨b, 0, none⟩) 4 4, .int .i64 8] W fun e w' => e = .returned (.tuple #[.bool true, .nilIface]) ∧ Keeps (fun _ => False) W w' :=
  (FIs_any W _ 4 4 _ 8 rfl (causes_blk h)).mono fun e w' h => by
    have h1 := h.2.2 _ b_third
    rw [show inT 8 tThird = true by simp [inT, tThird]] at h1
    exact ⟨h1, h.1⟩
theorem k_is9 (W : World) (b : Nat) (h : Blk W b 73 (kThird.flatMap causeCells)) : Calls Try.prog 18 #[.slice (some ⟨b, 0, none⟩) 4 4, .int .i64 9] W fun e w' => e = .returned (.tuple #[.bool false, .nilIface]) ∧ Keeps (fun _ => False) W w' :=
  (FIs_any W _ 4 4 _ 9 rfl (causes_blk h)).mono fun e w' h => by
    have h1 := h.2.2 _ b_third
    rw [show inT 9 tThird = false by simp [inT, tThird]] at h1
    exact ⟨h1, h.1⟩
theorem k_as2 (W : World) (b : Nat) (h : Blk W b 73 (kThird.flatMap causeCells)) : Calls Try.prog 22 #[.slice (some ⟨b, 0, none⟩) 4 4, .int .i64 2] W fun e w' => e = .returned (.tuple #[.iface 32 (.int .i64 7), .nilIface]) ∧ Keeps (fun _ => False) W w' :=
  (FAs_any W _ 4 4 _ 2 rfl (causes_blk h)).mono fun e w' h => by
    obtain ⟨vt, h1, h2, h3⟩ := (h.2.2 _ b_third).2 rfl
    obtain ⟨A, c, rfl⟩ := third_of h1
    rw [show firstT (fun x => asP 2 (kindF x)) (.all A c [.spot 7 3, .nil, .trail 8 kA]) = some (.num 7) by simp [firstT, VT.items, asP, kindF]] at h3
    exact ⟨h3, h.1⟩
theorem k_as5 (W : World) (b : Nat) (h : Blk W b 73 (kThird.flatMap causeCells)) : Calls Try.prog 22 #[.slice (some ⟨b, 0, none⟩) 4 4, .int .i64 5] W fun e w' => e = .returned (.tuple #[.nilIface, .iface 32 (.int .i64 4)]) ∧ Keeps (fun _ => False) W w' :=
  (FAs_any W _ 4 4 _ 5 rfl (causes_blk h)).mono fun e w' h => by
    obtain ⟨vt, h1, h2, h3⟩ := (h.2.2 _ b_third).2 rfl
    obtain ⟨A, c, rfl⟩ := third_of h1
    rw [show firstT (fun x => asP 5 (kindF x)) (.all A c [.spot 7 3, .nil, .trail 8 kA]) = none by simp [firstT, VT.items, asP, kindF]] at h3
    exact ⟨h3, h.1⟩
theorem k_as1 (W : World) (b : Nat) (h : Blk W b 73 (kThird.flatMap causeCells)) : Calls Try.prog 22 #[.slice (some ⟨b, 0, none⟩) 4 4, .int .i64 1] W fun e w' => e = .returned (.tuple #[.nilIface, .iface 32 (.int .i64 2)]) ∧ Keeps (fun _ => False) W w' :=
  (FAs_any W _ 4 4 _ 1 rfl (causes_blk h)).mono fun _ _ h => ⟨(h.2.2 _ b_third).1 rfl, h.1⟩
theorem k_flat7 (W : World) : Calls Try.prog 17 #[.slice (some ⟨W.heap.size, 0, none⟩) 3 3] (W.alloc (.cells ([kN7, kNote kX, kNote kY].flatMap causeCells).toArray 73)) fun e w' => e = .returned (.tuple #[.iface 32 (.int .i64 7), .nilIface]) ∧ Keeps (fun _ => False) (W.alloc (.cells ([kN7, kNote kX, kNote kY].flatMap causeCells).toArray 73)) w' :=
  (Flat_any _ _ 3 3 _ rfl (causes_blk (Blk.new W _ _))).mono fun e w' h => by
    obtain ⟨ft, h1, h2, h3⟩ := h.2.2 _ b_n7xy
    rw [show flatT (flatL ((VT.note 0 kY (.note 0 kX (.num 7))).items 1)).1 = .num 7 by simp [flatL, VT.items, VT.isNil, flatS, flatT]] at h1
    rw [num_of h1] at h2
    exact ⟨h2, h.1⟩
theorem k_flat0 (W : World) : Calls Try.prog 17 #[.slice (some ⟨W.heap.size, 0, none⟩) 1 1] (W.alloc (.cells ([(⟨7, 0, 0, ⟨#[]⟩, 0⟩ : CauseV)].flatMap causeCells).toArray 73)) fun e w' => e = .returned (.tuple #[.nilIface, .nilIface]) ∧ Keeps (fun _ => False) (W.alloc (.cells ([(⟨7, 0, 0, ⟨#[]⟩, 0⟩ : CauseV)].flatMap causeCells).toArray 73)) w' :=
  (Flat_any _ _ 1 1 _ rfl (causes_blk (Blk.new W _ _))).mono fun e w' h => by
    obtain ⟨ft, h1, h2, h3⟩ := h.2.2 _ b_all0
    rw [show flatT (flatL ((VT.all none 0 []).items 1)).1 = .nil by simp [flatL, VT.items, flatS, flatT]] at h1
    rw [nil_of h1] at h2
    exact ⟨h2, h.1⟩
theorem k_self (W : World) (b : Nat) (h : Blk W b 73 ([kN7, kNote kX].flatMap causeCells)) : Calls Try.prog 14 #[.slice (some ⟨b, 0, none⟩) 2 2] W fun e w' => e = .returned (.tuple #[.agg #[.bool true, .bool false], .nilIface]) ∧ Keeps (fun _ => False) W w' :=
  (Self_any W _ 2 2 _ rfl (causes_blk h) (by rw [b_n7x]; intro h; injection h with h; cases h)).mono fun e w' h => by
    rw [show selfF [kN7, kNote kX] = .inr (true, false) by simp [selfF, b_n7x, VT.isAll]] at h
    exact ⟨h.2, h.1⟩
theorem k_self0 (W : World) (b : Nat) (h : Blk W b 73 ([(⟨7, 0, 0, ⟨#[]⟩, 0⟩ : CauseV)].flatMap causeCells)) : Calls Try.prog 14 #[.slice (some ⟨b, 0, none⟩) 1 1] W fun e w' => e = .returned (.tuple #[.agg #[.bool false, .bool true], .nilIface]) ∧ Keeps (fun _ => False) W w' :=
  (Self_any W _ 1 1 _ rfl (causes_blk h) (by rw [b_all0]; intro h; injection h with h; cases h)).mono fun e w' h => by
    rw [show selfF [(⟨7, 0, 0, ⟨#[]⟩, 0⟩ : CauseV)] = .inr (false, true) by simp [selfF, b_all0, VT.isAll]] at h
    exact ⟨h.2, h.1⟩
theorem alike_eql (a b : Bool) (w : World) : (Op.equalIn 10000 51 (.agg #[.bool a, .bool b]) (.agg #[.bool a, .bool b])).run Try.prog w = .ok true w := by
  have hS : Try.prog.underlying 51 = some (.struct (Try.prog.fieldsOf 51)) := by kernel_rfl
  have u1 := Try.underlying4
  rw [show (10000 : Nat) = 9999 + 1 from rfl, run_equalIn_agg w 9999 51 _ _ hS (by kernel_rfl)]
  simp only [Program.fieldsOf, Try.underlying51]
  go_simp
theorem guard_alike (op : BinOp) (x y : Operand) (xs ys : Array Value) (w : World) : (eqGuard op 51 x y (.agg xs) (.agg ys)).run Try.prog w = .ok () w := run_eqGuard_agg w op 51 x y xs ys (by kernel_rfl)
theorem ne7 (w : World) : (binOp .neq 25 (.iface 32 (.int .i64 7)) (.iface 32 (.int .i64 7))).run Try.prog w = .ok (.bool false) w := ne_plain (.num 7) rfl w
/-- The second table of the law. -/
def Tests2 (g : Nat) (W : World) : Prop := ∀ j, j < 6 → ∃ (A : Option Addr) (n c : Nat) (B : Option Addr) (m d : Nat) (cs ds : List CauseV) (q : Bool × Bool), W.cell? ⟨g, j * 4, none⟩ = some (.slice A n c) ∧ W.cell? ⟨g, j * 4 + 1, none⟩ = some (.slice B m d) ∧ W.cell? ⟨g, j * 4 + 2, none⟩ = some (.bool q.1) ∧ W.cell? ⟨g, j * 4 + 3, none⟩ = some (.bool q.2) ∧ cs.length = n ∧ ds.length = m ∧ CausesAt W A cs ∧ CausesAt W B ds ∧ sameR cs ds = .inr q ∧ ¬ (buildF cs = .inr .nil ∧ buildF ds = .inr .nil)
theorem Tests2.keep {g : Nat} {W W' : World} (h : Tests2 g W) (k : Keeps (fun _ => False) W W') : Tests2 g W' := fun j hj => by
  obtain ⟨A, n, c, B, m, d, cs, ds, q, h0, h1, h2, h3, h4, h5, h6, h7, h8, h9⟩ := h j hj
  exact ⟨A, n, c, B, m, d, cs, ds, q, cell_keep k h0, cell_keep k h1, cell_keep k h2, cell_keep k h3, h4, h5, h6.keep k, h7.keep k, h8, h9⟩
/-- The first table of the law. -/
def Tests1 (g : Nat) (W : World) : Prop := ∀ j, j < 5 → ∃ (A : Option Addr) (n c : Nat) (cs : List CauseV) (er : Int × Nat), W.cell? ⟨g, j * 3, none⟩ = some (.slice A n c) ∧ W.cell? ⟨g, j * 3 + 1, none⟩ = some (.int .i64 er.1) ∧ W.cell? ⟨g, j * 3 + 2, none⟩ = some (.int .i64 er.2) ∧ cs.length = n ∧ CausesAt W A cs ∧ buildF cs = .inl er
theorem Tests1.keep {g : Nat} {W W' : World} (h : Tests1 g W) (k : Keeps (fun _ => False) W W') : Tests1 g W' := fun j hj => by
  obtain ⟨A, n, c, cs, er, h0, h1, h2, h3, h4, h5⟩ := h j hj
  exact ⟨A, n, c, cs, er, cell_keep k h0, cell_keep k h1, cell_keep k h2, h3, h4.keep k, h5⟩
set_option maxHeartbeats 4000000 in
set_option maxRecDepth 100000 in
theorem known_any (w : World) : Calls Try.prog 7 #[] w fun e w' => e = .returned (.bool true) ∧ Keeps (fun _ => False) w w' := by
  go_enter Try.func7, Try.ntmps7
  go_upto_region 4 with (go_at_call 11; refine (works_any _).mono ?_; rintro e w0 ⟨rfl, hk0⟩; have HK0 := Lib.hid hk0; clear hk0)
  refine gen_codeF (fun W => Keeps (fun _ => False) w W ∧ Blk W w0.heap.size 73 (causeCells kN7)) ⟨HK0.out.trans ((Keeps.refl _ w0).alloc _) (fun _ _ h => h), Blk.new w0 _ _⟩ ?_
  rintro wa ⟨hka, hba⟩
  have HKA := Lib.hid hka
  have HBA := Lib.hid hba
  clear hka hba
  obtain ⟨b1, hb1⟩ : ∃ b, b = w0.heap.size := ⟨_, rfl⟩
  rw [← hb1] at HBA
  rw [← hb1]
  clear hb1 HK0
  go_upto_region 5 with fail
  refine gen_codeF (KnI w b1 wa.heap.size) ⟨HKA.out.trans ((Keeps.refl _ wa).alloc _) (fun _ _ h => h), HBA.out.alloc _, Blk.new wa _ _⟩ ?_
  intro wb hIb
  obtain ⟨b2, hb2⟩ : ∃ b, b = wa.heap.size := ⟨_, rfl⟩
  rw [← hb2] at hIb
  rw [← hb2]
  have HIB := Lib.hid hIb
  clear hb2 HKA HBA hIb
  have hmt := err_meth
  have xne := ne7
  have xal := alike_eql
  have xga := guard_alike
  have th11 : True := trivial
  have th10 : True := trivial
  have th9 : True := trivial
  have th8 : True := trivial
  have th7 : True := trivial
  have th6 : True := trivial
  have th5 : True := trivial
  have th4 : True := trivial
  have th3 : True := trivial
  have th2 : True := trivial
  have th1 : True := trivial
  have tk5 : True := trivial
  have tk4 : True := trivial
  have tk3 : True := trivial
  have tk2 : True := trivial
  have tk1 : True := trivial
  have c0 := HIB.out.n7.cell 0
  have c1 := HIB.out.n7.cell 1
  have c2 := HIB.out.n7.cell 2
  have c3 := HIB.out.n7.cell 3
  have c4 := HIB.out.n7.cell 4
  simp only [causeCells, kN7] at c0 c1 c2 c3 c4
  go_upto_region 8 with (first
    | (go_at_call 15; refine (kb_n7x _ _ (Blk.new wb _ _)).mono ?_; rintro e w1 ⟨nb, rfl, HK1⟩)
    | (go_at_call 93; refine (note_error _ nb HK1.out.2).mono ?_; rintro e w2 ⟨rfl, hk2⟩; have HK2 := Lib.hid hk2; clear hk2; simp only [xerr7]))
  refine gen_codeF (KnI w b1 b2) (HIB.out.step ((((Keeps.refl _ wb).alloc _).trans HK1.out.1 (fun _ _ h => h)).trans HK2.out (fun _ _ h => h))) ?_
  intro wc hIc
  have HIC := Lib.hid hIc
  clear hIc HIB HK1 HK2 c0 c1 c2 c3 c4
  --8
  go_upto_region 11 with (first
    | (go_at_call 15; refine (kb_gone _ _ (Blk.new wc _ _)).mono ?_; rintro e w1 ⟨rfl, HK1⟩)
    | (go_at_call 93; refine (gone_error _).mono ?_; rintro e w2 ⟨rfl, hk2⟩; have HK2 := Lib.hid hk2; clear hk2; simp only [noNote]))
  refine gen_codeF (KnI w b1 b2) (HIC.out.step ((((Keeps.refl _ wc).alloc _).trans HK1.out (fun _ _ h => h)).trans HK2.out (fun _ _ h => h))) ?_
  intro wd hId
  have HID := Lib.hid hId
  clear hId HIC HK1 HK2
  --11
  go_upto_region 14 with (first
    | (go_at_call 8; refine (k_look _ b2 HID.out.third).mono ?_; rintro e w1 ⟨A3, c3, rfl, HK1⟩)
    | (go_at_call 21; refine (k_same w1 A3 c3 HK1.out.2).mono ?_; rintro e w2 ⟨rfl, hk2⟩; have HK2 := Lib.hid hk2; clear hk2))
  refine gen_codeF (KnI w b1 b2) (HID.out.step ((HK1.out.1.trans ((Keeps.refl _ w1).alloc _) (fun _ _ h => h)).trans HK2.out (fun _ _ h => h))) ?_
  intro we hIe
  have HIE := Lib.hid hIe
  clear hIe HID HK1 HK2
  --14
  have c0 := HIE.out.n7.cell 0
  have c1 := HIE.out.n7.cell 1
  have c2 := HIE.out.n7.cell 2
  have c3 := HIE.out.n7.cell 3
  have c4 := HIE.out.n7.cell 4
  simp only [causeCells, kN7] at c0 c1 c2 c3 c4
  have t1 : True := trivial
  have t2 : True := trivial
  have t3 : True := trivial
  have t4 : True := trivial
  have t5 : True := trivial
  go_upto_block 0 with (first
    | ((with_reducible show wpList _ _ _ (⟨some 101, _, _, _, _, _⟩ :: _) _ _); clear t1; refine gen_world (fun W => Keeps (fun _ => False) we W ∧ Blk W we.heap.size 73 ([kN7, kN7].flatMap causeCells)) ⟨(Keeps.refl _ we).alloc _, Blk.new we _ _⟩ ?_; rintro wf ⟨hkx, hbx⟩; have HKf := Lib.hid hkx; have HBf := Lib.hid hbx; clear hkx hbx)
    | ((with_reducible show wpList _ _ _ (⟨some 104, _, _, _, _, _⟩ :: _) _ _); clear t2; refine gen_world (fun W => Keeps (fun _ => False) wf W ∧ Blk W wf.heap.size 73 ([(⟨5, 0, 0, ⟨#[]⟩, 0⟩ : CauseV)].flatMap causeCells)) ⟨(Keeps.refl _ wf).alloc _, Blk.new wf _ _⟩ ?_; rintro wg ⟨hkx, hbx⟩; have HKg := Lib.hid hkx; have HBg := Lib.hid hbx; clear hkx hbx)
    | ((with_reducible show wpList _ _ _ (⟨some 107, _, _, _, _, _⟩ :: _) _ _); clear t3; refine gen_world (fun W => Keeps (fun _ => False) wg W ∧ Blk W wg.heap.size 73 ([(⟨7, 0, 0, ⟨#[]⟩, 1⟩ : CauseV)].flatMap causeCells)) ⟨(Keeps.refl _ wg).alloc _, Blk.new wg _ _⟩ ?_; rintro wh ⟨hkx, hbx⟩; have HKh := Lib.hid hkx; have HBh := Lib.hid hbx; clear hkx hbx)
    | ((with_reducible show wpList _ _ _ (⟨some 110, _, _, _, _, _⟩ :: _) _ _); clear t4; refine gen_world (fun W => Keeps (fun _ => False) wh W ∧ Blk W wh.heap.size 73 ([(⟨9, 0, 0, ⟨#[]⟩, 0⟩ : CauseV)].flatMap causeCells)) ⟨(Keeps.refl _ wh).alloc _, Blk.new wh _ _⟩ ?_; rintro wi ⟨hkx, hbx⟩; have HKi := Lib.hid hkx; have HBi := Lib.hid hbx; clear hkx hbx)
    | ((with_reducible show wpList _ _ _ (⟨some 112, _, _, _, _, _⟩ :: _) _ _); clear t5; refine gen_world (fun W => Keeps (fun _ => False) wi W ∧ Blk W wi.heap.size 75 ([.slice none 0 0, .int .i64 81, .int .i64 0, .slice (some ⟨we.heap.size, 0, none⟩) 2 2, .int .i64 81, .int .i64 2, .slice (some ⟨wf.heap.size, 0, none⟩) 1 1, .int .i64 80, .int .i64 0, .slice (some ⟨wg.heap.size, 0, none⟩) 1 1, .int .i64 80, .int .i64 0, .slice (some ⟨wh.heap.size, 0, none⟩) 1 1, .int .i64 80, .int .i64 0])) ⟨(Keeps.refl _ wi).alloc _, Blk.new wi _ _⟩ ?_; rintro wj ⟨hkx, hbx⟩; have HKj := Lib.hid hkx; have HBj := Lib.hid hbx; clear hkx hbx))
  obtain ⟨gT, hgT⟩ : ∃ g, g = wi.heap.size := ⟨_, rfl⟩
  have HT : Hid (Tests1 gT wj) := Lib.hid (by
    have k1 := HKj.out
    have k2 := HKi.out.trans k1 (fun _ _ h => h)
    have k3 := HKh.out.trans k2 (fun _ _ h => h)
    have k4 := HKg.out.trans k3 (fun _ _ h => h)
    have hb := HBj.out
    rw [← hgT] at hb
    have s1 := causes_blk (cs := [kN7, kN7]) (k4.blk HBf.out (fun h => h))
    have s2 := causes_blk (cs := [(⟨5, 0, 0, ⟨#[]⟩, 0⟩ : CauseV)]) (k3.blk HBg.out (fun h => h))
    have s3 := causes_blk (cs := [(⟨7, 0, 0, ⟨#[]⟩, 1⟩ : CauseV)]) (k2.blk HBh.out (fun h => h))
    have s4 := causes_blk (cs := [(⟨9, 0, 0, ⟨#[]⟩, 0⟩ : CauseV)]) (k1.blk HBi.out (fun h => h))
    intro j hj
    rcases j with _ | _ | _ | _ | _ | j
    · exact ⟨none, 0, 0, [], (81, 0), hb.cell 0, hb.cell 1, hb.cell 2, rfl, (fun k c h => by cases h), e_none⟩
    · exact ⟨_, 2, 2, [kN7, kN7], (81, 2), hb.cell 3, hb.cell 4, hb.cell 5, rfl, s1, e_two⟩
    · exact ⟨_, 1, 1, _, (80, 0), hb.cell 6, hb.cell 7, hb.cell 8, rfl, s2, e_note⟩
    · exact ⟨_, 1, 1, _, (80, 0), hb.cell 9, hb.cell 10, hb.cell 11, rfl, s3, e_all1⟩
    · exact ⟨_, 1, 1, _, (80, 0), hb.cell 12, hb.cell 13, hb.cell 14, rfl, s4, e_nine⟩
    · omega)
  have HIJ : Hid (KnI w b1 b2 wj) := Lib.hid (HIE.out.step ((((HKf.out.trans HKg.out (fun _ _ h => h)).trans HKh.out (fun _ _ h => h)).trans HKi.out (fun _ _ h => h)).trans HKj.out (fun _ _ h => h)))
  rw [← hgT]
  clear hgT HKf HKg HKh HKi HKj HBf HBg HBh HBi HBj HIE c0 c1 c2 c3 c4
  go_wp2
  go_loopg [113] 5 (fun g2 i w3 => ∃ j, j ≤ 5 ∧ i = .int .i64 (j : Nat) ∧ g2 = 5 - j ∧ Hid (Keeps (fun _ => False) wj w3))
  case atStart => exact ⟨0, by omega, rfl, rfl, Lib.hid (Keeps.refl _ wj)⟩
  case round =>
    obtain ⟨j, hj, rfl, hg2, HA⟩ := hrel
    have HG2 := Lib.hid hg2
    clear hg2
    by_cases hlt : j < 5
    · obtain ⟨A1, n1, c1, cs1, er, q0, q1, q2, hl1, hs1, hb1⟩ := HT.out.keep HA.out j hlt
      obtain ⟨x1, hx1⟩ : ∃ x, x = er.1 := ⟨_, rfl⟩
      obtain ⟨x2, hx2⟩ : ∃ x : Int, x = (er.2 : Int) := ⟨_, rfl⟩
      have hne : x1 ≠ 0 := by rw [hx1]; exact buildF_err hb1
      have HBD : Hid (∀ W, Keeps (fun _ => False) wr W → Calls Try.prog 15 #[.slice A1 n1 c1] W fun e w' => e = .returned (.tuple #[.nilIface, .iface 62 (.agg #[.int .i64 x1, .int .i64 x2])]) ∧ Keeps (fun _ => False) W w') := Lib.hid fun W hW =>
        (Build_any W A1 n1 c1 cs1 hl1 (hs1.keep hW)).mono fun e w' h => ⟨by rw [hx1, hx2]; exact h.2.1 er hb1, h.1⟩
      have HSP := Lib.hid fun W => spot_spot W x1 x2 hne
      rw [← hx1] at q1
      rw [← hx2] at q2
      clear hx1 hx2 hl1 hs1 hb1 hne
      have q3 : (j : Int) < 5 := by omega
      go_wp2_with (first
        | (go_at_call 15; refine (HBD.out _ (by first | exact (Keeps.refl _ wr).alloc _ | exact ((Keeps.refl _ wr).alloc _).setRow (.inr (Nat.le_refl _)) _)).mono ?_; rintro e w1 ⟨rfl, hk1⟩; have HK1 := Lib.hid hk1; have z1 := (hk1.blk (Blk.new wr 75 [.slice A1 n1 c1, .int .i64 x1, .int .i64 x2]) (fun h => h)).cell 1; have z2 := (hk1.blk (Blk.new wr 75 [.slice A1 n1 c1, .int .i64 x1, .int .i64 x2]) (fun h => h)).cell 2; clear hk1)
        | (go_at_call 13; refine (HSP.out _).mono ?_; rintro e w2 ⟨rfl, hk2⟩; have HK2 := Lib.hid hk2; have z3 := cell_keep hk2 z1; have z4 := cell_keep hk2 z2; clear hk2))
      go_roundg (5 - (j + 1))
      case measure => rw [HG2.out]; omega
      case rel => exact ⟨j + 1, by omega, by go_num, rfl, Lib.hid (HA.out.trans ((((Keeps.refl _ wr).alloc _).trans HK1.out (fun _ _ h => h)).trans HK2.out (fun _ _ h => h)) (fun _ _ h => h))⟩
    · obtain rfl : j = 5 := by omega
      have HIK : Hid (KnI w b1 b2 wr) := Lib.hid (HIJ.out.step HA.out)
      clear HIJ HT HA HG2
      --22
      go_upto_region 27 with (first
        | (go_at_call 18; clear tk1; refine (k_is8 _ b2 HIK.out.third).mono ?_; rintro e w5 ⟨rfl, hk5⟩; have HI5 := Lib.hid (HIK.out.step hk5); clear hk5)
        | (go_at_call 18; refine (k_is9 _ b2 HI5.out.third).mono ?_; rintro e w6 ⟨rfl, hk6⟩; have HI6 := Lib.hid (HI5.out.step hk6); clear hk6)
        | (go_at_call 22; clear tk2; refine (k_as2 _ b2 HI6.out.third).mono ?_; rintro e w7 ⟨rfl, hk7⟩; have HI7 := Lib.hid (HI6.out.step hk7); clear hk7)
        | (go_at_call 22; clear tk3; refine (k_as5 _ b2 HI7.out.third).mono ?_; rintro e w8 ⟨rfl, hk8⟩; have HI8 := Lib.hid (HI7.out.step hk8); clear hk8)
        | (go_at_call 22; refine (k_as1 _ b2 HI8.out.third).mono ?_; rintro e w9 ⟨rfl, hk9⟩; have HI9 := Lib.hid (HI8.out.step hk9); clear hk9))
      clear HI8 HI7 HI6 HI5 HIK
      --27
      have c0 := HI9.out.n7.cell 0
      have c1 := HI9.out.n7.cell 1
      have c2 := HI9.out.n7.cell 2
      have c3 := HI9.out.n7.cell 3
      have c4 := HI9.out.n7.cell 4
      simp only [causeCells, kN7] at c0 c1 c2 c3 c4
      go_upto_region 28 with (go_at_call 17; refine (k_flat7 w9).mono ?_; rintro e w1 ⟨rfl, hk1⟩; have HI1 := Lib.hid (HI9.out.step (((Keeps.refl _ w9).alloc _).trans hk1 (fun _ _ h => h))); clear hk1)
      clear c0 c1 c2 c3 c4 HI9
      go_upto_region 29 with (go_at_call 17; refine (k_flat0 w1).mono ?_; rintro e w2 ⟨rfl, hk2⟩; have HI2 := Lib.hid (HI1.out.step (((Keeps.refl _ w1).alloc _).trans hk2 (fun _ _ h => h))); clear hk2)
      clear HI1
      --29
      go_upto_region 31 with (first
        | (go_at_call 23; clear tk4; refine (number_num _ 4 (by decide)).mono ?_; rintro e w3 ⟨rfl, hk3⟩; have HI3 := Lib.hid (HI2.out.step hk3); clear hk3)
        | (go_at_call 23; refine (number_num _ 2 (by decide)).mono ?_; rintro e w4 ⟨rfl, hk4⟩; have HI4 := Lib.hid (HI3.out.step hk4); clear hk4))
      clear HI2 HI3
      --31
      have c0 := HI4.out.n7.cell 0
      have c1 := HI4.out.n7.cell 1
      have c2 := HI4.out.n7.cell 2
      have c3 := HI4.out.n7.cell 3
      have c4 := HI4.out.n7.cell 4
      simp only [causeCells, kN7] at c0 c1 c2 c3 c4
      go_upto_region 32 with fail
      refine gen_codeF (fun W => KnI w b1 b2 W ∧ Blk W w4.heap.size 73 ([kN7, kNote kX].flatMap causeCells)) ⟨HI4.out.step ((Keeps.refl _ w4).alloc _), Blk.new w4 _ _⟩ ?_
      rintro va ⟨hia, hba⟩
      have HIa := Lib.hid hia
      have HBa := Lib.hid hba
      clear c0 c1 c2 c3 c4 hia hba
      obtain ⟨b3, hb3⟩ : ∃ b, b = w4.heap.size := ⟨_, rfl⟩
      rw [← hb3] at HBa
      rw [← hb3]
      clear hb3 HI4
      --32
      have c0 := HIa.out.n7.cell 0
      have c1 := HIa.out.n7.cell 1
      have c2 := HIa.out.n7.cell 2
      have c3 := HIa.out.n7.cell 3
      have c4 := HIa.out.n7.cell 4
      simp only [causeCells, kN7] at c0 c1 c2 c3 c4
      go_upto_block 2 with (first
        | ((with_reducible show wpList _ _ _ (⟨some 236, _, _, _, _, _⟩ :: _) _ _); clear th1; refine gen_world (fun W => Keeps (fun _ => False) va W ∧ Blk W va.heap.size 73 ([kN7].flatMap causeCells)) ⟨(Keeps.refl _ va).alloc _, Blk.new va _ _⟩ ?_; rintro vb ⟨hkx, hbx⟩; have HKb := Lib.hid hkx; have HBb := Lib.hid hbx; clear hkx hbx; clear c0 c1 c2 c3 c4; have hbn := HKb.out.blk HIa.out.n7 (fun h => h); have c0 := hbn.cell 0; have c1 := hbn.cell 1; have c2 := hbn.cell 2; have c3 := hbn.cell 3; have c4 := hbn.cell 4; clear hbn; simp only [causeCells, kN7] at c0 c1 c2 c3 c4)
        | ((with_reducible show wpList _ _ _ (⟨some 238, _, _, _, _, _⟩ :: _) _ _); clear th2; refine gen_world (fun W => Keeps (fun _ => False) vb W ∧ Blk W vb.heap.size 73 ([kN7].flatMap causeCells)) ⟨(Keeps.refl _ vb).alloc _, Blk.new vb _ _⟩ ?_; rintro vc ⟨hkx, hbx⟩; have HKc := Lib.hid hkx; have HBc := Lib.hid hbx; clear hkx hbx)
        | ((with_reducible show wpList _ _ _ (⟨some 242, _, _, _, _, _⟩ :: _) _ _); clear th3; refine gen_world (fun W => Keeps (fun _ => False) vc W ∧ Blk W vc.heap.size 73 ([(⟨3, 7, 3, ⟨#[]⟩, 0⟩ : CauseV)].flatMap causeCells)) ⟨(Keeps.refl _ vc).alloc _, Blk.new vc _ _⟩ ?_; rintro vd ⟨hkx, hbx⟩; have HKd := Lib.hid hkx; have HBd := Lib.hid hbx; clear hkx hbx; clear c0 c1 c2 c3 c4; have hbn := ((HKb.out.trans HKc.out (fun _ _ h => h)).trans HKd.out (fun _ _ h => h)).blk HIa.out.n7 (fun h => h); have c0 := hbn.cell 0; have c1 := hbn.cell 1; have c2 := hbn.cell 2; have c3 := hbn.cell 3; have c4 := hbn.cell 4; clear hbn; simp only [causeCells, kN7] at c0 c1 c2 c3 c4)
        | ((with_reducible show wpList _ _ _ (⟨some 244, _, _, _, _, _⟩ :: _) _ _); clear th4; refine gen_world (fun W => Keeps (fun _ => False) vd W ∧ Blk W vd.heap.size 73 ([kN7].flatMap causeCells)) ⟨(Keeps.refl _ vd).alloc _, Blk.new vd _ _⟩ ?_; rintro ve ⟨hkx, hbx⟩; have HKe := Lib.hid hkx; have HBe := Lib.hid hbx; clear hkx hbx)
        | ((with_reducible show wpList _ _ _ (⟨some 248, _, _, _, _, _⟩ :: _) _ _); clear th5; refine gen_world (fun W => Keeps (fun _ => False) ve W ∧ Blk W ve.heap.size 73 ([(⟨6, 0, 0, ⟨#[]⟩, 0⟩ : CauseV)].flatMap causeCells)) ⟨(Keeps.refl _ ve).alloc _, Blk.new ve _ _⟩ ?_; rintro vf ⟨hkx, hbx⟩; have HKf := Lib.hid hkx; have HBf := Lib.hid hbx; clear hkx hbx)
        | ((with_reducible show wpList _ _ _ (⟨some 250, _, _, _, _, _⟩ :: _) _ _); clear th6; refine gen_world (fun W => Keeps (fun _ => False) vf W ∧ Blk W vf.heap.size 73 ([(⟨6, 0, 0, ⟨#[]⟩, 0⟩ : CauseV)].flatMap causeCells)) ⟨(Keeps.refl _ vf).alloc _, Blk.new vf _ _⟩ ?_; rintro vg ⟨hkx, hbx⟩; have HKg := Lib.hid hkx; have HBg := Lib.hid hbx; clear hkx hbx)
        | ((with_reducible show wpList _ _ _ (⟨some 254, _, _, _, _, _⟩ :: _) _ _); clear th7; refine gen_world (fun W => Keeps (fun _ => False) vg W ∧ Blk W vg.heap.size 73 ([(⟨1, 0, 0, ⟨#[]⟩, 0⟩ : CauseV)].flatMap causeCells)) ⟨(Keeps.refl _ vg).alloc _, Blk.new vg _ _⟩ ?_; rintro vh ⟨hkx, hbx⟩; have HKh := Lib.hid hkx; have HBh := Lib.hid hbx; clear hkx hbx)
        | ((with_reducible show wpList _ _ _ (⟨some 256, _, _, _, _, _⟩ :: _) _ _); clear th8; refine gen_world (fun W => Keeps (fun _ => False) vh W ∧ Blk W vh.heap.size 73 ([(⟨6, 0, 0, ⟨#[]⟩, 0⟩ : CauseV)].flatMap causeCells)) ⟨(Keeps.refl _ vh).alloc _, Blk.new vh _ _⟩ ?_; rintro vi ⟨hkx, hbx⟩; have HKi := Lib.hid hkx; have HBi := Lib.hid hbx; clear hkx hbx)
        | ((with_reducible show wpList _ _ _ (⟨some 260, _, _, _, _, _⟩ :: _) _ _); clear th9; refine gen_world (fun W => Keeps (fun _ => False) vi W ∧ Blk W vi.heap.size 73 ([(⟨7, 0, 0, ⟨#[]⟩, 0⟩ : CauseV)].flatMap causeCells)) ⟨(Keeps.refl _ vi).alloc _, Blk.new vi _ _⟩ ?_; rintro vj ⟨hkx, hbx⟩; have HKj := Lib.hid hkx; have HBj := Lib.hid hbx; clear hkx hbx)
        | ((with_reducible show wpList _ _ _ (⟨some 262, _, _, _, _, _⟩ :: _) _ _); clear th10; refine gen_world (fun W => Keeps (fun _ => False) vj W ∧ Blk W vj.heap.size 73 ([(⟨7, 0, 0, ⟨#[]⟩, 0⟩ : CauseV)].flatMap causeCells)) ⟨(Keeps.refl _ vj).alloc _, Blk.new vj _ _⟩ ?_; rintro vk ⟨hkx, hbx⟩; have HKk := Lib.hid hkx; have HBk := Lib.hid hbx; clear hkx hbx)
        | ((with_reducible show wpList _ _ _ (⟨some 269, _, _, _, _, _⟩ :: _) _ _); clear th11; refine gen_world (fun W => Keeps (fun _ => False) vk W ∧ Blk W vk.heap.size 79 ([.slice (some ⟨va.heap.size, 0, none⟩) 1 1, .slice (some ⟨vb.heap.size, 0, none⟩) 1 1, .bool true, .bool false, .slice (some ⟨vc.heap.size, 0, none⟩) 1 1, .slice (some ⟨vd.heap.size, 0, none⟩) 1 1, .bool false, .bool false, .slice (some ⟨ve.heap.size, 0, none⟩) 1 1, .slice (some ⟨vf.heap.size, 0, none⟩) 1 1, .bool true, .bool false, .slice (some ⟨vg.heap.size, 0, none⟩) 1 1, .slice (some ⟨vh.heap.size, 0, none⟩) 1 1, .bool false, .bool false, .slice (some ⟨vi.heap.size, 0, none⟩) 1 1, .slice (some ⟨vj.heap.size, 0, none⟩) 1 1, .bool false, .bool true, .slice (some ⟨b3, 0, none⟩) 2 2, .slice (some ⟨b3, 0, none⟩) 2 2, .bool false, .bool false])) ⟨(Keeps.refl _ vk).alloc _, Blk.new vk _ _⟩ ?_; rintro vl ⟨hkx, hbx⟩; have HKl := Lib.hid hkx; have HBl := Lib.hid hbx; clear hkx hbx))
      obtain ⟨gS, hgS⟩ : ∃ g, g = vk.heap.size := ⟨_, rfl⟩
      have HT : Hid (Tests2 gS vl) := Lib.hid (by
        have kk := HKl.out
        have kj := HKk.out.trans kk (fun _ _ h => h)
        have ki := HKj.out.trans kj (fun _ _ h => h)
        have kh := HKi.out.trans ki (fun _ _ h => h)
        have kg := HKh.out.trans kh (fun _ _ h => h)
        have kf := HKg.out.trans kg (fun _ _ h => h)
        have ke := HKf.out.trans kf (fun _ _ h => h)
        have kd := HKe.out.trans ke (fun _ _ h => h)
        have kc := HKd.out.trans kd (fun _ _ h => h)
        have kb := HKc.out.trans kc (fun _ _ h => h)
        have ka := HKb.out.trans kb (fun _ _ h => h)
        have hb := HBl.out
        rw [← hgS] at hb
        have s1 := causes_blk (cs := [kN7]) (kb.blk HBb.out (fun h => h))
        have s2 := causes_blk (cs := [kN7]) (kc.blk HBc.out (fun h => h))
        have s3 := causes_blk (cs := [(⟨3, 7, 3, ⟨#[]⟩, 0⟩ : CauseV)]) (kd.blk HBd.out (fun h => h))
        have s4 := causes_blk (cs := [kN7]) (ke.blk HBe.out (fun h => h))
        have s5 := causes_blk (cs := [(⟨6, 0, 0, ⟨#[]⟩, 0⟩ : CauseV)]) (kf.blk HBf.out (fun h => h))
        have s6 := causes_blk (cs := [(⟨6, 0, 0, ⟨#[]⟩, 0⟩ : CauseV)]) (kg.blk HBg.out (fun h => h))
        have s7 := causes_blk (cs := [(⟨1, 0, 0, ⟨#[]⟩, 0⟩ : CauseV)]) (kh.blk HBh.out (fun h => h))
        have s8 := causes_blk (cs := [(⟨6, 0, 0, ⟨#[]⟩, 0⟩ : CauseV)]) (ki.blk HBi.out (fun h => h))
        have s9 := causes_blk (cs := [(⟨7, 0, 0, ⟨#[]⟩, 0⟩ : CauseV)]) (kj.blk HBj.out (fun h => h))
        have s10 := causes_blk (cs := [(⟨7, 0, 0, ⟨#[]⟩, 0⟩ : CauseV)]) (kk.blk HBk.out (fun h => h))
        have s11 := causes_blk (cs := [kN7, kNote kX]) (ka.blk HBa.out (fun h => h))
        intro j hj
        rcases j with _ | _ | _ | _ | _ | _ | j
        · exact ⟨_, 1, 1, _, 1, 1, _, _, (true, false), hb.cell 0, hb.cell 1, hb.cell 2, hb.cell 3, rfl, rfl, s1, s2, (by simp [sameR, b_n7, VT.isAll, sameF]), (by simp [b_n7])⟩
        · exact ⟨_, 1, 1, _, 1, 1, _, _, (false, false), hb.cell 4, hb.cell 5, hb.cell 6, hb.cell 7, rfl, rfl, s3, s4, (by simp [sameR, b_n7, b_spot, VT.isAll, sameF]), (by simp [b_n7])⟩
        · exact ⟨_, 1, 1, _, 1, 1, _, _, (true, false), hb.cell 8, hb.cell 9, hb.cell 10, hb.cell 11, rfl, rfl, s5, s6, (by simp [sameR, b_gone, VT.isAll, sameF]), (by simp [b_gone])⟩
        · exact ⟨_, 1, 1, _, 1, 1, _, _, (false, false), hb.cell 12, hb.cell 13, hb.cell 14, hb.cell 15, rfl, rfl, s7, s8, (by simp [sameR, b_gone, b_nil, VT.isAll, sameF]), (by simp [b_gone])⟩
        · exact ⟨_, 1, 1, _, 1, 1, _, _, (false, true), hb.cell 16, hb.cell 17, hb.cell 18, hb.cell 19, rfl, rfl, s9, s10, (by simp [sameR, b_all0, VT.isAll]), (by simp [b_all0])⟩
        · exact ⟨_, 2, 2, _, 2, 2, _, _, (false, false), hb.cell 20, hb.cell 21, hb.cell 22, hb.cell 23, rfl, rfl, s11, s11, (by simp [sameR, b_n7x, VT.isAll, sameF]), (by simp [b_n7x])⟩
        · omega)
      have HIL : Hid (Keeps (fun _ => False) w vl ∧ Blk vl b3 73 ([kN7, kNote kX].flatMap causeCells)) := Lib.hid (by
        have ka := ((((((((((HKb.out.trans HKc.out (fun _ _ h => h)).trans HKd.out (fun _ _ h => h)).trans HKe.out (fun _ _ h => h)).trans HKf.out (fun _ _ h => h)).trans HKg.out (fun _ _ h => h)).trans HKh.out (fun _ _ h => h)).trans HKi.out (fun _ _ h => h)).trans HKj.out (fun _ _ h => h)).trans HKk.out (fun _ _ h => h)).trans HKl.out (fun _ _ h => h))
        exact ⟨HIa.out.keep.trans ka (fun _ _ h => h), ka.blk HBa.out (fun h => h)⟩)
      rw [← hgS]
      clear hgS HKb HKc HKd HKe HKf HKg HKh HKi HKj HKk HKl HBb HBc HBd HBe HBf HBg HBh HBi HBj HBk HBl HIa HBa c0 c1 c2 c3 c4
      go_wp2
      go_loopg [270] 6 (fun g2 i w3 => ∃ j, j ≤ 6 ∧ i = .int .i64 (j : Nat) ∧ g2 = 6 - j ∧ Hid (Keeps (fun _ => False) vl w3))
      case atStart => exact ⟨0, by omega, rfl, rfl, Lib.hid (Keeps.refl _ vl)⟩
      case round =>
        obtain ⟨j, hj, rfl, hg2, HA⟩ := hrel
        have HG2 := Lib.hid hg2
        clear hg2
        by_cases hlt : j < 6
        · obtain ⟨A1, n1, c1, A2, n2, c2, cs1, cs2, ⟨qa, qb⟩, q0, q1, q2, q3, hl1, hl2, hs1, hs2, hr1, hn0⟩ := HT.out.keep HA.out j hlt
          have HSM : Hid (∀ W, Keeps (fun _ => False) wr W → Calls Try.prog 12 #[.slice A1 n1 c1, .slice A2 n2 c2] W fun e w' => e = .returned (.tuple #[.agg #[.bool qa, .bool qb], .nilIface]) ∧ Keeps (fun _ => False) W w') := Lib.hid fun W hW =>
            (Same_any W A1 A2 n1 c1 n2 c2 cs1 cs2 hl1 (hs1.keep hW) hl2 (hs2.keep hW) hn0).mono fun e w' h => by
              rw [hr1] at h
              exact ⟨h.2, h.1⟩
          have q4 : (j : Int) < 6 := by omega
          simp only at q2 q3
          clear hl1 hs1 hl2 hs2 hr1 hn0
          go_wp2_with (go_at_call 12; refine (HSM.out _ ((Keeps.refl _ wr).alloc _)).mono ?_; rintro e w1 ⟨rfl, hk1⟩; have HK1 := Lib.hid hk1; have z2 := ((hk1.blk (Blk.new wr 79 [.slice A1 n1 c1, .slice A2 n2 c2, .bool qa, .bool qb]) (fun h => h)).alloc (.cells #[.bool qa, .bool qb] 51)).cell 2; have z3 := ((hk1.blk (Blk.new wr 79 [.slice A1 n1 c1, .slice A2 n2 c2, .bool qa, .bool qb]) (fun h => h)).alloc (.cells #[.bool qa, .bool qb] 51)).cell 3; clear hk1)
          go_roundg (6 - (j + 1))
          case measure => rw [HG2.out]; omega
          case rel => exact ⟨j + 1, by omega, by go_num, rfl, Lib.hid (HA.out.trans ((((Keeps.refl _ wr).alloc _).trans HK1.out (fun _ _ h => h)).alloc _) (fun _ _ h => h))⟩
        · obtain rfl : j = 6 := by omega
          have HIM : Hid (Keeps (fun _ => False) w wr ∧ Blk wr b3 73 ([kN7, kNote kX].flatMap causeCells)) := Lib.hid ⟨HIL.out.1.trans HA.out (fun _ _ h => h), HA.out.blk HIL.out.2 (fun h => h)⟩
          clear HIL HT HA HG2
          --39
          go_wp2_with (first
            | (go_at_call 14; clear tk5; refine (k_self _ b3 HIM.out.2).mono ?_; rintro e w5 ⟨rfl, hk5⟩; have HI5 := Lib.hid (HIM.out.1.trans hk5 (fun _ _ h => h)); have HB5 : Hid (Blk ((w5.alloc (.cells #[.bool true, .bool false] 51)).alloc (.cells ([(⟨7, 0, 0, ⟨#[]⟩, 0⟩ : CauseV)].flatMap causeCells).toArray 73)) (w5.heap.size + 1) 73 ([(⟨7, 0, 0, ⟨#[]⟩, 0⟩ : CauseV)].flatMap causeCells)) := Lib.hid (by have h1 := Blk.new (w5.alloc (.cells #[.bool true, .bool false] 51)) 73 ([(⟨7, 0, 0, ⟨#[]⟩, 0⟩ : CauseV)].flatMap causeCells); rw [World.size_alloc] at h1; exact h1); clear hk5)
            | (go_at_call 14; refine (k_self0 _ _ HB5.out).mono ?_; rintro e w6 ⟨rfl, hk6⟩; have HI6 := Lib.hid hk6; have hb6 := (hk6.blk ((Blk.new w5 51 [.bool true, .bool false]).alloc (.cells ([(⟨7, 0, 0, ⟨#[]⟩, 0⟩ : CauseV)].flatMap causeCells).toArray 73)) (fun h => h)).alloc (.cells #[.bool false, .bool true] 51); have y0 := hb6.cell 0; have y1 := hb6.cell 1; clear hk6 hb6))
          go_ret
          exact ⟨rfl, (HI5.out.trans ((((Keeps.refl _ w5).alloc _).alloc _).trans HI6.out (fun _ _ h => h)) (fun _ _ h => h)).alloc _⟩
end Go.Proofs.Ytinonjfnhedlpaa
