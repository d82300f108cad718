/-
  == of two errors: what it tells, and where it panics. Plain laws on the program's types.
-/
import Derived.Test.YtinonjfnhedlpaaFAssertW
import Derived.LaidEql
import Derived.LaidEqlPtr
import Derived.Stop.Asserts
import Derived.Laws.StructEq
set_option linter.unusedSimpArgs false
namespace Go.Fault
open Go Go.RowKit Go.Aff
def VT.isAll : VT → Bool
  | .all _ _ _ => true
  | _ => false
theorem VT.isAll_erase (t : VT) : t.erase.isAll = t.isAll := by cases t <;> simp [VT.erase, VT.isAll]
/-- == of two errors that are not lists both. -/
def eqV : VT → VT → Bool
  | .nil, .nil => true
  | .num n, .num m => n == m
  | .spot n a, .spot m b => n == m && a == b
  | .trail n s, .trail m u => n == m && s == u
  | .gone, .gone => true
  | .note b _ _, .note c _ _ => b == c
  | _, _ => false
end Go.Fault
namespace Go.Proofs.Ytinonjfnhedlpaa
open Go Go.RowKit Go.Aff Go.Fault
section
variable (w : World)
theorem eq_num (k n : Int) : (binOp .eql 25 (.iface 32 (.int .i64 k)) (.iface 32 (.int .i64 n))).run Try.prog w = .ok (.bool (k == n)) w := by
  obtain ⟨i, hi, hcmp⟩ := Option.map_eq_some_iff.1 (show (Try.prog.info? 32).map (·.comparable) = some true by kernel_rfl)
  have h : ∀ d : Nat, (Op.equalIn (d + 2) 25 (.iface 32 (.int .i64 k)) (.iface 32 (.int .i64 n))).run Try.prog w = .ok (k == n) w := fun d => by
    simp [Op.equalIn, run_underlying Try.underlying25, run_underlying Try.underlying32, typeInfo, hi, hcmp]
  simp only [binOp]
  simp [Op.equal, Op.maxDepth, h 9998]
theorem eq_iface (tp : TypeId) (x y : Value) (hc : (Try.prog.info? tp).map (·.comparable) = some true) : (binOp .eql 25 (.iface tp x) (.iface tp y)).run Try.prog w = ((Op.equalIn 9999 tp x y).run Try.prog w).andThen fun b w' => .ok (.bool b) w' := by
  obtain ⟨i, hi, hcmp⟩ := Option.map_eq_some_iff.1 hc
  have h : (Op.equalIn (9999 + 1) 25 (.iface tp x) (.iface tp y)).run Try.prog w = (Op.equalIn 9999 tp x y).run Try.prog w := by
    rw [Op.equalIn]
    simp [run_underlying Try.underlying25, typeInfo, hi, hcmp]
  simp only [binOp]
  simp [Op.equal, Op.maxDepth, h]
set_option maxRecDepth 100000 in
theorem eq_spot (n a m b : Int) : (binOp .eql 25 (.iface 62 (.agg #[.int .i64 n, .int .i64 a])) (.iface 62 (.agg #[.int .i64 m, .int .i64 b]))).run Try.prog w = .ok (.bool (n == m && a == b)) w := by
  rw [eq_iface w _ _ _ (by kernel_rfl)]
  have hS : Try.prog.underlying 62 = some (.struct (Try.prog.fieldsOf 62)) := by kernel_rfl
  have u1 := Try.underlying32
  have u2 := Try.underlying3
  rw [show (9999 : Nat) = 9998 + 1 from rfl, run_equalIn_agg w 9998 62 _ _ hS (by kernel_rfl)]
  simp only [Program.fieldsOf, Try.underlying62]
  go_simp
  by_cases h1 : n = m <;> by_cases h2 : a = b <;> simp [h1, h2]
set_option maxRecDepth 100000 in
theorem eq_trail (n m : Int) (s u : ByteArray) : (binOp .eql 25 (.iface 64 (.agg #[.int .i64 n, .string s])) (.iface 64 (.agg #[.int .i64 m, .string u]))).run Try.prog w = .ok (.bool (n == m && s == u)) w := by
  rw [eq_iface w _ _ _ (by kernel_rfl)]
  have hS : Try.prog.underlying 64 = some (.struct (Try.prog.fieldsOf 64)) := by kernel_rfl
  have u1 := Try.underlying32
  have u2 := Try.underlying9
  rw [show (9999 : Nat) = 9998 + 1 from rfl, run_equalIn_agg w 9998 64 _ _ hS (by kernel_rfl)]
  simp only [Program.fieldsOf, Try.underlying64]
  rw [beq_toListBytes s u]
  go_simp
  by_cases h1 : n = m
  · subst h1
    by_cases h2 : s.toList = u.toList <;> simp [h2]
  · simp [h1]
theorem eq_note_nn : (binOp .eql 25 (.iface 87 (.pointer none)) (.iface 87 (.pointer none))).run Try.prog w = .ok (.bool true) w := by kernel_rfl
theorem eq_note_np (b : Addr) : (binOp .eql 25 (.iface 87 (.pointer none)) (.iface 87 (.pointer (some b)))).run Try.prog w = .ok (.bool false) w := by kernel_rfl
theorem eq_note_pn (b : Addr) : (binOp .eql 25 (.iface 87 (.pointer (some b))) (.iface 87 (.pointer none))).run Try.prog w = .ok (.bool false) w := by kernel_rfl
theorem eq_note (b c : Nat) (cs ds : List Value) (hb : Blk w b 90 cs) (hc : Blk w c 90 ds) : (binOp .eql 25 (.iface 87 (.pointer (some ⟨b, 0, none⟩))) (.iface 87 (.pointer (some ⟨c, 0, none⟩)))).run Try.prog w = .ok (.bool (b == c)) w := by
  obtain ⟨i, hi, hcmp⟩ := Option.map_eq_some_iff.1 (show (Try.prog.info? 87).map (·.comparable) = some true by kernel_rfl)
  obtain ⟨j, hj, hsz⟩ := Option.map_eq_some_iff.1 (show (Try.prog.info? 90).map (·.size) = some 2 by kernel_rfl)
  by_cases h : b = c
  · subst h
    rw [run_eql_iface_ptr_same w _ Try.underlying25 Try.underlying87 hi hcmp hj]
    simp
  · rw [run_eql_iface_ptr_other (a := ⟨b, 0, none⟩) (b := ⟨c, 0, none⟩) w Try.underlying25 Try.underlying87 hi hcmp hj (by omega) (by simp [h]) hb hc]
    simp [h]
theorem eq_all (x y : Value) : ∃ u pv, (binOp .eql 25 (.iface 68 x) (.iface 68 y)).run Try.prog w = .halt (.panic (.iface u pv)) w := by
  obtain ⟨i, hi, hcmp⟩ := Option.map_eq_some_iff.1 (show (Try.prog.info? 68).map (fun i => (i.comparable, i.str.isEmpty)) = some (false, false) by kernel_rfl)
  simp only [Prod.mk.injEq] at hcmp
  have hst : Try.prog.holdsPacked Try.prog.depth 68 = false := by kernel_rfl
  have h : ∀ d : Nat, (Op.equalIn (d + 2) 25 (.iface 68 x) (.iface 68 y)).run Try.prog w = .halt (.panic (.iface Try.prog.rt.errorString (strVal ("comparing uncomparable type " ++ i.str)))) w := fun d => by
    simp [Op.equalIn, run_underlying Try.underlying25, typeInfo, hi, hcmp, hst, typeStr, runtimePanic]
    intro e
    have := hcmp.2
    rw [e] at this
    cases this
  refine ⟨Try.prog.rt.errorString, strVal ("comparing uncomparable type " ++ i.str), ?_⟩
  simp only [binOp]
  simp [Op.equal, Op.maxDepth, h 9998]
theorem eq_nil_iface (tp : TypeId) (x : Value) : (binOp .eql 25 .nilIface (.iface tp x)).run Try.prog w = .ok (.bool false) w := run_eql_iface_nil_left w tp x Try.underlying25
theorem eq_iface_nil (tp : TypeId) (x : Value) : (binOp .eql 25 (.iface tp x) .nilIface).run Try.prog w = .ok (.bool false) w := by
  have h : ∀ d : Nat, (Op.equalIn (d + 1) 25 (.iface tp x) .nilIface).run Try.prog w = .ok false w := fun d => by simp [Op.equalIn, run_underlying Try.underlying25]
  simp only [binOp]
  simp [Op.equal, Op.maxDepth, h 9999]
/-- == of two errors that are not lists both. -/
theorem eq_any {D E : Nat → Prop} (t u : VT) (ht : At D w t) (hu : At E w u) (h : (t.isAll && u.isAll) = false) : (binOp .eql 25 (vv t) (vv u)).run Try.prog w = .ok (.bool (eqV t u)) w := by
  cases t with
  | nil => cases u with
    | nil => exact eqn_nil w
    | _ => exact eq_nil_iface w _ _
  | num n => cases u with
    | num m => exact eq_num w n m
    | nil => exact eq_iface_nil w _ _
    | _ => exact run_eql_iface_types _ _ _ _ Try.underlying25 (by decide) w
  | spot n a => cases u with
    | spot m b => exact eq_spot w n a m b
    | nil => exact eq_iface_nil w _ _
    | _ => exact run_eql_iface_types _ _ _ _ Try.underlying25 (by decide) w
  | trail n s => cases u with
    | trail m s' => exact eq_trail w n m s s'
    | nil => exact eq_iface_nil w _ _
    | _ => exact run_eql_iface_types _ _ _ _ Try.underlying25 (by decide) w
  | gone => cases u with
    | gone => exact eq_note_nn w
    | note b wd e => exact eq_note_np w _
    | nil => exact eq_iface_nil w _ _
    | _ => exact run_eql_iface_types _ _ _ _ Try.underlying25 (by decide) w
  | note b wd e => cases u with
    | gone => exact eq_note_pn w _
    | note c wd2 e2 =>
      simp only [At] at ht hu
      exact eq_note w b c _ _ ht.2.1 hu.2.1
    | nil => exact eq_iface_nil w _ _
    | _ => exact run_eql_iface_types _ _ _ _ Try.underlying25 (by decide) w
  | all A c l => cases u with
    | all A2 c2 l2 => simp [VT.isAll] at h
    | nil => exact eq_iface_nil w _ _
    | _ => exact run_eql_iface_types _ _ _ _ Try.underlying25 (by decide) w
theorem eq_both (t u : VT) (h : (t.isAll && u.isAll) = true) : ∃ p pv, (binOp .eql 25 (vv t) (vv u)).run Try.prog w = .halt (.panic (.iface p pv)) w := by
  cases t with
  | all A c l => cases u with
    | all A2 c2 l2 => exact eq_all w _ _
    | _ => simp [VT.isAll] at h
  | _ => simp [VT.isAll] at h
end
end Go.Proofs.Ytinonjfnhedlpaa
