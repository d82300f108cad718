/-
  WALKS: tells of nil, of a Spot; errors.Is of a Spot.
-/
import Derived.Test.YtknecjjdegngfaaDoorFold2W
import Derived.LaidEql
import Derived.Stop.Asserts
import Derived.RowKitTokens
set_option linter.unusedSimpArgs false
namespace Go.Proofs.YtknecjjdegngfaaDoor
open Go Go.RowKit Go.Sha Go.Aff Go.Book Go.Extern Go.Extern.Stop Go.Stop
theorem isTypeOf (v : Value) (w : World) : (Extern.ReflectliteType.typeOf #[.iface 45 v]).run Tryd.prog w = .ok (.iface 134 (.agg #[.pointer (some ⟨2, 45, none⟩)])) w := by kernel_rfl
theorem isComparable (w : World) : ((Extern.ReflectliteType.method fun t => do Extern.Rtype.noPackHeld "Comparable" t; pure (.bool (← typeInfo t).comparable)) #[.agg #[.pointer (some ⟨2, 45, none⟩)]]).run Tryd.prog w = .ok (.bool true) w := by kernel_rfl
theorem isMethodComparable (v : Value) (w : World) : (Go.method 185 134 v "Comparable").run Tryd.prog w = .ok (123, v) w := by kernel_rfl
theorem noIsS (v : Value) (xT : TypeId) (w : World) : (Instr.typeAssert (.iface 79 v) xT 136 true).run Tryd.prog w = .ok (.tuple #[.nilIface, .bool false]) w := run_typeAssert_lacksB Tryd.underlying136 (by kernel_rfl) (by kernel_rfl) v xT w
theorem hasUnwrapS (v : Value) (xT : TypeId) (w : World) : (Instr.typeAssert (.iface 79 v) xT 139 true).run Tryd.prog w = .ok (.tuple #[.iface 79 v, .bool true]) w := run_typeAssert_hasB Tryd.underlying139 (by kernel_rfl) v xT w
theorem methodUnwrapS (v : Value) (w : World) : (Go.method 185 79 v "Unwrap").run Tryd.prog w = .ok (118, v) w := by kernel_rfl
theorem eql_errno (k : Int) (w : World) : (binOp .eql 38 (.iface 45 (.int .i64 k)) (.iface 45 (.int .i64 k))).run Tryd.prog w = .ok (.bool true) w := by
  obtain ⟨i, hi, hcmp⟩ := Option.map_eq_some_iff.1 (show (Tryd.prog.info? 45).map (·.comparable) = some true by kernel_rfl)
  have h : ∀ d : Nat, (Op.equalIn (d + 2) 38 (.iface 45 (.int .i64 k)) (.iface 45 (.int .i64 k))).run Tryd.prog w = .ok true w := fun d => by
    simp [Op.equalIn, run_underlying Tryd.underlying38, run_underlying Tryd.underlying45, typeInfo, hi, hcmp]
  simp only [binOp]
  simp [Op.equal, Op.maxDepth, h 9998]
set_option maxRecDepth 100000 in
set_option maxHeartbeats 4000000 in
theorem is_spot (k i : Int) (w : World) :
    Calls Tryd.prog 47 #[.iface 79 (.agg #[.int .i64 k, .int .i64 i]), .iface 45 (.int .i64 k)] w fun e w' => e = .returned (.bool true) ∧ Keeps (fun _ => False) w w' := by
  have h8 := @run_callFunc_extern Tryd.prog 79 _ Extern.ReflectliteType.typeOf Tryd.func79 (by kernel_rfl) (by kernel_rfl) (by kernel_rfl) (by kernel_rfl)
  have h32 : ∀ w, (callFunc 123 #[.agg #[.pointer (some ⟨2, 45, none⟩)]]).run Tryd.prog w = .ok (.value (.bool true)) w := fun w => by
    rw [@run_callFunc_extern Tryd.prog 123 _ (Extern.ReflectliteType.method fun t => do Extern.Rtype.noPackHeld "Comparable" t; pure (.bool (← typeInfo t).comparable)) Tryd.func123 (by kernel_rfl) (by kernel_rfl) (by kernel_rfl) (by kernel_rfl), isComparable]
    rfl
  have tT := isTypeOf
  have mR := isMethodComparable
  have nE := noIsS
  have uE := hasUnwrapS
  have mU := methodUnwrapS
  have heq := eql_errno k
  have hty := run_eql_iface_types (P := Tryd.prog) 79 45 (.agg #[.int .i64 k, .int .i64 i]) (.int .i64 k) Tryd.underlying38 (by decide)
  go_enter Tryd.func47, Tryd.ntmps47
  go_wp2
  refine wp_loop_rounds 2 ?_
  rw [rounds_succ]
  go_wp2
  rw [rounds_succ]
  go_wp2
  go_ret
  exact ⟨rfl, (Keeps.refl _ w).alloc _⟩

theorem as_errno_nil (w : World) : (Instr.typeAssert .nilIface 38 45 true).run Tryd.prog w = .ok (.tuple #[.int .i64 0, .bool false]) w := by kernel_rfl
theorem as_spot_nil (w : World) : (Instr.typeAssert .nilIface 38 79 true).run Tryd.prog w = .ok (.tuple #[.agg #[.int .i64 0, .int .i64 0], .bool false]) w := by kernel_rfl
theorem as_errno_spot (v : Value) (w : World) : (Instr.typeAssert (.iface 79 v) 38 45 true).run Tryd.prog w = .ok (.tuple #[.int .i64 0, .bool false]) w := by kernel_rfl
theorem as_spot (v : Value) (w : World) : (Instr.typeAssert (.iface 79 v) 38 79 true).run Tryd.prog w = .ok (.tuple #[v, .bool true]) w := by kernel_rfl
set_option maxRecDepth 100000 in
set_option maxHeartbeats 4000000 in
/-- No error. -/
theorem tells_nil (w : World) (i : Int) : Calls Tryd.prog 22 #[.nilIface, .int .i64 0, .int .i64 i] w fun e w' => e = .returned (.bool true) ∧ Keeps (fun _ => False) w w' := by
  have h1 := as_errno_nil
  have h2 := as_spot_nil
  go_enter Tryd.func22, Tryd.ntmps22
  go_wp2
  go_ret
  exact ⟨rfl, (Keeps.refl _ w).alloc _⟩
set_option maxRecDepth 100000 in
set_option maxHeartbeats 4000000 in
/-- A number with a place. -/
theorem tells_spot (w : World) (k i : Int) (hk : (k == 0) = false) (hi : ¬ i < 0) : Calls Tryd.prog 22 #[spotV k i, .int .i64 k, .int .i64 i] w fun e w' => e = .returned (.bool true) ∧ Keeps (fun _ => False) w w' := by
  have h1 := as_errno_spot
  have h2 := as_spot
  have HS := Lib.hid (is_spot k i)
  go_enter Tryd.func22, Tryd.ntmps22
  go_wp2_with (go_at_call 47; refine (HS.out _).mono ?_; rintro e w6 ⟨rfl, hk6⟩)
  go_ret
  exact ⟨rfl, ((Keeps.refl _ w).alloc _).trans hk6 (fun _ _ h => h)⟩
set_option maxRecDepth 100000 in
set_option maxHeartbeats 4000000 in
/-- A nil error is not a long one's number. -/
theorem tells_not (w : World) (k i : Int) (hk : (k == 0) = false) (hi : i < 0) : Calls Tryd.prog 22 #[.nilIface, .int .i64 k, .int .i64 i] w fun e w' => e = .returned (.bool false) ∧ Keeps (fun _ => False) w w' := by
  have h1 := as_errno_nil
  have h2 := as_spot_nil
  go_enter Tryd.func22, Tryd.ntmps22
  go_wp2
  go_ret
  exact ⟨rfl, (Keeps.refl _ w).alloc _⟩
end Go.Proofs.YtknecjjdegngfaaDoor
