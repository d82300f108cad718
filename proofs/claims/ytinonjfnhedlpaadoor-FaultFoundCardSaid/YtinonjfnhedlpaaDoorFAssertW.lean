/-
  Assertions on errors: what each answers.
-/
import Derived.Test.YtinonjfnhedlpaaDoorFTree
import Derived.Test.YtinonjfnhedlpaaDoorProg
import Derived.Stop.Asserts
import Derived.RowKitTokens
set_option linter.unusedSimpArgs false
namespace Go.Proofs.YtinonjfnhedlpaaDoor
open Go Go.RowKit Go.Aff Go.Fault Go.Stop

theorem as_nil_num (w : World) : (Instr.typeAssert (.nilIface) 24 33 true).run Tryd.prog w = .ok (.tuple #[.int .i64 0, .bool false]) w := by kernel_rfl
theorem as_nil_spot (w : World) : (Instr.typeAssert (.nilIface) 24 40 true).run Tryd.prog w = .ok (.tuple #[.agg #[.int .i64 0, .int .i64 0], .bool false]) w := by kernel_rfl
theorem as_nil_trail (w : World) : (Instr.typeAssert (.nilIface) 24 42 true).run Tryd.prog w = .ok (.tuple #[.agg #[.int .i64 0, .string ⟨#[]⟩], .bool false]) w := by kernel_rfl
theorem as_nil_note (w : World) : (Instr.typeAssert (.nilIface) 24 43 true).run Tryd.prog w = .ok (.tuple #[.pointer none, .bool false]) w := by kernel_rfl
theorem as_nil_all (w : World) : (Instr.typeAssert (.nilIface) 24 45 true).run Tryd.prog w = .ok (.tuple #[.slice none 0 0, .bool false]) w := by kernel_rfl
theorem as_nil_placed (w : World) : (Instr.typeAssert (.nilIface) 24 104 true).run Tryd.prog w = .ok (.tuple #[.nilIface, .bool false]) w := by kernel_rfl
theorem as_nil_located (w : World) : (Instr.typeAssert (.nilIface) 24 108 true).run Tryd.prog w = .ok (.tuple #[.nilIface, .bool false]) w := by kernel_rfl
theorem as_nil_several (w : World) : (Instr.typeAssert (.nilIface) 24 101 true).run Tryd.prog w = .ok (.tuple #[.nilIface, .bool false]) w := by kernel_rfl
theorem as_nil_is (w : World) : (Instr.typeAssert (.nilIface) 24 115 true).run Tryd.prog w = .ok (.tuple #[.nilIface, .bool false]) w := by kernel_rfl
theorem as_nil_unw (w : World) : (Instr.typeAssert (.nilIface) 24 117 true).run Tryd.prog w = .ok (.tuple #[.nilIface, .bool false]) w := by kernel_rfl
theorem as_nil_unws (w : World) : (Instr.typeAssert (.nilIface) 24 118 true).run Tryd.prog w = .ok (.tuple #[.nilIface, .bool false]) w := by kernel_rfl
theorem as_num_num (v : Value) (w : World) : (Instr.typeAssert (.iface 33 v) 24 33 true).run Tryd.prog w = .ok (.tuple #[v, .bool true]) w := by kernel_rfl
theorem at_num_num (v : Value) (w : World) : (Instr.typeAssert (.iface 33 v) 24 33 false).run Tryd.prog w = .ok v w := by kernel_rfl
theorem as_num_spot (v : Value) (w : World) : (Instr.typeAssert (.iface 33 v) 24 40 true).run Tryd.prog w = .ok (.tuple #[.agg #[.int .i64 0, .int .i64 0], .bool false]) w := by kernel_rfl
theorem as_num_trail (v : Value) (w : World) : (Instr.typeAssert (.iface 33 v) 24 42 true).run Tryd.prog w = .ok (.tuple #[.agg #[.int .i64 0, .string ⟨#[]⟩], .bool false]) w := by kernel_rfl
theorem as_num_note (v : Value) (w : World) : (Instr.typeAssert (.iface 33 v) 24 43 true).run Tryd.prog w = .ok (.tuple #[.pointer none, .bool false]) w := by kernel_rfl
theorem as_num_all (v : Value) (w : World) : (Instr.typeAssert (.iface 33 v) 24 45 true).run Tryd.prog w = .ok (.tuple #[.slice none 0 0, .bool false]) w := by kernel_rfl
theorem as_num_placed (v : Value) (w : World) : (Instr.typeAssert (.iface 33 v) 24 104 true).run Tryd.prog w = .ok (.tuple #[.nilIface, .bool false]) w := run_typeAssert_lacksB Tryd.underlying104 (by kernel_rfl) (by kernel_rfl) v 24 w
theorem as_num_located (v : Value) (w : World) : (Instr.typeAssert (.iface 33 v) 24 108 true).run Tryd.prog w = .ok (.tuple #[.nilIface, .bool false]) w := run_typeAssert_lacksB Tryd.underlying108 (by kernel_rfl) (by kernel_rfl) v 24 w
theorem as_num_several (v : Value) (w : World) : (Instr.typeAssert (.iface 33 v) 24 101 true).run Tryd.prog w = .ok (.tuple #[.nilIface, .bool false]) w := run_typeAssert_lacksB Tryd.underlying101 (by kernel_rfl) (by kernel_rfl) v 24 w
theorem as_num_is (v : Value) (w : World) : (Instr.typeAssert (.iface 33 v) 24 115 true).run Tryd.prog w = .ok (.tuple #[.nilIface, .bool false]) w := run_typeAssert_lacksB Tryd.underlying115 (by kernel_rfl) (by kernel_rfl) v 24 w
theorem as_num_unw (v : Value) (w : World) : (Instr.typeAssert (.iface 33 v) 24 117 true).run Tryd.prog w = .ok (.tuple #[.nilIface, .bool false]) w := run_typeAssert_lacksB Tryd.underlying117 (by kernel_rfl) (by kernel_rfl) v 24 w
theorem as_num_unws (v : Value) (w : World) : (Instr.typeAssert (.iface 33 v) 24 118 true).run Tryd.prog w = .ok (.tuple #[.nilIface, .bool false]) w := run_typeAssert_lacksB Tryd.underlying118 (by kernel_rfl) (by kernel_rfl) v 24 w
theorem as_spot_num (v : Value) (w : World) : (Instr.typeAssert (.iface 40 v) 24 33 true).run Tryd.prog w = .ok (.tuple #[.int .i64 0, .bool false]) w := by kernel_rfl
theorem as_spot_spot (v : Value) (w : World) : (Instr.typeAssert (.iface 40 v) 24 40 true).run Tryd.prog w = .ok (.tuple #[v, .bool true]) w := by kernel_rfl
theorem at_spot_spot (v : Value) (w : World) : (Instr.typeAssert (.iface 40 v) 24 40 false).run Tryd.prog w = .ok v w := by kernel_rfl
theorem as_spot_trail (v : Value) (w : World) : (Instr.typeAssert (.iface 40 v) 24 42 true).run Tryd.prog w = .ok (.tuple #[.agg #[.int .i64 0, .string ⟨#[]⟩], .bool false]) w := by kernel_rfl
theorem as_spot_note (v : Value) (w : World) : (Instr.typeAssert (.iface 40 v) 24 43 true).run Tryd.prog w = .ok (.tuple #[.pointer none, .bool false]) w := by kernel_rfl
theorem as_spot_all (v : Value) (w : World) : (Instr.typeAssert (.iface 40 v) 24 45 true).run Tryd.prog w = .ok (.tuple #[.slice none 0 0, .bool false]) w := by kernel_rfl
theorem as_spot_placed (v : Value) (w : World) : (Instr.typeAssert (.iface 40 v) 24 104 true).run Tryd.prog w = .ok (.tuple #[.iface 40 v, .bool true]) w := run_typeAssert_hasB Tryd.underlying104 (by kernel_rfl) v 24 w
theorem as_spot_located (v : Value) (w : World) : (Instr.typeAssert (.iface 40 v) 24 108 true).run Tryd.prog w = .ok (.tuple #[.nilIface, .bool false]) w := run_typeAssert_lacksB Tryd.underlying108 (by kernel_rfl) (by kernel_rfl) v 24 w
theorem as_spot_several (v : Value) (w : World) : (Instr.typeAssert (.iface 40 v) 24 101 true).run Tryd.prog w = .ok (.tuple #[.nilIface, .bool false]) w := run_typeAssert_lacksB Tryd.underlying101 (by kernel_rfl) (by kernel_rfl) v 24 w
theorem as_spot_is (v : Value) (w : World) : (Instr.typeAssert (.iface 40 v) 24 115 true).run Tryd.prog w = .ok (.tuple #[.nilIface, .bool false]) w := run_typeAssert_lacksB Tryd.underlying115 (by kernel_rfl) (by kernel_rfl) v 24 w
theorem as_spot_unw (v : Value) (w : World) : (Instr.typeAssert (.iface 40 v) 24 117 true).run Tryd.prog w = .ok (.tuple #[.iface 40 v, .bool true]) w := run_typeAssert_hasB Tryd.underlying117 (by kernel_rfl) v 24 w
theorem as_spot_unws (v : Value) (w : World) : (Instr.typeAssert (.iface 40 v) 24 118 true).run Tryd.prog w = .ok (.tuple #[.nilIface, .bool false]) w := run_typeAssert_lacksB Tryd.underlying118 (by kernel_rfl) (by kernel_rfl) v 24 w
theorem as_trail_num (v : Value) (w : World) : (Instr.typeAssert (.iface 42 v) 24 33 true).run Tryd.prog w = .ok (.tuple #[.int .i64 0, .bool false]) w := by kernel_rfl
theorem as_trail_spot (v : Value) (w : World) : (Instr.typeAssert (.iface 42 v) 24 40 true).run Tryd.prog w = .ok (.tuple #[.agg #[.int .i64 0, .int .i64 0], .bool false]) w := by kernel_rfl
theorem as_trail_trail (v : Value) (w : World) : (Instr.typeAssert (.iface 42 v) 24 42 true).run Tryd.prog w = .ok (.tuple #[v, .bool true]) w := by kernel_rfl
theorem at_trail_trail (v : Value) (w : World) : (Instr.typeAssert (.iface 42 v) 24 42 false).run Tryd.prog w = .ok v w := by kernel_rfl
theorem as_trail_note (v : Value) (w : World) : (Instr.typeAssert (.iface 42 v) 24 43 true).run Tryd.prog w = .ok (.tuple #[.pointer none, .bool false]) w := by kernel_rfl
theorem as_trail_all (v : Value) (w : World) : (Instr.typeAssert (.iface 42 v) 24 45 true).run Tryd.prog w = .ok (.tuple #[.slice none 0 0, .bool false]) w := by kernel_rfl
theorem as_trail_placed (v : Value) (w : World) : (Instr.typeAssert (.iface 42 v) 24 104 true).run Tryd.prog w = .ok (.tuple #[.nilIface, .bool false]) w := run_typeAssert_lacksB Tryd.underlying104 (by kernel_rfl) (by kernel_rfl) v 24 w
theorem as_trail_located (v : Value) (w : World) : (Instr.typeAssert (.iface 42 v) 24 108 true).run Tryd.prog w = .ok (.tuple #[.iface 42 v, .bool true]) w := run_typeAssert_hasB Tryd.underlying108 (by kernel_rfl) v 24 w
theorem as_trail_several (v : Value) (w : World) : (Instr.typeAssert (.iface 42 v) 24 101 true).run Tryd.prog w = .ok (.tuple #[.nilIface, .bool false]) w := run_typeAssert_lacksB Tryd.underlying101 (by kernel_rfl) (by kernel_rfl) v 24 w
theorem as_trail_is (v : Value) (w : World) : (Instr.typeAssert (.iface 42 v) 24 115 true).run Tryd.prog w = .ok (.tuple #[.nilIface, .bool false]) w := run_typeAssert_lacksB Tryd.underlying115 (by kernel_rfl) (by kernel_rfl) v 24 w
theorem as_trail_unw (v : Value) (w : World) : (Instr.typeAssert (.iface 42 v) 24 117 true).run Tryd.prog w = .ok (.tuple #[.iface 42 v, .bool true]) w := run_typeAssert_hasB Tryd.underlying117 (by kernel_rfl) v 24 w
theorem as_trail_unws (v : Value) (w : World) : (Instr.typeAssert (.iface 42 v) 24 118 true).run Tryd.prog w = .ok (.tuple #[.nilIface, .bool false]) w := run_typeAssert_lacksB Tryd.underlying118 (by kernel_rfl) (by kernel_rfl) v 24 w
theorem as_note_num (v : Value) (w : World) : (Instr.typeAssert (.iface 43 v) 24 33 true).run Tryd.prog w = .ok (.tuple #[.int .i64 0, .bool false]) w := by kernel_rfl
theorem as_note_spot (v : Value) (w : World) : (Instr.typeAssert (.iface 43 v) 24 40 true).run Tryd.prog w = .ok (.tuple #[.agg #[.int .i64 0, .int .i64 0], .bool false]) w := by kernel_rfl
theorem as_note_trail (v : Value) (w : World) : (Instr.typeAssert (.iface 43 v) 24 42 true).run Tryd.prog w = .ok (.tuple #[.agg #[.int .i64 0, .string ⟨#[]⟩], .bool false]) w := by kernel_rfl
theorem as_note_note (v : Value) (w : World) : (Instr.typeAssert (.iface 43 v) 24 43 true).run Tryd.prog w = .ok (.tuple #[v, .bool true]) w := by kernel_rfl
theorem at_note_note (v : Value) (w : World) : (Instr.typeAssert (.iface 43 v) 24 43 false).run Tryd.prog w = .ok v w := by kernel_rfl
theorem as_note_all (v : Value) (w : World) : (Instr.typeAssert (.iface 43 v) 24 45 true).run Tryd.prog w = .ok (.tuple #[.slice none 0 0, .bool false]) w := by kernel_rfl
theorem as_note_placed (v : Value) (w : World) : (Instr.typeAssert (.iface 43 v) 24 104 true).run Tryd.prog w = .ok (.tuple #[.nilIface, .bool false]) w := run_typeAssert_lacksB Tryd.underlying104 (by kernel_rfl) (by kernel_rfl) v 24 w
theorem as_note_located (v : Value) (w : World) : (Instr.typeAssert (.iface 43 v) 24 108 true).run Tryd.prog w = .ok (.tuple #[.nilIface, .bool false]) w := run_typeAssert_lacksB Tryd.underlying108 (by kernel_rfl) (by kernel_rfl) v 24 w
theorem as_note_several (v : Value) (w : World) : (Instr.typeAssert (.iface 43 v) 24 101 true).run Tryd.prog w = .ok (.tuple #[.nilIface, .bool false]) w := run_typeAssert_lacksB Tryd.underlying101 (by kernel_rfl) (by kernel_rfl) v 24 w
theorem as_note_is (v : Value) (w : World) : (Instr.typeAssert (.iface 43 v) 24 115 true).run Tryd.prog w = .ok (.tuple #[.nilIface, .bool false]) w := run_typeAssert_lacksB Tryd.underlying115 (by kernel_rfl) (by kernel_rfl) v 24 w
theorem as_note_unw (v : Value) (w : World) : (Instr.typeAssert (.iface 43 v) 24 117 true).run Tryd.prog w = .ok (.tuple #[.iface 43 v, .bool true]) w := run_typeAssert_hasB Tryd.underlying117 (by kernel_rfl) v 24 w
theorem as_note_unws (v : Value) (w : World) : (Instr.typeAssert (.iface 43 v) 24 118 true).run Tryd.prog w = .ok (.tuple #[.nilIface, .bool false]) w := run_typeAssert_lacksB Tryd.underlying118 (by kernel_rfl) (by kernel_rfl) v 24 w
theorem as_all_num (v : Value) (w : World) : (Instr.typeAssert (.iface 45 v) 24 33 true).run Tryd.prog w = .ok (.tuple #[.int .i64 0, .bool false]) w := by kernel_rfl
theorem as_all_spot (v : Value) (w : World) : (Instr.typeAssert (.iface 45 v) 24 40 true).run Tryd.prog w = .ok (.tuple #[.agg #[.int .i64 0, .int .i64 0], .bool false]) w := by kernel_rfl
theorem as_all_trail (v : Value) (w : World) : (Instr.typeAssert (.iface 45 v) 24 42 true).run Tryd.prog w = .ok (.tuple #[.agg #[.int .i64 0, .string ⟨#[]⟩], .bool false]) w := by kernel_rfl
theorem as_all_note (v : Value) (w : World) : (Instr.typeAssert (.iface 45 v) 24 43 true).run Tryd.prog w = .ok (.tuple #[.pointer none, .bool false]) w := by kernel_rfl
theorem as_all_all (v : Value) (w : World) : (Instr.typeAssert (.iface 45 v) 24 45 true).run Tryd.prog w = .ok (.tuple #[v, .bool true]) w := by kernel_rfl
theorem at_all_all (v : Value) (w : World) : (Instr.typeAssert (.iface 45 v) 24 45 false).run Tryd.prog w = .ok v w := by kernel_rfl
theorem as_all_placed (v : Value) (w : World) : (Instr.typeAssert (.iface 45 v) 24 104 true).run Tryd.prog w = .ok (.tuple #[.nilIface, .bool false]) w := run_typeAssert_lacksB Tryd.underlying104 (by kernel_rfl) (by kernel_rfl) v 24 w
theorem as_all_located (v : Value) (w : World) : (Instr.typeAssert (.iface 45 v) 24 108 true).run Tryd.prog w = .ok (.tuple #[.nilIface, .bool false]) w := run_typeAssert_lacksB Tryd.underlying108 (by kernel_rfl) (by kernel_rfl) v 24 w
theorem as_all_several (v : Value) (w : World) : (Instr.typeAssert (.iface 45 v) 24 101 true).run Tryd.prog w = .ok (.tuple #[.iface 45 v, .bool true]) w := run_typeAssert_hasB Tryd.underlying101 (by kernel_rfl) v 24 w
theorem as_all_is (v : Value) (w : World) : (Instr.typeAssert (.iface 45 v) 24 115 true).run Tryd.prog w = .ok (.tuple #[.nilIface, .bool false]) w := run_typeAssert_lacksB Tryd.underlying115 (by kernel_rfl) (by kernel_rfl) v 24 w
theorem as_all_unw (v : Value) (w : World) : (Instr.typeAssert (.iface 45 v) 24 117 true).run Tryd.prog w = .ok (.tuple #[.nilIface, .bool false]) w := run_typeAssert_lacksB Tryd.underlying117 (by kernel_rfl) (by kernel_rfl) v 24 w
theorem as_all_unws (v : Value) (w : World) : (Instr.typeAssert (.iface 45 v) 24 118 true).run Tryd.prog w = .ok (.tuple #[.iface 45 v, .bool true]) w := run_typeAssert_hasB Tryd.underlying118 (by kernel_rfl) v 24 w
theorem eqn_nil (w : World) : (binOp .eql 24 .nilIface .nilIface).run Tryd.prog w = .ok (.bool true) w := by kernel_rfl
end Go.Proofs.YtinonjfnhedlpaaDoor
