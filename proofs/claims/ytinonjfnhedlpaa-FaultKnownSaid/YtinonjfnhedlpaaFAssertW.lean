/-
  Assertions on errors: what each answers.
-/
import Derived.Test.YtinonjfnhedlpaaFTree
import Derived.Test.YtinonjfnhedlpaaProg
import Derived.Stop.Asserts
import Derived.RowKitTokens
set_option linter.unusedSimpArgs false
namespace Go.Proofs.Ytinonjfnhedlpaa
open Go Go.RowKit Go.Aff Go.Fault Go.Stop

theorem as_nil_num (w : World) : (Instr.typeAssert (.nilIface) 25 32 true).run Try.prog w = .ok (.tuple #[.int .i64 0, .bool false]) w := by kernel_rfl
theorem as_nil_spot (w : World) : (Instr.typeAssert (.nilIface) 25 62 true).run Try.prog w = .ok (.tuple #[.agg #[.int .i64 0, .int .i64 0], .bool false]) w := by kernel_rfl
theorem as_nil_trail (w : World) : (Instr.typeAssert (.nilIface) 25 64 true).run Try.prog w = .ok (.tuple #[.agg #[.int .i64 0, .string ⟨#[]⟩], .bool false]) w := by kernel_rfl
theorem as_nil_note (w : World) : (Instr.typeAssert (.nilIface) 25 87 true).run Try.prog w = .ok (.tuple #[.pointer none, .bool false]) w := by kernel_rfl
theorem as_nil_all (w : World) : (Instr.typeAssert (.nilIface) 25 68 true).run Try.prog w = .ok (.tuple #[.slice none 0 0, .bool false]) w := by kernel_rfl
theorem as_nil_placed (w : World) : (Instr.typeAssert (.nilIface) 25 36 true).run Try.prog w = .ok (.tuple #[.nilIface, .bool false]) w := by kernel_rfl
theorem as_nil_located (w : World) : (Instr.typeAssert (.nilIface) 25 39 true).run Try.prog w = .ok (.tuple #[.nilIface, .bool false]) w := by kernel_rfl
theorem as_nil_several (w : World) : (Instr.typeAssert (.nilIface) 25 42 true).run Try.prog w = .ok (.tuple #[.nilIface, .bool false]) w := by kernel_rfl
theorem as_nil_is (w : World) : (Instr.typeAssert (.nilIface) 25 111 true).run Try.prog w = .ok (.tuple #[.nilIface, .bool false]) w := by kernel_rfl
theorem as_nil_unw (w : World) : (Instr.typeAssert (.nilIface) 25 113 true).run Try.prog w = .ok (.tuple #[.nilIface, .bool false]) w := by kernel_rfl
theorem as_nil_unws (w : World) : (Instr.typeAssert (.nilIface) 25 114 true).run Try.prog w = .ok (.tuple #[.nilIface, .bool false]) w := by kernel_rfl
theorem as_num_num (v : Value) (w : World) : (Instr.typeAssert (.iface 32 v) 25 32 true).run Try.prog w = .ok (.tuple #[v, .bool true]) w := by kernel_rfl
theorem at_num_num (v : Value) (w : World) : (Instr.typeAssert (.iface 32 v) 25 32 false).run Try.prog w = .ok v w := by kernel_rfl
theorem as_num_spot (v : Value) (w : World) : (Instr.typeAssert (.iface 32 v) 25 62 true).run Try.prog w = .ok (.tuple #[.agg #[.int .i64 0, .int .i64 0], .bool false]) w := by kernel_rfl
theorem as_num_trail (v : Value) (w : World) : (Instr.typeAssert (.iface 32 v) 25 64 true).run Try.prog w = .ok (.tuple #[.agg #[.int .i64 0, .string ⟨#[]⟩], .bool false]) w := by kernel_rfl
theorem as_num_note (v : Value) (w : World) : (Instr.typeAssert (.iface 32 v) 25 87 true).run Try.prog w = .ok (.tuple #[.pointer none, .bool false]) w := by kernel_rfl
theorem as_num_all (v : Value) (w : World) : (Instr.typeAssert (.iface 32 v) 25 68 true).run Try.prog w = .ok (.tuple #[.slice none 0 0, .bool false]) w := by kernel_rfl
theorem as_num_placed (v : Value) (w : World) : (Instr.typeAssert (.iface 32 v) 25 36 true).run Try.prog w = .ok (.tuple #[.nilIface, .bool false]) w := run_typeAssert_lacksB Try.underlying36 (by kernel_rfl) (by kernel_rfl) v 25 w
theorem as_num_located (v : Value) (w : World) : (Instr.typeAssert (.iface 32 v) 25 39 true).run Try.prog w = .ok (.tuple #[.nilIface, .bool false]) w := run_typeAssert_lacksB Try.underlying39 (by kernel_rfl) (by kernel_rfl) v 25 w
theorem as_num_several (v : Value) (w : World) : (Instr.typeAssert (.iface 32 v) 25 42 true).run Try.prog w = .ok (.tuple #[.nilIface, .bool false]) w := run_typeAssert_lacksB Try.underlying42 (by kernel_rfl) (by kernel_rfl) v 25 w
theorem as_num_is (v : Value) (w : World) : (Instr.typeAssert (.iface 32 v) 25 111 true).run Try.prog w = .ok (.tuple #[.nilIface, .bool false]) w := run_typeAssert_lacksB Try.underlying111 (by kernel_rfl) (by kernel_rfl) v 25 w
theorem as_num_unw (v : Value) (w : World) : (Instr.typeAssert (.iface 32 v) 25 113 true).run Try.prog w = .ok (.tuple #[.nilIface, .bool false]) w := run_typeAssert_lacksB Try.underlying113 (by kernel_rfl) (by kernel_rfl) v 25 w
theorem as_num_unws (v : Value) (w : World) : (Instr.typeAssert (.iface 32 v) 25 114 true).run Try.prog w = .ok (.tuple #[.nilIface, .bool false]) w := run_typeAssert_lacksB Try.underlying114 (by kernel_rfl) (by kernel_rfl) v 25 w
theorem as_spot_num (v : Value) (w : World) : (Instr.typeAssert (.iface 62 v) 25 32 true).run Try.prog w = .ok (.tuple #[.int .i64 0, .bool false]) w := by kernel_rfl
theorem as_spot_spot (v : Value) (w : World) : (Instr.typeAssert (.iface 62 v) 25 62 true).run Try.prog w = .ok (.tuple #[v, .bool true]) w := by kernel_rfl
theorem at_spot_spot (v : Value) (w : World) : (Instr.typeAssert (.iface 62 v) 25 62 false).run Try.prog w = .ok v w := by kernel_rfl
theorem as_spot_trail (v : Value) (w : World) : (Instr.typeAssert (.iface 62 v) 25 64 true).run Try.prog w = .ok (.tuple #[.agg #[.int .i64 0, .string ⟨#[]⟩], .bool false]) w := by kernel_rfl
theorem as_spot_note (v : Value) (w : World) : (Instr.typeAssert (.iface 62 v) 25 87 true).run Try.prog w = .ok (.tuple #[.pointer none, .bool false]) w := by kernel_rfl
theorem as_spot_all (v : Value) (w : World) : (Instr.typeAssert (.iface 62 v) 25 68 true).run Try.prog w = .ok (.tuple #[.slice none 0 0, .bool false]) w := by kernel_rfl
theorem as_spot_placed (v : Value) (w : World) : (Instr.typeAssert (.iface 62 v) 25 36 true).run Try.prog w = .ok (.tuple #[.iface 62 v, .bool true]) w := run_typeAssert_hasB Try.underlying36 (by kernel_rfl) v 25 w
theorem as_spot_located (v : Value) (w : World) : (Instr.typeAssert (.iface 62 v) 25 39 true).run Try.prog w = .ok (.tuple #[.nilIface, .bool false]) w := run_typeAssert_lacksB Try.underlying39 (by kernel_rfl) (by kernel_rfl) v 25 w
theorem as_spot_several (v : Value) (w : World) : (Instr.typeAssert (.iface 62 v) 25 42 true).run Try.prog w = .ok (.tuple #[.nilIface, .bool false]) w := run_typeAssert_lacksB Try.underlying42 (by kernel_rfl) (by kernel_rfl) v 25 w
theorem as_spot_is (v : Value) (w : World) : (Instr.typeAssert (.iface 62 v) 25 111 true).run Try.prog w = .ok (.tuple #[.nilIface, .bool false]) w := run_typeAssert_lacksB Try.underlying111 (by kernel_rfl) (by kernel_rfl) v 25 w
theorem as_spot_unw (v : Value) (w : World) : (Instr.typeAssert (.iface 62 v) 25 113 true).run Try.prog w = .ok (.tuple #[.iface 62 v, .bool true]) w := run_typeAssert_hasB Try.underlying113 (by kernel_rfl) v 25 w
theorem as_spot_unws (v : Value) (w : World) : (Instr.typeAssert (.iface 62 v) 25 114 true).run Try.prog w = .ok (.tuple #[.nilIface, .bool false]) w := run_typeAssert_lacksB Try.underlying114 (by kernel_rfl) (by kernel_rfl) v 25 w
theorem as_trail_num (v : Value) (w : World) : (Instr.typeAssert (.iface 64 v) 25 32 true).run Try.prog w = .ok (.tuple #[.int .i64 0, .bool false]) w := by kernel_rfl
theorem as_trail_spot (v : Value) (w : World) : (Instr.typeAssert (.iface 64 v) 25 62 true).run Try.prog w = .ok (.tuple #[.agg #[.int .i64 0, .int .i64 0], .bool false]) w := by kernel_rfl
theorem as_trail_trail (v : Value) (w : World) : (Instr.typeAssert (.iface 64 v) 25 64 true).run Try.prog w = .ok (.tuple #[v, .bool true]) w := by kernel_rfl
theorem at_trail_trail (v : Value) (w : World) : (Instr.typeAssert (.iface 64 v) 25 64 false).run Try.prog w = .ok v w := by kernel_rfl
theorem as_trail_note (v : Value) (w : World) : (Instr.typeAssert (.iface 64 v) 25 87 true).run Try.prog w = .ok (.tuple #[.pointer none, .bool false]) w := by kernel_rfl
theorem as_trail_all (v : Value) (w : World) : (Instr.typeAssert (.iface 64 v) 25 68 true).run Try.prog w = .ok (.tuple #[.slice none 0 0, .bool false]) w := by kernel_rfl
theorem as_trail_placed (v : Value) (w : World) : (Instr.typeAssert (.iface 64 v) 25 36 true).run Try.prog w = .ok (.tuple #[.nilIface, .bool false]) w := run_typeAssert_lacksB Try.underlying36 (by kernel_rfl) (by kernel_rfl) v 25 w
theorem as_trail_located (v : Value) (w : World) : (Instr.typeAssert (.iface 64 v) 25 39 true).run Try.prog w = .ok (.tuple #[.iface 64 v, .bool true]) w := run_typeAssert_hasB Try.underlying39 (by kernel_rfl) v 25 w
theorem as_trail_several (v : Value) (w : World) : (Instr.typeAssert (.iface 64 v) 25 42 true).run Try.prog w = .ok (.tuple #[.nilIface, .bool false]) w := run_typeAssert_lacksB Try.underlying42 (by kernel_rfl) (by kernel_rfl) v 25 w
theorem as_trail_is (v : Value) (w : World) : (Instr.typeAssert (.iface 64 v) 25 111 true).run Try.prog w = .ok (.tuple #[.nilIface, .bool false]) w := run_typeAssert_lacksB Try.underlying111 (by kernel_rfl) (by kernel_rfl) v 25 w
theorem as_trail_unw (v : Value) (w : World) : (Instr.typeAssert (.iface 64 v) 25 113 true).run Try.prog w = .ok (.tuple #[.iface 64 v, .bool true]) w := run_typeAssert_hasB Try.underlying113 (by kernel_rfl) v 25 w
theorem as_trail_unws (v : Value) (w : World) : (Instr.typeAssert (.iface 64 v) 25 114 true).run Try.prog w = .ok (.tuple #[.nilIface, .bool false]) w := run_typeAssert_lacksB Try.underlying114 (by kernel_rfl) (by kernel_rfl) v 25 w
theorem as_note_num (v : Value) (w : World) : (Instr.typeAssert (.iface 87 v) 25 32 true).run Try.prog w = .ok (.tuple #[.int .i64 0, .bool false]) w := by kernel_rfl
theorem as_note_spot (v : Value) (w : World) : (Instr.typeAssert (.iface 87 v) 25 62 true).run Try.prog w = .ok (.tuple #[.agg #[.int .i64 0, .int .i64 0], .bool false]) w := by kernel_rfl
theorem as_note_trail (v : Value) (w : World) : (Instr.typeAssert (.iface 87 v) 25 64 true).run Try.prog w = .ok (.tuple #[.agg #[.int .i64 0, .string ⟨#[]⟩], .bool false]) w := by kernel_rfl
theorem as_note_note (v : Value) (w : World) : (Instr.typeAssert (.iface 87 v) 25 87 true).run Try.prog w = .ok (.tuple #[v, .bool true]) w := by kernel_rfl
theorem at_note_note (v : Value) (w : World) : (Instr.typeAssert (.iface 87 v) 25 87 false).run Try.prog w = .ok v w := by kernel_rfl
theorem as_note_all (v : Value) (w : World) : (Instr.typeAssert (.iface 87 v) 25 68 true).run Try.prog w = .ok (.tuple #[.slice none 0 0, .bool false]) w := by kernel_rfl
theorem as_note_placed (v : Value) (w : World) : (Instr.typeAssert (.iface 87 v) 25 36 true).run Try.prog w = .ok (.tuple #[.nilIface, .bool false]) w := run_typeAssert_lacksB Try.underlying36 (by kernel_rfl) (by kernel_rfl) v 25 w
theorem as_note_located (v : Value) (w : World) : (Instr.typeAssert (.iface 87 v) 25 39 true).run Try.prog w = .ok (.tuple #[.nilIface, .bool false]) w := run_typeAssert_lacksB Try.underlying39 (by kernel_rfl) (by kernel_rfl) v 25 w
theorem as_note_several (v : Value) (w : World) : (Instr.typeAssert (.iface 87 v) 25 42 true).run Try.prog w = .ok (.tuple #[.nilIface, .bool false]) w := run_typeAssert_lacksB Try.underlying42 (by kernel_rfl) (by kernel_rfl) v 25 w
theorem as_note_is (v : Value) (w : World) : (Instr.typeAssert (.iface 87 v) 25 111 true).run Try.prog w = .ok (.tuple #[.nilIface, .bool false]) w := run_typeAssert_lacksB Try.underlying111 (by kernel_rfl) (by kernel_rfl) v 25 w
theorem as_note_unw (v : Value) (w : World) : (Instr.typeAssert (.iface 87 v) 25 113 true).run Try.prog w = .ok (.tuple #[.iface 87 v, .bool true]) w := run_typeAssert_hasB Try.underlying113 (by kernel_rfl) v 25 w
theorem as_note_unws (v : Value) (w : World) : (Instr.typeAssert (.iface 87 v) 25 114 true).run Try.prog w = .ok (.tuple #[.nilIface, .bool false]) w := run_typeAssert_lacksB Try.underlying114 (by kernel_rfl) (by kernel_rfl) v 25 w
theorem as_all_num (v : Value) (w : World) : (Instr.typeAssert (.iface 68 v) 25 32 true).run Try.prog w = .ok (.tuple #[.int .i64 0, .bool false]) w := by kernel_rfl
theorem as_all_spot (v : Value) (w : World) : (Instr.typeAssert (.iface 68 v) 25 62 true).run Try.prog w = .ok (.tuple #[.agg #[.int .i64 0, .int .i64 0], .bool false]) w := by kernel_rfl
theorem as_all_trail (v : Value) (w : World) : (Instr.typeAssert (.iface 68 v) 25 64 true).run Try.prog w = .ok (.tuple #[.agg #[.int .i64 0, .string ⟨#[]⟩], .bool false]) w := by kernel_rfl
theorem as_all_note (v : Value) (w : World) : (Instr.typeAssert (.iface 68 v) 25 87 true).run Try.prog w = .ok (.tuple #[.pointer none, .bool false]) w := by kernel_rfl
theorem as_all_all (v : Value) (w : World) : (Instr.typeAssert (.iface 68 v) 25 68 true).run Try.prog w = .ok (.tuple #[v, .bool true]) w := by kernel_rfl
theorem at_all_all (v : Value) (w : World) : (Instr.typeAssert (.iface 68 v) 25 68 false).run Try.prog w = .ok v w := by kernel_rfl
theorem as_all_placed (v : Value) (w : World) : (Instr.typeAssert (.iface 68 v) 25 36 true).run Try.prog w = .ok (.tuple #[.nilIface, .bool false]) w := run_typeAssert_lacksB Try.underlying36 (by kernel_rfl) (by kernel_rfl) v 25 w
theorem as_all_located (v : Value) (w : World) : (Instr.typeAssert (.iface 68 v) 25 39 true).run Try.prog w = .ok (.tuple #[.nilIface, .bool false]) w := run_typeAssert_lacksB Try.underlying39 (by kernel_rfl) (by kernel_rfl) v 25 w
theorem as_all_several (v : Value) (w : World) : (Instr.typeAssert (.iface 68 v) 25 42 true).run Try.prog w = .ok (.tuple #[.iface 68 v, .bool true]) w := run_typeAssert_hasB Try.underlying42 (by kernel_rfl) v 25 w
theorem as_all_is (v : Value) (w : World) : (Instr.typeAssert (.iface 68 v) 25 111 true).run Try.prog w = .ok (.tuple #[.nilIface, .bool false]) w := run_typeAssert_lacksB Try.underlying111 (by kernel_rfl) (by kernel_rfl) v 25 w
theorem as_all_unw (v : Value) (w : World) : (Instr.typeAssert (.iface 68 v) 25 113 true).run Try.prog w = .ok (.tuple #[.nilIface, .bool false]) w := run_typeAssert_lacksB Try.underlying113 (by kernel_rfl) (by kernel_rfl) v 25 w
theorem as_all_unws (v : Value) (w : World) : (Instr.typeAssert (.iface 68 v) 25 114 true).run Try.prog w = .ok (.tuple #[.iface 68 v, .bool true]) w := run_typeAssert_hasB Try.underlying114 (by kernel_rfl) v 25 w
theorem eqn_nil (w : World) : (binOp .eql 25 .nilIface .nilIface).run Try.prog w = .ok (.bool true) w := by kernel_rfl
end Go.Proofs.Ytinonjfnhedlpaa
