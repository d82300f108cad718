/-
  Assertions on a tree's items and on errors: what each answers.
-/
import Derived.Test.YtdmcioghdindfaaGreatDoorNTree
import Derived.Stop.Asserts
set_option linter.unusedSimpArgs false
namespace Go.Proofs.YtdmcioghdindfaaGreatDoor
open Go Go.RowKit Go.Aff Go.Json
theorem as_null_null (v : Value) (w : World) : (Instr.typeAssert (.iface 166 v) 79 166 true).run Tryz.prog w = .ok (.tuple #[v, .bool true]) w := by kernel_rfl
theorem at_null_null (v : Value) (w : World) : (Instr.typeAssert (.iface 166 v) 79 166 false).run Tryz.prog w = .ok v w := by kernel_rfl
theorem as_null_flag (v : Value) (w : World) : (Instr.typeAssert (.iface 166 v) 79 167 true).run Tryz.prog w = .ok (.tuple #[.bool false, .bool false]) w := by kernel_rfl
theorem as_null_num (v : Value) (w : World) : (Instr.typeAssert (.iface 166 v) 79 172 true).run Tryz.prog w = .ok (.tuple #[.float .f64 0, .bool false]) w := by kernel_rfl
theorem as_null_text (v : Value) (w : World) : (Instr.typeAssert (.iface 166 v) 79 173 true).run Tryz.prog w = .ok (.tuple #[.string ⟨#[]⟩, .bool false]) w := by kernel_rfl
theorem as_null_list (v : Value) (w : World) : (Instr.typeAssert (.iface 166 v) 79 158 true).run Tryz.prog w = .ok (.tuple #[.pointer none, .bool false]) w := by kernel_rfl
theorem as_null_obj (v : Value) (w : World) : (Instr.typeAssert (.iface 166 v) 79 159 true).run Tryz.prog w = .ok (.tuple #[.pointer none, .bool false]) w := by kernel_rfl
theorem as_flag_null (v : Value) (w : World) : (Instr.typeAssert (.iface 167 v) 79 166 true).run Tryz.prog w = .ok (.tuple #[.agg #[], .bool false]) w := by kernel_rfl
theorem as_flag_flag (v : Value) (w : World) : (Instr.typeAssert (.iface 167 v) 79 167 true).run Tryz.prog w = .ok (.tuple #[v, .bool true]) w := by kernel_rfl
theorem at_flag_flag (v : Value) (w : World) : (Instr.typeAssert (.iface 167 v) 79 167 false).run Tryz.prog w = .ok v w := by kernel_rfl
theorem as_flag_num (v : Value) (w : World) : (Instr.typeAssert (.iface 167 v) 79 172 true).run Tryz.prog w = .ok (.tuple #[.float .f64 0, .bool false]) w := by kernel_rfl
theorem as_flag_text (v : Value) (w : World) : (Instr.typeAssert (.iface 167 v) 79 173 true).run Tryz.prog w = .ok (.tuple #[.string ⟨#[]⟩, .bool false]) w := by kernel_rfl
theorem as_flag_list (v : Value) (w : World) : (Instr.typeAssert (.iface 167 v) 79 158 true).run Tryz.prog w = .ok (.tuple #[.pointer none, .bool false]) w := by kernel_rfl
theorem as_flag_obj (v : Value) (w : World) : (Instr.typeAssert (.iface 167 v) 79 159 true).run Tryz.prog w = .ok (.tuple #[.pointer none, .bool false]) w := by kernel_rfl
theorem as_num_null (v : Value) (w : World) : (Instr.typeAssert (.iface 172 v) 79 166 true).run Tryz.prog w = .ok (.tuple #[.agg #[], .bool false]) w := by kernel_rfl
theorem as_num_flag (v : Value) (w : World) : (Instr.typeAssert (.iface 172 v) 79 167 true).run Tryz.prog w = .ok (.tuple #[.bool false, .bool false]) w := by kernel_rfl
theorem as_num_num (v : Value) (w : World) : (Instr.typeAssert (.iface 172 v) 79 172 true).run Tryz.prog w = .ok (.tuple #[v, .bool true]) w := by kernel_rfl
theorem at_num_num (v : Value) (w : World) : (Instr.typeAssert (.iface 172 v) 79 172 false).run Tryz.prog w = .ok v w := by kernel_rfl
theorem as_num_text (v : Value) (w : World) : (Instr.typeAssert (.iface 172 v) 79 173 true).run Tryz.prog w = .ok (.tuple #[.string ⟨#[]⟩, .bool false]) w := by kernel_rfl
theorem as_num_list (v : Value) (w : World) : (Instr.typeAssert (.iface 172 v) 79 158 true).run Tryz.prog w = .ok (.tuple #[.pointer none, .bool false]) w := by kernel_rfl
theorem as_num_obj (v : Value) (w : World) : (Instr.typeAssert (.iface 172 v) 79 159 true).run Tryz.prog w = .ok (.tuple #[.pointer none, .bool false]) w := by kernel_rfl
theorem as_text_null (v : Value) (w : World) : (Instr.typeAssert (.iface 173 v) 79 166 true).run Tryz.prog w = .ok (.tuple #[.agg #[], .bool false]) w := by kernel_rfl
theorem as_text_flag (v : Value) (w : World) : (Instr.typeAssert (.iface 173 v) 79 167 true).run Tryz.prog w = .ok (.tuple #[.bool false, .bool false]) w := by kernel_rfl
theorem as_text_num (v : Value) (w : World) : (Instr.typeAssert (.iface 173 v) 79 172 true).run Tryz.prog w = .ok (.tuple #[.float .f64 0, .bool false]) w := by kernel_rfl
theorem as_text_text (v : Value) (w : World) : (Instr.typeAssert (.iface 173 v) 79 173 true).run Tryz.prog w = .ok (.tuple #[v, .bool true]) w := by kernel_rfl
theorem at_text_text (v : Value) (w : World) : (Instr.typeAssert (.iface 173 v) 79 173 false).run Tryz.prog w = .ok v w := by kernel_rfl
theorem as_text_list (v : Value) (w : World) : (Instr.typeAssert (.iface 173 v) 79 158 true).run Tryz.prog w = .ok (.tuple #[.pointer none, .bool false]) w := by kernel_rfl
theorem as_text_obj (v : Value) (w : World) : (Instr.typeAssert (.iface 173 v) 79 159 true).run Tryz.prog w = .ok (.tuple #[.pointer none, .bool false]) w := by kernel_rfl
theorem as_list_null (v : Value) (w : World) : (Instr.typeAssert (.iface 158 v) 79 166 true).run Tryz.prog w = .ok (.tuple #[.agg #[], .bool false]) w := by kernel_rfl
theorem as_list_flag (v : Value) (w : World) : (Instr.typeAssert (.iface 158 v) 79 167 true).run Tryz.prog w = .ok (.tuple #[.bool false, .bool false]) w := by kernel_rfl
theorem as_list_num (v : Value) (w : World) : (Instr.typeAssert (.iface 158 v) 79 172 true).run Tryz.prog w = .ok (.tuple #[.float .f64 0, .bool false]) w := by kernel_rfl
theorem as_list_text (v : Value) (w : World) : (Instr.typeAssert (.iface 158 v) 79 173 true).run Tryz.prog w = .ok (.tuple #[.string ⟨#[]⟩, .bool false]) w := by kernel_rfl
theorem as_list_list (v : Value) (w : World) : (Instr.typeAssert (.iface 158 v) 79 158 true).run Tryz.prog w = .ok (.tuple #[v, .bool true]) w := by kernel_rfl
theorem at_list_list (v : Value) (w : World) : (Instr.typeAssert (.iface 158 v) 79 158 false).run Tryz.prog w = .ok v w := by kernel_rfl
theorem as_list_obj (v : Value) (w : World) : (Instr.typeAssert (.iface 158 v) 79 159 true).run Tryz.prog w = .ok (.tuple #[.pointer none, .bool false]) w := by kernel_rfl
theorem as_obj_null (v : Value) (w : World) : (Instr.typeAssert (.iface 159 v) 79 166 true).run Tryz.prog w = .ok (.tuple #[.agg #[], .bool false]) w := by kernel_rfl
theorem as_obj_flag (v : Value) (w : World) : (Instr.typeAssert (.iface 159 v) 79 167 true).run Tryz.prog w = .ok (.tuple #[.bool false, .bool false]) w := by kernel_rfl
theorem as_obj_num (v : Value) (w : World) : (Instr.typeAssert (.iface 159 v) 79 172 true).run Tryz.prog w = .ok (.tuple #[.float .f64 0, .bool false]) w := by kernel_rfl
theorem as_obj_text (v : Value) (w : World) : (Instr.typeAssert (.iface 159 v) 79 173 true).run Tryz.prog w = .ok (.tuple #[.string ⟨#[]⟩, .bool false]) w := by kernel_rfl
theorem as_obj_list (v : Value) (w : World) : (Instr.typeAssert (.iface 159 v) 79 158 true).run Tryz.prog w = .ok (.tuple #[.pointer none, .bool false]) w := by kernel_rfl
theorem as_obj_obj (v : Value) (w : World) : (Instr.typeAssert (.iface 159 v) 79 159 true).run Tryz.prog w = .ok (.tuple #[v, .bool true]) w := by kernel_rfl
theorem at_obj_obj (v : Value) (w : World) : (Instr.typeAssert (.iface 159 v) 79 159 false).run Tryz.prog w = .ok v w := by kernel_rfl
theorem as_nil_null (w : World) : (Instr.typeAssert .nilIface 79 166 true).run Tryz.prog w = .ok (.tuple #[.agg #[], .bool false]) w := by kernel_rfl
theorem as_nil_flag (w : World) : (Instr.typeAssert .nilIface 79 167 true).run Tryz.prog w = .ok (.tuple #[.bool false, .bool false]) w := by kernel_rfl
theorem as_nil_num (w : World) : (Instr.typeAssert .nilIface 79 172 true).run Tryz.prog w = .ok (.tuple #[.float .f64 0, .bool false]) w := by kernel_rfl
theorem as_nil_text (w : World) : (Instr.typeAssert .nilIface 79 173 true).run Tryz.prog w = .ok (.tuple #[.string ⟨#[]⟩, .bool false]) w := by kernel_rfl
theorem as_nil_list (w : World) : (Instr.typeAssert .nilIface 79 158 true).run Tryz.prog w = .ok (.tuple #[.pointer none, .bool false]) w := by kernel_rfl
theorem as_nil_obj (w : World) : (Instr.typeAssert .nilIface 79 159 true).run Tryz.prog w = .ok (.tuple #[.pointer none, .bool false]) w := by kernel_rfl
theorem as_errno_errno (v : Value) (w : World) : (Instr.typeAssert (.iface 42 v) 35 42 true).run Tryz.prog w = .ok (.tuple #[v, .bool true]) w := by kernel_rfl
theorem at_errno_errno (v : Value) (w : World) : (Instr.typeAssert (.iface 42 v) 35 42 false).run Tryz.prog w = .ok v w := by kernel_rfl
theorem as_errno_spot (v : Value) (w : World) : (Instr.typeAssert (.iface 42 v) 35 103 true).run Tryz.prog w = .ok (.tuple #[.agg #[.int .i64 0, .int .i64 0], .bool false]) w := by kernel_rfl
theorem as_errno_trail (v : Value) (w : World) : (Instr.typeAssert (.iface 42 v) 35 117 true).run Tryz.prog w = .ok (.tuple #[.agg #[.int .i64 0, .string ⟨#[]⟩], .bool false]) w := by kernel_rfl
theorem as_spot_errno (v : Value) (w : World) : (Instr.typeAssert (.iface 103 v) 35 42 true).run Tryz.prog w = .ok (.tuple #[.int .i64 0, .bool false]) w := by kernel_rfl
theorem as_spot_spot (v : Value) (w : World) : (Instr.typeAssert (.iface 103 v) 35 103 true).run Tryz.prog w = .ok (.tuple #[v, .bool true]) w := by kernel_rfl
theorem at_spot_spot (v : Value) (w : World) : (Instr.typeAssert (.iface 103 v) 35 103 false).run Tryz.prog w = .ok v w := by kernel_rfl
theorem as_spot_trail (v : Value) (w : World) : (Instr.typeAssert (.iface 103 v) 35 117 true).run Tryz.prog w = .ok (.tuple #[.agg #[.int .i64 0, .string ⟨#[]⟩], .bool false]) w := by kernel_rfl
theorem as_trail_errno (v : Value) (w : World) : (Instr.typeAssert (.iface 117 v) 35 42 true).run Tryz.prog w = .ok (.tuple #[.int .i64 0, .bool false]) w := by kernel_rfl
theorem as_trail_spot (v : Value) (w : World) : (Instr.typeAssert (.iface 117 v) 35 103 true).run Tryz.prog w = .ok (.tuple #[.agg #[.int .i64 0, .int .i64 0], .bool false]) w := by kernel_rfl
theorem as_trail_trail (v : Value) (w : World) : (Instr.typeAssert (.iface 117 v) 35 117 true).run Tryz.prog w = .ok (.tuple #[v, .bool true]) w := by kernel_rfl
theorem at_trail_trail (v : Value) (w : World) : (Instr.typeAssert (.iface 117 v) 35 117 false).run Tryz.prog w = .ok v w := by kernel_rfl
theorem as_nil_errno (w : World) : (Instr.typeAssert .nilIface 35 42 true).run Tryz.prog w = .ok (.tuple #[.int .i64 0, .bool false]) w := by kernel_rfl
theorem as_nil_spot (w : World) : (Instr.typeAssert .nilIface 35 103 true).run Tryz.prog w = .ok (.tuple #[.agg #[.int .i64 0, .int .i64 0], .bool false]) w := by kernel_rfl
theorem as_nil_trail (w : World) : (Instr.typeAssert .nilIface 35 117 true).run Tryz.prog w = .ok (.tuple #[.agg #[.int .i64 0, .string ⟨#[]⟩], .bool false]) w := by kernel_rfl
theorem rec_errno (v : Value) (w : World) : (Instr.typeAssert (.iface 42 v) 20 42 false).run Tryz.prog w = .ok v w := by kernel_rfl
end Go.Proofs.YtdmcioghdindfaaGreatDoor
