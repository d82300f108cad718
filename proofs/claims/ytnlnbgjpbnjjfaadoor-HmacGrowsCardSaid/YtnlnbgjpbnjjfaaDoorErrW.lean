/-
  An api.Errno as an error.
-/
import Derived.Test.YtnlnbgjpbnjjfaaDoorEqW
namespace Go.Proofs.YtnlnbgjpbnjjfaaDoor
open Go Go.RowKit Go.Sha Go.Aff

/-- An api.Errno as an error. -/
abbrev errno (n : Int) : Value := .iface 31 (.int .i64 n)
theorem as_errno (v : Value) (w : World) : (Instr.typeAssert (.iface 31 v) 26 31 true).run Tryd.prog w = .ok (.tuple #[v, .bool true]) w := by kernel_rfl
end Go.Proofs.YtnlnbgjpbnjjfaaDoor
