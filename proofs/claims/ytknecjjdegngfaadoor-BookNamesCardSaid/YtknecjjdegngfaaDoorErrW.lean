/-
  An api.Errno as an error.
-/
import Derived.Test.YtknecjjdegngfaaDoorEqW
namespace Go.Proofs.YtknecjjdegngfaaDoor
open Go Go.RowKit Go.Sha Go.Aff

/-- An api.Errno as an error. -/
abbrev errno (n : Int) : Value := .iface 45 (.int .i64 n)
theorem as_errno (v : Value) (w : World) : (Instr.typeAssert (.iface 45 v) 38 45 true).run Tryd.prog w = .ok (.tuple #[v, .bool true]) w := by kernel_rfl
end Go.Proofs.YtknecjjdegngfaaDoor
