/- Texts. -/
import Derived.Test.YtplleficmkfniaaGreatDoorS20
set_option linter.unusedSimpArgs false
set_option maxRecDepth 100000
set_option maxHeartbeats 4000000
namespace Go.Proofs.YtplleficmkfniaaGreatDoor
open Go Go.RowKit Go.Aff Go.Json
section
variable {w0 w w5 w8 : World} {A : Option Addr} {m c l n b p : Nat} {css : List (List Value)} {P : List JV} {SV VV : List Value} {A8 : Option Addr} {c8 : Nat}
end
end Go.Proofs.YtplleficmkfniaaGreatDoor
