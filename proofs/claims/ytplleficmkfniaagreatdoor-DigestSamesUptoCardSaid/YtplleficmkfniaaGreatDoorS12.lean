/- Texts. -/
import Derived.Test.YtplleficmkfniaaGreatDoorS11
set_option linter.unusedSimpArgs false
set_option maxRecDepth 100000
set_option maxHeartbeats 4000000
namespace Go.Utf
end Go.Utf
namespace Go.Proofs.YtplleficmkfniaaGreatDoor
open Go Go.RowKit Go.Aff Go.Utf Go.Json
end Go.Proofs.YtplleficmkfniaaGreatDoor
