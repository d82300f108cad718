/-
  NARROWER THAN 'FOR EVERY INPUT', by the rows' own cells (each row's printed sentence says how): ShaOrder: laid · ShaPads: laid · ShaRound: laid · ShaPieces: laid · ShaFresh: laid · ShaFolds: laid · ShaTaken: laid · ShaSums: laid · ShaKnown: laid · ShaPlays: laid.
  DERIVED. THE GIVEN ROWS OF THIS SEAT. 10 by the template 'for every input the law returns true; each argument reads behind the call as it read before'; 0 by the template 'total and deterministic' (their statements: YtgblndddcbfdiaaDoorTotals.lean).
  GIVEN WITH THE SEED: the statements are not yours to turn. If you find one false, say at which input.
  Laid BY PROGRAM, IN A SANDBOX (cutbox-rows.mjs): the forced cells as the released guide's own fill.sh prints them over the translation 807df322ef8f612e… (all of the seat's roots in one cut). By AI agents, Wed Nov 11 2026. No macro, syntax, notation, axiom, sorry.
-/
import Derived.Test.YtgblndddcbfdiaaDoorChecked
import GoSem.Claim
import GoSem.ClaimJoined
import GoSem.ClaimMapViews
import Derived.JoinedTies
import Derived.KernelRfl
namespace Go.Proofs.YtgblndddcbfdiaaDoor
/- THE CELL 'sum', in the pinned program and in every row, IS THE sha256 OF THE DUMP (.gsa) THAT YtgblndddcbfdiaaDoorProg.lean LOADS. Nothing in Lean hashes anything: it is a label: what it is worth is what the hold of that sum in a sandbox is worth. -/
noncomputable def Tryd.pinned : Pinned := { name := "ytgblndddcbfdiaadoor", sum := "807df322ef8f612e544e92e69e0f1df36efd95280baea4e772b1e0b80bcd895d", checked := Tryd.checked }
namespace Rows
def none {H : Type} : Left H := { results := [], args := [] }

/- WHAT THE LISTED PACKAGE-LEVEL VARIABLES READ AS WHEN THE CALL BEGINS. Each datum BY PROGRAM (the guide's laid-datum.mjs) off the statement by which the dump's own 'gosem.cut.vars' lays the variable. In a bare row this is a premise. The card (YtgblndddcbfdiaaDoorCards.lean) ties it to the program's text. -/
def laid_affidavit_sha_first {H : Type} : DataW H := .agg [.lit (.int .u32 1779033703), .lit (.int .u32 3144134277), .lit (.int .u32 1013904242), .lit (.int .u32 2773480762), .lit (.int .u32 1359893119), .lit (.int .u32 2600822924), .lit (.int .u32 528734635), .lit (.int .u32 1541459225)]
def laid_affidavit_sha_constants {H : Type} : DataW H := .agg [.lit (.int .u32 1116352408), .lit (.int .u32 1899447441), .lit (.int .u32 3049323471), .lit (.int .u32 3921009573), .lit (.int .u32 961987163), .lit (.int .u32 1508970993), .lit (.int .u32 2453635748), .lit (.int .u32 2870763221), .lit (.int .u32 3624381080), .lit (.int .u32 310598401), .lit (.int .u32 607225278), .lit (.int .u32 1426881987), .lit (.int .u32 1925078388), .lit (.int .u32 2162078206), .lit (.int .u32 2614888103), .lit (.int .u32 3248222580), .lit (.int .u32 3835390401), .lit (.int .u32 4022224774), .lit (.int .u32 264347078), .lit (.int .u32 604807628), .lit (.int .u32 770255983), .lit (.int .u32 1249150122), .lit (.int .u32 1555081692), .lit (.int .u32 1996064986), .lit (.int .u32 2554220882), .lit (.int .u32 2821834349), .lit (.int .u32 2952996808), .lit (.int .u32 3210313671), .lit (.int .u32 3336571891), .lit (.int .u32 3584528711), .lit (.int .u32 113926993), .lit (.int .u32 338241895), .lit (.int .u32 666307205), .lit (.int .u32 773529912), .lit (.int .u32 1294757372), .lit (.int .u32 1396182291), .lit (.int .u32 1695183700), .lit (.int .u32 1986661051), .lit (.int .u32 2177026350), .lit (.int .u32 2456956037), .lit (.int .u32 2730485921), .lit (.int .u32 2820302411), .lit (.int .u32 3259730800), .lit (.int .u32 3345764771), .lit (.int .u32 3516065817), .lit (.int .u32 3600352804), .lit (.int .u32 4094571909), .lit (.int .u32 275423344), .lit (.int .u32 430227734), .lit (.int .u32 506948616), .lit (.int .u32 659060556), .lit (.int .u32 883997877), .lit (.int .u32 958139571), .lit (.int .u32 1322822218), .lit (.int .u32 1537002063), .lit (.int .u32 1747873779), .lit (.int .u32 1955562222), .lit (.int .u32 2024104815), .lit (.int .u32 2227730452), .lit (.int .u32 2361852424), .lit (.int .u32 2428436474), .lit (.int .u32 2756734187), .lit (.int .u32 3204031479), .lit (.int .u32 3329325298)]

/-- 'affidavitlaw02.ShaOrder': WHATEVER THE INPUT: true; the input reads as it did. -/
def shaOrderSpec : ChangeSpec := { name := "shaOrder", fn := fun _ => fun
  | [d1, d2, d3] => { results := [.lit (.bool true)], args := [d1, d2, d3] }
  | _ => none }
def shaOrderRow : OpenClaim := { program := "ytgblndddcbfdiaadoor", sum := "807df322ef8f612e544e92e69e0f1df36efd95280baea4e772b1e0b80bcd895d", func := "affidavit/affidavitlaw02.ShaOrder", spec := "shaOrder", inPlace := ["internal/bytealg.Compare"], named := ["affidavit/sha.first", "affidavit/sha.constants"], apart := false, laid := [("affidavit/sha.first", laid_affidavit_sha_first), ("affidavit/sha.constants", laid_affidavit_sha_constants)] }
def ShaOrderSaid : Prop := shaOrderRow.holds Tryd.pinned (OpenSpec.ofChange shaOrderSpec)

/-- ITS FALSE NEIGHBOUR: 'it returns false'. Refute it at one input. -/
def shaOrderWrong : ChangeSpec := { name := "shaOrder", fn := fun _ => fun
  | [d1, d2, d3] => { results := [.lit (.bool false)], args := [d1, d2, d3] }
  | _ => none }
def ShaOrderWrongFalsely : Prop := shaOrderRow.holds Tryd.pinned (OpenSpec.ofChange shaOrderWrong)

/-- 'affidavitlaw02.ShaPads': WHATEVER THE INPUT: true; the input reads as it did. -/
def shaPadsSpec : ChangeSpec := { name := "shaPads", fn := fun _ => fun
  | [d] => { results := [.lit (.bool true)], args := [d] }
  | _ => none }
def shaPadsRow : OpenClaim := { program := "ytgblndddcbfdiaadoor", sum := "807df322ef8f612e544e92e69e0f1df36efd95280baea4e772b1e0b80bcd895d", func := "affidavit/affidavitlaw02.ShaPads", spec := "shaPads", named := ["affidavit/sha.first", "affidavit/sha.constants"], apart := false, laid := [("affidavit/sha.first", laid_affidavit_sha_first), ("affidavit/sha.constants", laid_affidavit_sha_constants)] }
def ShaPadsSaid : Prop := shaPadsRow.holds Tryd.pinned (OpenSpec.ofChange shaPadsSpec)

/-- ITS FALSE NEIGHBOUR: 'it returns false'. Refute it at one input. -/
def shaPadsWrong : ChangeSpec := { name := "shaPads", fn := fun _ => fun
  | [d] => { results := [.lit (.bool false)], args := [d] }
  | _ => none }
def ShaPadsWrongFalsely : Prop := shaPadsRow.holds Tryd.pinned (OpenSpec.ofChange shaPadsWrong)

/-- 'affidavitlaw02.ShaRound': WHATEVER THE INPUT: true; the input reads as it did. -/
def shaRoundSpec : ChangeSpec := { name := "shaRound", fn := fun _ => fun
  | [d1, d2] => { results := [.lit (.bool true)], args := [d1, d2] }
  | _ => none }
def shaRoundRow : OpenClaim := { program := "ytgblndddcbfdiaadoor", sum := "807df322ef8f612e544e92e69e0f1df36efd95280baea4e772b1e0b80bcd895d", func := "affidavit/affidavitlaw02.ShaRound", spec := "shaRound", named := ["affidavit/sha.constants", "affidavit/sha.first"], apart := false, laid := [("affidavit/sha.first", laid_affidavit_sha_first), ("affidavit/sha.constants", laid_affidavit_sha_constants)] }
def ShaRoundSaid : Prop := shaRoundRow.holds Tryd.pinned (OpenSpec.ofChange shaRoundSpec)

/-- ITS FALSE NEIGHBOUR: 'it returns false'. Refute it at one input. -/
def shaRoundWrong : ChangeSpec := { name := "shaRound", fn := fun _ => fun
  | [d1, d2] => { results := [.lit (.bool false)], args := [d1, d2] }
  | _ => none }
def ShaRoundWrongFalsely : Prop := shaRoundRow.holds Tryd.pinned (OpenSpec.ofChange shaRoundWrong)

/-- 'affidavitlaw02.ShaPieces': WHATEVER THE INPUT: true; the input reads as it did. -/
def shaPiecesSpec : ChangeSpec := { name := "shaPieces", fn := fun _ => fun
  | [d1, d2, d3] => { results := [.lit (.bool true)], args := [d1, d2, d3] }
  | _ => none }
def shaPiecesRow : OpenClaim := { program := "ytgblndddcbfdiaadoor", sum := "807df322ef8f612e544e92e69e0f1df36efd95280baea4e772b1e0b80bcd895d", func := "affidavit/affidavitlaw02.ShaPieces", spec := "shaPieces", named := ["affidavit/sha.first", "affidavit/sha.constants"], apart := false, laid := [("affidavit/sha.first", laid_affidavit_sha_first), ("affidavit/sha.constants", laid_affidavit_sha_constants)] }
def ShaPiecesSaid : Prop := shaPiecesRow.holds Tryd.pinned (OpenSpec.ofChange shaPiecesSpec)

/-- ITS FALSE NEIGHBOUR: 'it returns false'. Refute it at one input. -/
def shaPiecesWrong : ChangeSpec := { name := "shaPieces", fn := fun _ => fun
  | [d1, d2, d3] => { results := [.lit (.bool false)], args := [d1, d2, d3] }
  | _ => none }
def ShaPiecesWrongFalsely : Prop := shaPiecesRow.holds Tryd.pinned (OpenSpec.ofChange shaPiecesWrong)

/-- 'affidavitlaw02.ShaFresh': WHATEVER THE INPUT: true; the input reads as it did. -/
def shaFreshSpec : ChangeSpec := { name := "shaFresh", fn := fun _ => fun
  | [d1, d2] => { results := [.lit (.bool true)], args := [d1, d2] }
  | _ => none }
def shaFreshRow : OpenClaim := { program := "ytgblndddcbfdiaadoor", sum := "807df322ef8f612e544e92e69e0f1df36efd95280baea4e772b1e0b80bcd895d", func := "affidavit/affidavitlaw02.ShaFresh", spec := "shaFresh", named := ["affidavit/sha.first", "affidavit/sha.constants"], apart := false, laid := [("affidavit/sha.first", laid_affidavit_sha_first), ("affidavit/sha.constants", laid_affidavit_sha_constants)] }
def ShaFreshSaid : Prop := shaFreshRow.holds Tryd.pinned (OpenSpec.ofChange shaFreshSpec)

/-- ITS FALSE NEIGHBOUR: 'it returns false'. Refute it at one input. -/
def shaFreshWrong : ChangeSpec := { name := "shaFresh", fn := fun _ => fun
  | [d1, d2] => { results := [.lit (.bool false)], args := [d1, d2] }
  | _ => none }
def ShaFreshWrongFalsely : Prop := shaFreshRow.holds Tryd.pinned (OpenSpec.ofChange shaFreshWrong)

/-- 'affidavitlaw02.ShaFolds': WHATEVER THE INPUT: true; the input reads as it did. -/
def shaFoldsSpec : ChangeSpec := { name := "shaFolds", fn := fun _ => fun
  | [d] => { results := [.lit (.bool true)], args := [d] }
  | _ => none }
def shaFoldsRow : OpenClaim := { program := "ytgblndddcbfdiaadoor", sum := "807df322ef8f612e544e92e69e0f1df36efd95280baea4e772b1e0b80bcd895d", func := "affidavit/affidavitlaw02.ShaFolds", spec := "shaFolds", named := ["affidavit/sha.first", "affidavit/sha.constants"], apart := false, laid := [("affidavit/sha.first", laid_affidavit_sha_first), ("affidavit/sha.constants", laid_affidavit_sha_constants)] }
def ShaFoldsSaid : Prop := shaFoldsRow.holds Tryd.pinned (OpenSpec.ofChange shaFoldsSpec)

/-- ITS FALSE NEIGHBOUR: 'it returns false'. Refute it at one input. -/
def shaFoldsWrong : ChangeSpec := { name := "shaFolds", fn := fun _ => fun
  | [d] => { results := [.lit (.bool false)], args := [d] }
  | _ => none }
def ShaFoldsWrongFalsely : Prop := shaFoldsRow.holds Tryd.pinned (OpenSpec.ofChange shaFoldsWrong)

/-- 'affidavitlaw02.ShaTaken': WHATEVER THE INPUT: true; the input reads as it did. -/
def shaTakenSpec : ChangeSpec := { name := "shaTaken", fn := fun _ => fun
  | [d1, d2] => { results := [.lit (.bool true)], args := [d1, d2] }
  | _ => none }
def shaTakenRow : OpenClaim := { program := "ytgblndddcbfdiaadoor", sum := "807df322ef8f612e544e92e69e0f1df36efd95280baea4e772b1e0b80bcd895d", func := "affidavit/affidavitlaw02.ShaTaken", spec := "shaTaken", named := ["affidavit/sha.first", "affidavit/sha.constants"], apart := false, laid := [("affidavit/sha.first", laid_affidavit_sha_first), ("affidavit/sha.constants", laid_affidavit_sha_constants)] }
def ShaTakenSaid : Prop := shaTakenRow.holds Tryd.pinned (OpenSpec.ofChange shaTakenSpec)

/-- ITS FALSE NEIGHBOUR: 'it returns false'. Refute it at one input. -/
def shaTakenWrong : ChangeSpec := { name := "shaTaken", fn := fun _ => fun
  | [d1, d2] => { results := [.lit (.bool false)], args := [d1, d2] }
  | _ => none }
def ShaTakenWrongFalsely : Prop := shaTakenRow.holds Tryd.pinned (OpenSpec.ofChange shaTakenWrong)

/-- 'affidavitlaw02.ShaSums': WHATEVER THE INPUT: true; the input reads as it did. -/
def shaSumsSpec : ChangeSpec := { name := "shaSums", fn := fun _ => fun
  | [d] => { results := [.lit (.bool true)], args := [d] }
  | _ => none }
def shaSumsRow : OpenClaim := { program := "ytgblndddcbfdiaadoor", sum := "807df322ef8f612e544e92e69e0f1df36efd95280baea4e772b1e0b80bcd895d", func := "affidavit/affidavitlaw02.ShaSums", spec := "shaSums", named := ["affidavit/sha.first", "affidavit/sha.constants"], apart := false, laid := [("affidavit/sha.first", laid_affidavit_sha_first), ("affidavit/sha.constants", laid_affidavit_sha_constants)] }
def ShaSumsSaid : Prop := shaSumsRow.holds Tryd.pinned (OpenSpec.ofChange shaSumsSpec)

/-- ITS FALSE NEIGHBOUR: 'it returns false'. Refute it at one input. -/
def shaSumsWrong : ChangeSpec := { name := "shaSums", fn := fun _ => fun
  | [d] => { results := [.lit (.bool false)], args := [d] }
  | _ => none }
def ShaSumsWrongFalsely : Prop := shaSumsRow.holds Tryd.pinned (OpenSpec.ofChange shaSumsWrong)

/-- 'affidavitlaw02.ShaKnown': WHATEVER THE INPUT: true; the input reads as it did. -/
def shaKnownSpec : ChangeSpec := { name := "shaKnown", fn := fun _ => fun
  | [] => { results := [.lit (.bool true)], args := [] }
  | _ => none }
def shaKnownRow : OpenClaim := { program := "ytgblndddcbfdiaadoor", sum := "807df322ef8f612e544e92e69e0f1df36efd95280baea4e772b1e0b80bcd895d", func := "affidavit/affidavitlaw02.ShaKnown", spec := "shaKnown", inPlace := ["internal/bytealg.Compare"], named := ["affidavit/sha.first", "affidavit/sha.constants"], apart := false, laid := [("affidavit/sha.first", laid_affidavit_sha_first), ("affidavit/sha.constants", laid_affidavit_sha_constants)] }
def ShaKnownSaid : Prop := shaKnownRow.holds Tryd.pinned (OpenSpec.ofChange shaKnownSpec)

/-- ITS FALSE NEIGHBOUR: 'it returns false'. Refute it at one input. -/
def shaKnownWrong : ChangeSpec := { name := "shaKnown", fn := fun _ => fun
  | [] => { results := [.lit (.bool false)], args := [] }
  | _ => none }
def ShaKnownWrongFalsely : Prop := shaKnownRow.holds Tryd.pinned (OpenSpec.ofChange shaKnownWrong)

/-- 'affidavitlaw02.ShaPlays': WHATEVER THE INPUT: true; the input reads as it did. -/
def shaPlaysSpec : ChangeSpec := { name := "shaPlays", fn := fun _ => fun
  | [d] => { results := [.lit (.bool true)], args := [d] }
  | _ => none }
def shaPlaysRow : OpenClaim := { program := "ytgblndddcbfdiaadoor", sum := "807df322ef8f612e544e92e69e0f1df36efd95280baea4e772b1e0b80bcd895d", func := "affidavit/affidavitlaw02.ShaPlays", spec := "shaPlays", named := ["affidavit/sha.constants", "affidavit/sha.first"], apart := false, laid := [("affidavit/sha.first", laid_affidavit_sha_first), ("affidavit/sha.constants", laid_affidavit_sha_constants)] }
def ShaPlaysSaid : Prop := shaPlaysRow.holds Tryd.pinned (OpenSpec.ofChange shaPlaysSpec)

/-- ITS FALSE NEIGHBOUR: 'it returns false'. Refute it at one input. -/
def shaPlaysWrong : ChangeSpec := { name := "shaPlays", fn := fun _ => fun
  | [d] => { results := [.lit (.bool false)], args := [d] }
  | _ => none }
def ShaPlaysWrongFalsely : Prop := shaPlaysRow.holds Tryd.pinned (OpenSpec.ofChange shaPlaysWrong)

/- THE SECOND FORM. 'bulk': how many values and letters a reading holds, each counted each time it is reached (what is shared counts as often as it is met; a slice's spare places count too). A statement '..UptoSaid' is the law's where the arguments, and the package variables that the reading takes, are together of bulk at most 1048576: NARROWER than '..Said'. Prove '..Said' where nothing that the law and all that it calls make is longer than what came in: it says more and counts as full. Else prove '..UptoSaid'. A law counts once. -/
mutual
def uptoBulk {H : Type} : DataW H → Nat
  | .lit (.string bytes) => bytes.length + 1
  | .lit _ => 1
  | .nil => 1
  | .ptr d => uptoBulk d + 1
  | .slice elems spare => uptoBulkAll elems + uptoBulkAll spare + 1
  | .agg parts => uptoBulkAll parts + 1
  | .iface _ d => uptoBulk d + 1
  | .map entries => uptoBulkEntries entries + 1
  | .held _ => 1
def uptoBulkAll {H : Type} : List (DataW H) → Nat
  | [] => 0
  | d :: r => uptoBulk d + uptoBulkAll r
def uptoBulkEntries {H : Type} : List (Lit × DataW H) → Nat
  | [] => 0
  | x :: r => uptoBulkEntry x + uptoBulkEntries r
def uptoBulkEntry {H : Type} : Lit × DataW H → Nat
  | (.string bytes, d) => bytes.length + uptoBulk d + 1
  | (_, d) => uptoBulk d + 1
 end
def uptoSmall : (H : Type) → List (DataW H) → Bool := fun _ ds => decide (uptoBulkAll ds ≤ 1048576)
def OpenSpec.upto (s : _root_.Go.ChangeSpec) : _root_.Go.OpenSpec := { _root_.Go.OpenSpec.ofChange s with cond := some uptoSmall }

/-- 'affidavitlaw02.ShaOrder', WHERE WHAT IT READS IS OF BULK AT MOST 1048576: true; the input reads as it did. -/
def shaOrderUptoRow : OpenClaim := { program := "ytgblndddcbfdiaadoor", sum := "807df322ef8f612e544e92e69e0f1df36efd95280baea4e772b1e0b80bcd895d", func := "affidavit/affidavitlaw02.ShaOrder", spec := "shaOrder", inPlace := ["internal/bytealg.Compare"], named := ["affidavit/sha.first", "affidavit/sha.constants"], apart := false, laid := [("affidavit/sha.first", laid_affidavit_sha_first), ("affidavit/sha.constants", laid_affidavit_sha_constants)], narrowed := true }
def ShaOrderUptoSaid : Prop := shaOrderUptoRow.holds Tryd.pinned (OpenSpec.upto shaOrderSpec)

/-- 'affidavitlaw02.ShaPads', WHERE WHAT IT READS IS OF BULK AT MOST 1048576: true; the input reads as it did. -/
def shaPadsUptoRow : OpenClaim := { program := "ytgblndddcbfdiaadoor", sum := "807df322ef8f612e544e92e69e0f1df36efd95280baea4e772b1e0b80bcd895d", func := "affidavit/affidavitlaw02.ShaPads", spec := "shaPads", named := ["affidavit/sha.first", "affidavit/sha.constants"], apart := false, laid := [("affidavit/sha.first", laid_affidavit_sha_first), ("affidavit/sha.constants", laid_affidavit_sha_constants)], narrowed := true }
def ShaPadsUptoSaid : Prop := shaPadsUptoRow.holds Tryd.pinned (OpenSpec.upto shaPadsSpec)

/-- 'affidavitlaw02.ShaRound', WHERE WHAT IT READS IS OF BULK AT MOST 1048576: true; the input reads as it did. -/
def shaRoundUptoRow : OpenClaim := { program := "ytgblndddcbfdiaadoor", sum := "807df322ef8f612e544e92e69e0f1df36efd95280baea4e772b1e0b80bcd895d", func := "affidavit/affidavitlaw02.ShaRound", spec := "shaRound", named := ["affidavit/sha.constants", "affidavit/sha.first"], apart := false, laid := [("affidavit/sha.first", laid_affidavit_sha_first), ("affidavit/sha.constants", laid_affidavit_sha_constants)], narrowed := true }
def ShaRoundUptoSaid : Prop := shaRoundUptoRow.holds Tryd.pinned (OpenSpec.upto shaRoundSpec)

/-- 'affidavitlaw02.ShaPieces', WHERE WHAT IT READS IS OF BULK AT MOST 1048576: true; the input reads as it did. -/
def shaPiecesUptoRow : OpenClaim := { program := "ytgblndddcbfdiaadoor", sum := "807df322ef8f612e544e92e69e0f1df36efd95280baea4e772b1e0b80bcd895d", func := "affidavit/affidavitlaw02.ShaPieces", spec := "shaPieces", named := ["affidavit/sha.first", "affidavit/sha.constants"], apart := false, laid := [("affidavit/sha.first", laid_affidavit_sha_first), ("affidavit/sha.constants", laid_affidavit_sha_constants)], narrowed := true }
def ShaPiecesUptoSaid : Prop := shaPiecesUptoRow.holds Tryd.pinned (OpenSpec.upto shaPiecesSpec)

/-- 'affidavitlaw02.ShaFresh', WHERE WHAT IT READS IS OF BULK AT MOST 1048576: true; the input reads as it did. -/
def shaFreshUptoRow : OpenClaim := { program := "ytgblndddcbfdiaadoor", sum := "807df322ef8f612e544e92e69e0f1df36efd95280baea4e772b1e0b80bcd895d", func := "affidavit/affidavitlaw02.ShaFresh", spec := "shaFresh", named := ["affidavit/sha.first", "affidavit/sha.constants"], apart := false, laid := [("affidavit/sha.first", laid_affidavit_sha_first), ("affidavit/sha.constants", laid_affidavit_sha_constants)], narrowed := true }
def ShaFreshUptoSaid : Prop := shaFreshUptoRow.holds Tryd.pinned (OpenSpec.upto shaFreshSpec)

/-- 'affidavitlaw02.ShaFolds', WHERE WHAT IT READS IS OF BULK AT MOST 1048576: true; the input reads as it did. -/
def shaFoldsUptoRow : OpenClaim := { program := "ytgblndddcbfdiaadoor", sum := "807df322ef8f612e544e92e69e0f1df36efd95280baea4e772b1e0b80bcd895d", func := "affidavit/affidavitlaw02.ShaFolds", spec := "shaFolds", named := ["affidavit/sha.first", "affidavit/sha.constants"], apart := false, laid := [("affidavit/sha.first", laid_affidavit_sha_first), ("affidavit/sha.constants", laid_affidavit_sha_constants)], narrowed := true }
def ShaFoldsUptoSaid : Prop := shaFoldsUptoRow.holds Tryd.pinned (OpenSpec.upto shaFoldsSpec)

/-- 'affidavitlaw02.ShaTaken', WHERE WHAT IT READS IS OF BULK AT MOST 1048576: true; the input reads as it did. -/
def shaTakenUptoRow : OpenClaim := { program := "ytgblndddcbfdiaadoor", sum := "807df322ef8f612e544e92e69e0f1df36efd95280baea4e772b1e0b80bcd895d", func := "affidavit/affidavitlaw02.ShaTaken", spec := "shaTaken", named := ["affidavit/sha.first", "affidavit/sha.constants"], apart := false, laid := [("affidavit/sha.first", laid_affidavit_sha_first), ("affidavit/sha.constants", laid_affidavit_sha_constants)], narrowed := true }
def ShaTakenUptoSaid : Prop := shaTakenUptoRow.holds Tryd.pinned (OpenSpec.upto shaTakenSpec)

/-- 'affidavitlaw02.ShaSums', WHERE WHAT IT READS IS OF BULK AT MOST 1048576: true; the input reads as it did. -/
def shaSumsUptoRow : OpenClaim := { program := "ytgblndddcbfdiaadoor", sum := "807df322ef8f612e544e92e69e0f1df36efd95280baea4e772b1e0b80bcd895d", func := "affidavit/affidavitlaw02.ShaSums", spec := "shaSums", named := ["affidavit/sha.first", "affidavit/sha.constants"], apart := false, laid := [("affidavit/sha.first", laid_affidavit_sha_first), ("affidavit/sha.constants", laid_affidavit_sha_constants)], narrowed := true }
def ShaSumsUptoSaid : Prop := shaSumsUptoRow.holds Tryd.pinned (OpenSpec.upto shaSumsSpec)

/-- 'affidavitlaw02.ShaKnown', WHERE WHAT IT READS IS OF BULK AT MOST 1048576: true; the input reads as it did. -/
def shaKnownUptoRow : OpenClaim := { program := "ytgblndddcbfdiaadoor", sum := "807df322ef8f612e544e92e69e0f1df36efd95280baea4e772b1e0b80bcd895d", func := "affidavit/affidavitlaw02.ShaKnown", spec := "shaKnown", inPlace := ["internal/bytealg.Compare"], named := ["affidavit/sha.first", "affidavit/sha.constants"], apart := false, laid := [("affidavit/sha.first", laid_affidavit_sha_first), ("affidavit/sha.constants", laid_affidavit_sha_constants)], narrowed := true }
def ShaKnownUptoSaid : Prop := shaKnownUptoRow.holds Tryd.pinned (OpenSpec.upto shaKnownSpec)

/-- 'affidavitlaw02.ShaPlays', WHERE WHAT IT READS IS OF BULK AT MOST 1048576: true; the input reads as it did. -/
def shaPlaysUptoRow : OpenClaim := { program := "ytgblndddcbfdiaadoor", sum := "807df322ef8f612e544e92e69e0f1df36efd95280baea4e772b1e0b80bcd895d", func := "affidavit/affidavitlaw02.ShaPlays", spec := "shaPlays", named := ["affidavit/sha.constants", "affidavit/sha.first"], apart := false, laid := [("affidavit/sha.first", laid_affidavit_sha_first), ("affidavit/sha.constants", laid_affidavit_sha_constants)], narrowed := true }
def ShaPlaysUptoSaid : Prop := shaPlaysUptoRow.holds Tryd.pinned (OpenSpec.upto shaPlaysSpec)

end Rows
end Go.Proofs.YtgblndddcbfdiaaDoor
