/-
  NARROWER THAN 'FOR EVERY INPUT', by the rows' own cells (each row's printed sentence says how): HmacParts: laid · HmacBlocks: laid · HmacEquals: laid · HmacGrows: laid · HmacSums: laid · HmacPieces: laid · HmacExpands: laid · HmacMacs: laid · HmacRows: laid.
  DERIVED. THE GIVEN ROWS OF THIS SEAT. 9 by the template 'for every input the law returns true; each argument reads behind the call as it read before'; 0 by the template 'total and deterministic' (their statements: YtnlnbgjpbnjjfaaDoorTotals.lean).
  GIVEN WITH THE SEED: the statements are not yours to turn. If you find one false, say at which input.
  Laid BY PROGRAM, IN A SANDBOX (cutbox-rows.mjs): the forced cells as the released guide's own fill.sh prints them over the translation eb1c87ec6825cb4f… (all of the seat's roots in one cut). By AI agents, Wed Nov 11 2026. No macro, syntax, notation, axiom, sorry.
-/
import Derived.Test.YtnlnbgjpbnjjfaaDoorChecked
import GoSem.Claim
import GoSem.ClaimJoined
import GoSem.ClaimMapViews
import Derived.JoinedTies
import Derived.KernelRfl
namespace Go.Proofs.YtnlnbgjpbnjjfaaDoor
/- THE CELL 'sum', in the pinned program and in every row, IS THE sha256 OF THE DUMP (.gsa) THAT YtnlnbgjpbnjjfaaDoorProg.lean LOADS. Nothing in Lean hashes anything: it is a label: what it is worth is what the hold of that sum in a sandbox is worth. -/
noncomputable def Tryd.pinned : Pinned := { name := "ytnlnbgjpbnjjfaadoor", sum := "eb1c87ec6825cb4f6665559307afcfa3e2646258508f05a72d36d2c45d30fe06", checked := Tryd.checked }
namespace Rows
def none {H : Type} : Left H := { results := [], args := [] }

/- WHAT THE LISTED PACKAGE-LEVEL VARIABLES READ AS WHEN THE CALL BEGINS. Each datum BY PROGRAM (the guide's laid-datum.mjs) off the statement by which the dump's own 'gosem.cut.vars' lays the variable. In a bare row this is a premise. The card (YtnlnbgjpbnjjfaaDoorCards.lean) ties it to the program's text. -/
def laid_affidavit_sha_first {H : Type} : DataW H := .agg [.lit (.int .u32 1779033703), .lit (.int .u32 3144134277), .lit (.int .u32 1013904242), .lit (.int .u32 2773480762), .lit (.int .u32 1359893119), .lit (.int .u32 2600822924), .lit (.int .u32 528734635), .lit (.int .u32 1541459225)]
def laid_affidavit_sha_constants {H : Type} : DataW H := .agg [.lit (.int .u32 1116352408), .lit (.int .u32 1899447441), .lit (.int .u32 3049323471), .lit (.int .u32 3921009573), .lit (.int .u32 961987163), .lit (.int .u32 1508970993), .lit (.int .u32 2453635748), .lit (.int .u32 2870763221), .lit (.int .u32 3624381080), .lit (.int .u32 310598401), .lit (.int .u32 607225278), .lit (.int .u32 1426881987), .lit (.int .u32 1925078388), .lit (.int .u32 2162078206), .lit (.int .u32 2614888103), .lit (.int .u32 3248222580), .lit (.int .u32 3835390401), .lit (.int .u32 4022224774), .lit (.int .u32 264347078), .lit (.int .u32 604807628), .lit (.int .u32 770255983), .lit (.int .u32 1249150122), .lit (.int .u32 1555081692), .lit (.int .u32 1996064986), .lit (.int .u32 2554220882), .lit (.int .u32 2821834349), .lit (.int .u32 2952996808), .lit (.int .u32 3210313671), .lit (.int .u32 3336571891), .lit (.int .u32 3584528711), .lit (.int .u32 113926993), .lit (.int .u32 338241895), .lit (.int .u32 666307205), .lit (.int .u32 773529912), .lit (.int .u32 1294757372), .lit (.int .u32 1396182291), .lit (.int .u32 1695183700), .lit (.int .u32 1986661051), .lit (.int .u32 2177026350), .lit (.int .u32 2456956037), .lit (.int .u32 2730485921), .lit (.int .u32 2820302411), .lit (.int .u32 3259730800), .lit (.int .u32 3345764771), .lit (.int .u32 3516065817), .lit (.int .u32 3600352804), .lit (.int .u32 4094571909), .lit (.int .u32 275423344), .lit (.int .u32 430227734), .lit (.int .u32 506948616), .lit (.int .u32 659060556), .lit (.int .u32 883997877), .lit (.int .u32 958139571), .lit (.int .u32 1322822218), .lit (.int .u32 1537002063), .lit (.int .u32 1747873779), .lit (.int .u32 1955562222), .lit (.int .u32 2024104815), .lit (.int .u32 2227730452), .lit (.int .u32 2361852424), .lit (.int .u32 2428436474), .lit (.int .u32 2756734187), .lit (.int .u32 3204031479), .lit (.int .u32 3329325298)]
def laid_math_bits_deBruijn32tab {H : Type} : DataW H := .agg [.lit (.int .u8 0), .lit (.int .u8 1), .lit (.int .u8 28), .lit (.int .u8 2), .lit (.int .u8 29), .lit (.int .u8 14), .lit (.int .u8 24), .lit (.int .u8 3), .lit (.int .u8 30), .lit (.int .u8 22), .lit (.int .u8 20), .lit (.int .u8 15), .lit (.int .u8 25), .lit (.int .u8 17), .lit (.int .u8 4), .lit (.int .u8 8), .lit (.int .u8 31), .lit (.int .u8 27), .lit (.int .u8 13), .lit (.int .u8 23), .lit (.int .u8 21), .lit (.int .u8 19), .lit (.int .u8 16), .lit (.int .u8 7), .lit (.int .u8 26), .lit (.int .u8 12), .lit (.int .u8 18), .lit (.int .u8 6), .lit (.int .u8 11), .lit (.int .u8 5), .lit (.int .u8 10), .lit (.int .u8 9)]
def laid_math_bits_deBruijn64tab {H : Type} : DataW H := .agg [.lit (.int .u8 0), .lit (.int .u8 1), .lit (.int .u8 56), .lit (.int .u8 2), .lit (.int .u8 57), .lit (.int .u8 49), .lit (.int .u8 28), .lit (.int .u8 3), .lit (.int .u8 61), .lit (.int .u8 58), .lit (.int .u8 42), .lit (.int .u8 50), .lit (.int .u8 38), .lit (.int .u8 29), .lit (.int .u8 17), .lit (.int .u8 4), .lit (.int .u8 62), .lit (.int .u8 47), .lit (.int .u8 59), .lit (.int .u8 36), .lit (.int .u8 45), .lit (.int .u8 43), .lit (.int .u8 51), .lit (.int .u8 22), .lit (.int .u8 53), .lit (.int .u8 39), .lit (.int .u8 33), .lit (.int .u8 30), .lit (.int .u8 24), .lit (.int .u8 18), .lit (.int .u8 12), .lit (.int .u8 5), .lit (.int .u8 63), .lit (.int .u8 55), .lit (.int .u8 48), .lit (.int .u8 27), .lit (.int .u8 60), .lit (.int .u8 41), .lit (.int .u8 37), .lit (.int .u8 16), .lit (.int .u8 46), .lit (.int .u8 35), .lit (.int .u8 44), .lit (.int .u8 21), .lit (.int .u8 52), .lit (.int .u8 32), .lit (.int .u8 23), .lit (.int .u8 11), .lit (.int .u8 54), .lit (.int .u8 26), .lit (.int .u8 40), .lit (.int .u8 15), .lit (.int .u8 34), .lit (.int .u8 20), .lit (.int .u8 31), .lit (.int .u8 10), .lit (.int .u8 25), .lit (.int .u8 14), .lit (.int .u8 19), .lit (.int .u8 9), .lit (.int .u8 13), .lit (.int .u8 8), .lit (.int .u8 7), .lit (.int .u8 6)]
def laid_internal_strconv_uint64pow10 {H : Type} : DataW H := .agg [.lit (.int .u64 1), .lit (.int .u64 10), .lit (.int .u64 100), .lit (.int .u64 1000), .lit (.int .u64 10000), .lit (.int .u64 100000), .lit (.int .u64 1000000), .lit (.int .u64 10000000), .lit (.int .u64 100000000), .lit (.int .u64 1000000000), .lit (.int .u64 10000000000), .lit (.int .u64 100000000000), .lit (.int .u64 1000000000000), .lit (.int .u64 10000000000000), .lit (.int .u64 100000000000000), .lit (.int .u64 1000000000000000), .lit (.int .u64 10000000000000000), .lit (.int .u64 100000000000000000), .lit (.int .u64 1000000000000000000), .lit (.int .u64 10000000000000000000)]

/-- 'affidavitlaw07.HmacParts': WHATEVER THE INPUT: true; the input reads as it did. -/
def hmacPartsSpec : ChangeSpec := { name := "hmacParts", fn := fun _ => fun
  | [d] => { results := [.lit (.bool true)], args := [d] }
  | _ => none }
def hmacPartsRow : OpenClaim := { program := "ytnlnbgjpbnjjfaadoor", sum := "eb1c87ec6825cb4f6665559307afcfa3e2646258508f05a72d36d2c45d30fe06", func := "affidavit/affidavitlaw07.HmacParts", spec := "hmacParts", unfollowed := true, recurses := true, named := ["affidavit/sha.first", "affidavit/sha.constants"], apart := false, laid := [("affidavit/sha.first", laid_affidavit_sha_first), ("affidavit/sha.constants", laid_affidavit_sha_constants)] }
def HmacPartsSaid : Prop := hmacPartsRow.holds Tryd.pinned (OpenSpec.ofChange hmacPartsSpec)

/-- ITS FALSE NEIGHBOUR: 'it returns false'. Refute it at one input. -/
def hmacPartsWrong : ChangeSpec := { name := "hmacParts", fn := fun _ => fun
  | [d] => { results := [.lit (.bool false)], args := [d] }
  | _ => none }
def HmacPartsWrongFalsely : Prop := hmacPartsRow.holds Tryd.pinned (OpenSpec.ofChange hmacPartsWrong)

/-- 'affidavitlaw07.HmacBlocks': WHATEVER THE INPUT: true; the input reads as it did. -/
def hmacBlocksSpec : ChangeSpec := { name := "hmacBlocks", fn := fun _ => fun
  | [d1, d2, d3] => { results := [.lit (.bool true)], args := [d1, d2, d3] }
  | _ => none }
def hmacBlocksRow : OpenClaim := { program := "ytnlnbgjpbnjjfaadoor", sum := "eb1c87ec6825cb4f6665559307afcfa3e2646258508f05a72d36d2c45d30fe06", func := "affidavit/affidavitlaw07.HmacBlocks", spec := "hmacBlocks", unfollowed := true, recurses := true, named := ["affidavit/sha.first", "affidavit/sha.constants"], apart := false, laid := [("affidavit/sha.first", laid_affidavit_sha_first), ("affidavit/sha.constants", laid_affidavit_sha_constants)] }
def HmacBlocksSaid : Prop := hmacBlocksRow.holds Tryd.pinned (OpenSpec.ofChange hmacBlocksSpec)

/-- ITS FALSE NEIGHBOUR: 'it returns false'. Refute it at one input. -/
def hmacBlocksWrong : ChangeSpec := { name := "hmacBlocks", fn := fun _ => fun
  | [d1, d2, d3] => { results := [.lit (.bool false)], args := [d1, d2, d3] }
  | _ => none }
def HmacBlocksWrongFalsely : Prop := hmacBlocksRow.holds Tryd.pinned (OpenSpec.ofChange hmacBlocksWrong)

/-- 'affidavitlaw07.HmacEquals': WHATEVER THE INPUT: true; the input reads as it did. -/
def hmacEqualsSpec : ChangeSpec := { name := "hmacEquals", fn := fun _ => fun
  | [d1, d2] => { results := [.lit (.bool true)], args := [d1, d2] }
  | _ => none }
def hmacEqualsRow : OpenClaim := { program := "ytnlnbgjpbnjjfaadoor", sum := "eb1c87ec6825cb4f6665559307afcfa3e2646258508f05a72d36d2c45d30fe06", func := "affidavit/affidavitlaw07.HmacEquals", spec := "hmacEquals", unfollowed := true, recurses := true, named := ["affidavit/sha.first", "affidavit/sha.constants"], apart := false, laid := [("affidavit/sha.first", laid_affidavit_sha_first), ("affidavit/sha.constants", laid_affidavit_sha_constants)] }
def HmacEqualsSaid : Prop := hmacEqualsRow.holds Tryd.pinned (OpenSpec.ofChange hmacEqualsSpec)

/-- ITS FALSE NEIGHBOUR: 'it returns false'. Refute it at one input. -/
def hmacEqualsWrong : ChangeSpec := { name := "hmacEquals", fn := fun _ => fun
  | [d1, d2] => { results := [.lit (.bool false)], args := [d1, d2] }
  | _ => none }
def HmacEqualsWrongFalsely : Prop := hmacEqualsRow.holds Tryd.pinned (OpenSpec.ofChange hmacEqualsWrong)

/-- 'affidavitlaw07.HmacGrows': WHATEVER THE INPUT: true; the input reads as it did. -/
def hmacGrowsSpec : ChangeSpec := { name := "hmacGrows", fn := fun _ => fun
  | [d] => { results := [.lit (.bool true)], args := [d] }
  | _ => none }
def hmacGrowsRow : OpenClaim := { program := "ytnlnbgjpbnjjfaadoor", sum := "eb1c87ec6825cb4f6665559307afcfa3e2646258508f05a72d36d2c45d30fe06", func := "affidavit/affidavitlaw07.HmacGrows", spec := "hmacGrows", unfollowed := true, recurses := true, named := ["affidavit/sha.first", "affidavit/sha.constants"], apart := false, laid := [("affidavit/sha.first", laid_affidavit_sha_first), ("affidavit/sha.constants", laid_affidavit_sha_constants)] }
def HmacGrowsSaid : Prop := hmacGrowsRow.holds Tryd.pinned (OpenSpec.ofChange hmacGrowsSpec)

/-- ITS FALSE NEIGHBOUR: 'it returns false'. Refute it at one input. -/
def hmacGrowsWrong : ChangeSpec := { name := "hmacGrows", fn := fun _ => fun
  | [d] => { results := [.lit (.bool false)], args := [d] }
  | _ => none }
def HmacGrowsWrongFalsely : Prop := hmacGrowsRow.holds Tryd.pinned (OpenSpec.ofChange hmacGrowsWrong)

/-- 'affidavitlaw07.HmacSums': WHATEVER THE INPUT: true; the input reads as it did. -/
def hmacSumsSpec : ChangeSpec := { name := "hmacSums", fn := fun _ => fun
  | [d1, d2] => { results := [.lit (.bool true)], args := [d1, d2] }
  | _ => none }
def hmacSumsRow : OpenClaim := { program := "ytnlnbgjpbnjjfaadoor", sum := "eb1c87ec6825cb4f6665559307afcfa3e2646258508f05a72d36d2c45d30fe06", func := "affidavit/affidavitlaw07.HmacSums", spec := "hmacSums", unfollowed := true, recurses := true, named := ["affidavit/sha.first", "affidavit/sha.constants"], apart := false, laid := [("affidavit/sha.first", laid_affidavit_sha_first), ("affidavit/sha.constants", laid_affidavit_sha_constants)] }
def HmacSumsSaid : Prop := hmacSumsRow.holds Tryd.pinned (OpenSpec.ofChange hmacSumsSpec)

/-- ITS FALSE NEIGHBOUR: 'it returns false'. Refute it at one input. -/
def hmacSumsWrong : ChangeSpec := { name := "hmacSums", fn := fun _ => fun
  | [d1, d2] => { results := [.lit (.bool false)], args := [d1, d2] }
  | _ => none }
def HmacSumsWrongFalsely : Prop := hmacSumsRow.holds Tryd.pinned (OpenSpec.ofChange hmacSumsWrong)

/-- 'affidavitlaw07.HmacPieces': WHATEVER THE INPUT: true; the input reads as it did. -/
def hmacPiecesSpec : ChangeSpec := { name := "hmacPieces", fn := fun _ => fun
  | [d1, d2, d3] => { results := [.lit (.bool true)], args := [d1, d2, d3] }
  | _ => none }
def hmacPiecesRow : OpenClaim := { program := "ytnlnbgjpbnjjfaadoor", sum := "eb1c87ec6825cb4f6665559307afcfa3e2646258508f05a72d36d2c45d30fe06", func := "affidavit/affidavitlaw07.HmacPieces", spec := "hmacPieces", unfollowed := true, recurses := true, named := ["affidavit/sha.first", "affidavit/sha.constants"], apart := false, laid := [("affidavit/sha.first", laid_affidavit_sha_first), ("affidavit/sha.constants", laid_affidavit_sha_constants)] }
def HmacPiecesSaid : Prop := hmacPiecesRow.holds Tryd.pinned (OpenSpec.ofChange hmacPiecesSpec)

/-- ITS FALSE NEIGHBOUR: 'it returns false'. Refute it at one input. -/
def hmacPiecesWrong : ChangeSpec := { name := "hmacPieces", fn := fun _ => fun
  | [d1, d2, d3] => { results := [.lit (.bool false)], args := [d1, d2, d3] }
  | _ => none }
def HmacPiecesWrongFalsely : Prop := hmacPiecesRow.holds Tryd.pinned (OpenSpec.ofChange hmacPiecesWrong)

/-- 'affidavitlaw07.HmacExpands': WHATEVER THE INPUT: true; the input reads as it did. -/
def hmacExpandsSpec : ChangeSpec := { name := "hmacExpands", fn := fun _ => fun
  | [d1, d2, d3] => { results := [.lit (.bool true)], args := [d1, d2, d3] }
  | _ => none }
def hmacExpandsRow : OpenClaim := { program := "ytnlnbgjpbnjjfaadoor", sum := "eb1c87ec6825cb4f6665559307afcfa3e2646258508f05a72d36d2c45d30fe06", func := "affidavit/affidavitlaw07.HmacExpands", spec := "hmacExpands", unfollowed := true, recurses := true, named := ["affidavit/sha.first", "affidavit/sha.constants"], apart := false, laid := [("affidavit/sha.first", laid_affidavit_sha_first), ("affidavit/sha.constants", laid_affidavit_sha_constants)] }
def HmacExpandsSaid : Prop := hmacExpandsRow.holds Tryd.pinned (OpenSpec.ofChange hmacExpandsSpec)

/-- ITS FALSE NEIGHBOUR: 'it returns false'. Refute it at one input. -/
def hmacExpandsWrong : ChangeSpec := { name := "hmacExpands", fn := fun _ => fun
  | [d1, d2, d3] => { results := [.lit (.bool false)], args := [d1, d2, d3] }
  | _ => none }
def HmacExpandsWrongFalsely : Prop := hmacExpandsRow.holds Tryd.pinned (OpenSpec.ofChange hmacExpandsWrong)

/-- 'affidavitlaw07.HmacMacs': WHATEVER THE INPUT: true; the input reads as it did. -/
def hmacMacsSpec : ChangeSpec := { name := "hmacMacs", fn := fun _ => fun
  | [d1, d2, d3] => { results := [.lit (.bool true)], args := [d1, d2, d3] }
  | _ => none }
def hmacMacsRow : OpenClaim := { program := "ytnlnbgjpbnjjfaadoor", sum := "eb1c87ec6825cb4f6665559307afcfa3e2646258508f05a72d36d2c45d30fe06", func := "affidavit/affidavitlaw07.HmacMacs", spec := "hmacMacs", unfollowed := true, recurses := true, named := ["affidavit/sha.first", "affidavit/sha.constants"], apart := false, laid := [("affidavit/sha.first", laid_affidavit_sha_first), ("affidavit/sha.constants", laid_affidavit_sha_constants)] }
def HmacMacsSaid : Prop := hmacMacsRow.holds Tryd.pinned (OpenSpec.ofChange hmacMacsSpec)

/-- ITS FALSE NEIGHBOUR: 'it returns false'. Refute it at one input. -/
def hmacMacsWrong : ChangeSpec := { name := "hmacMacs", fn := fun _ => fun
  | [d1, d2, d3] => { results := [.lit (.bool false)], args := [d1, d2, d3] }
  | _ => none }
def HmacMacsWrongFalsely : Prop := hmacMacsRow.holds Tryd.pinned (OpenSpec.ofChange hmacMacsWrong)

/-- 'affidavitlaw07.HmacRows': WHATEVER THE INPUT: true; the input reads as it did. -/
def hmacRowsSpec : ChangeSpec := { name := "hmacRows", fn := fun _ => fun
  | [d] => { results := [.lit (.bool true)], args := [d] }
  | _ => none }
def hmacRowsRow : OpenClaim := { program := "ytnlnbgjpbnjjfaadoor", sum := "eb1c87ec6825cb4f6665559307afcfa3e2646258508f05a72d36d2c45d30fe06", func := "affidavit/affidavitlaw07.HmacRows", spec := "hmacRows", unfollowed := true, recurses := true, named := ["internal/strconv.uint64pow10", "math/bits.deBruijn32tab", "math/bits.deBruijn64tab", "affidavit/sha.first", "affidavit/sha.constants"], apart := false, laid := [("math/bits.deBruijn32tab", laid_math_bits_deBruijn32tab), ("math/bits.deBruijn64tab", laid_math_bits_deBruijn64tab), ("internal/strconv.uint64pow10", laid_internal_strconv_uint64pow10), ("affidavit/sha.first", laid_affidavit_sha_first), ("affidavit/sha.constants", laid_affidavit_sha_constants)] }
def HmacRowsSaid : Prop := hmacRowsRow.holds Tryd.pinned (OpenSpec.ofChange hmacRowsSpec)

/-- ITS FALSE NEIGHBOUR: 'it returns false'. Refute it at one input. -/
def hmacRowsWrong : ChangeSpec := { name := "hmacRows", fn := fun _ => fun
  | [d] => { results := [.lit (.bool false)], args := [d] }
  | _ => none }
def HmacRowsWrongFalsely : Prop := hmacRowsRow.holds Tryd.pinned (OpenSpec.ofChange hmacRowsWrong)

/- THE SECOND FORM. 'bulk': how many values and letters a reading holds, each counted each time it is reached (what is shared counts as often as it is met; a slice's spare places count too). A statement '..UptoSaid' is the law's where the arguments, and the package variables that the reading takes, are together of bulk at most 1048576: NARROWER than '..Said'. Prove '..Said' where nothing that the law and all that it calls make is longer than what came in: it says more and counts as full. Else prove '..UptoSaid'. A law counts once. -/
mutual
def uptoBulk {H : Type} : DataW H → Nat
  | .lit (.string bytes) => bytes.length + 1
  | .lit _ => 1
  | .nil => 1
  | .ptr d => uptoBulk d + 1
  | .slice elems spare => uptoBulkAll elems + uptoBulkAll spare + 1
  | .agg parts => uptoBulkAll parts + 1
  | .iface _ d => uptoBulk d + 1
  | .map entries => uptoBulkEntries entries + 1
  | .held _ => 1
def uptoBulkAll {H : Type} : List (DataW H) → Nat
  | [] => 0
  | d :: r => uptoBulk d + uptoBulkAll r
def uptoBulkEntries {H : Type} : List (Lit × DataW H) → Nat
  | [] => 0
  | x :: r => uptoBulkEntry x + uptoBulkEntries r
def uptoBulkEntry {H : Type} : Lit × DataW H → Nat
  | (.string bytes, d) => bytes.length + uptoBulk d + 1
  | (_, d) => uptoBulk d + 1
 end
def uptoSmall : (H : Type) → List (DataW H) → Bool := fun _ ds => decide (uptoBulkAll ds ≤ 1048576)
def OpenSpec.upto (s : _root_.Go.ChangeSpec) : _root_.Go.OpenSpec := { _root_.Go.OpenSpec.ofChange s with cond := some uptoSmall }

/-- 'affidavitlaw07.HmacParts', WHERE WHAT IT READS IS OF BULK AT MOST 1048576: true; the input reads as it did. -/
def hmacPartsUptoRow : OpenClaim := { program := "ytnlnbgjpbnjjfaadoor", sum := "eb1c87ec6825cb4f6665559307afcfa3e2646258508f05a72d36d2c45d30fe06", func := "affidavit/affidavitlaw07.HmacParts", spec := "hmacParts", unfollowed := true, recurses := true, named := ["affidavit/sha.first", "affidavit/sha.constants"], apart := false, laid := [("affidavit/sha.first", laid_affidavit_sha_first), ("affidavit/sha.constants", laid_affidavit_sha_constants)], narrowed := true }
def HmacPartsUptoSaid : Prop := hmacPartsUptoRow.holds Tryd.pinned (OpenSpec.upto hmacPartsSpec)

/-- 'affidavitlaw07.HmacBlocks', WHERE WHAT IT READS IS OF BULK AT MOST 1048576: true; the input reads as it did. -/
def hmacBlocksUptoRow : OpenClaim := { program := "ytnlnbgjpbnjjfaadoor", sum := "eb1c87ec6825cb4f6665559307afcfa3e2646258508f05a72d36d2c45d30fe06", func := "affidavit/affidavitlaw07.HmacBlocks", spec := "hmacBlocks", unfollowed := true, recurses := true, named := ["affidavit/sha.first", "affidavit/sha.constants"], apart := false, laid := [("affidavit/sha.first", laid_affidavit_sha_first), ("affidavit/sha.constants", laid_affidavit_sha_constants)], narrowed := true }
def HmacBlocksUptoSaid : Prop := hmacBlocksUptoRow.holds Tryd.pinned (OpenSpec.upto hmacBlocksSpec)

/-- 'affidavitlaw07.HmacEquals', WHERE WHAT IT READS IS OF BULK AT MOST 1048576: true; the input reads as it did. -/
def hmacEqualsUptoRow : OpenClaim := { program := "ytnlnbgjpbnjjfaadoor", sum := "eb1c87ec6825cb4f6665559307afcfa3e2646258508f05a72d36d2c45d30fe06", func := "affidavit/affidavitlaw07.HmacEquals", spec := "hmacEquals", unfollowed := true, recurses := true, named := ["affidavit/sha.first", "affidavit/sha.constants"], apart := false, laid := [("affidavit/sha.first", laid_affidavit_sha_first), ("affidavit/sha.constants", laid_affidavit_sha_constants)], narrowed := true }
def HmacEqualsUptoSaid : Prop := hmacEqualsUptoRow.holds Tryd.pinned (OpenSpec.upto hmacEqualsSpec)

/-- 'affidavitlaw07.HmacGrows', WHERE WHAT IT READS IS OF BULK AT MOST 1048576: true; the input reads as it did. -/
def hmacGrowsUptoRow : OpenClaim := { program := "ytnlnbgjpbnjjfaadoor", sum := "eb1c87ec6825cb4f6665559307afcfa3e2646258508f05a72d36d2c45d30fe06", func := "affidavit/affidavitlaw07.HmacGrows", spec := "hmacGrows", unfollowed := true, recurses := true, named := ["affidavit/sha.first", "affidavit/sha.constants"], apart := false, laid := [("affidavit/sha.first", laid_affidavit_sha_first), ("affidavit/sha.constants", laid_affidavit_sha_constants)], narrowed := true }
def HmacGrowsUptoSaid : Prop := hmacGrowsUptoRow.holds Tryd.pinned (OpenSpec.upto hmacGrowsSpec)

/-- 'affidavitlaw07.HmacSums', WHERE WHAT IT READS IS OF BULK AT MOST 1048576: true; the input reads as it did. -/
def hmacSumsUptoRow : OpenClaim := { program := "ytnlnbgjpbnjjfaadoor", sum := "eb1c87ec6825cb4f6665559307afcfa3e2646258508f05a72d36d2c45d30fe06", func := "affidavit/affidavitlaw07.HmacSums", spec := "hmacSums", unfollowed := true, recurses := true, named := ["affidavit/sha.first", "affidavit/sha.constants"], apart := false, laid := [("affidavit/sha.first", laid_affidavit_sha_first), ("affidavit/sha.constants", laid_affidavit_sha_constants)], narrowed := true }
def HmacSumsUptoSaid : Prop := hmacSumsUptoRow.holds Tryd.pinned (OpenSpec.upto hmacSumsSpec)

/-- 'affidavitlaw07.HmacPieces', WHERE WHAT IT READS IS OF BULK AT MOST 1048576: true; the input reads as it did. -/
def hmacPiecesUptoRow : OpenClaim := { program := "ytnlnbgjpbnjjfaadoor", sum := "eb1c87ec6825cb4f6665559307afcfa3e2646258508f05a72d36d2c45d30fe06", func := "affidavit/affidavitlaw07.HmacPieces", spec := "hmacPieces", unfollowed := true, recurses := true, named := ["affidavit/sha.first", "affidavit/sha.constants"], apart := false, laid := [("affidavit/sha.first", laid_affidavit_sha_first), ("affidavit/sha.constants", laid_affidavit_sha_constants)], narrowed := true }
def HmacPiecesUptoSaid : Prop := hmacPiecesUptoRow.holds Tryd.pinned (OpenSpec.upto hmacPiecesSpec)

/-- 'affidavitlaw07.HmacExpands', WHERE WHAT IT READS IS OF BULK AT MOST 1048576: true; the input reads as it did. -/
def hmacExpandsUptoRow : OpenClaim := { program := "ytnlnbgjpbnjjfaadoor", sum := "eb1c87ec6825cb4f6665559307afcfa3e2646258508f05a72d36d2c45d30fe06", func := "affidavit/affidavitlaw07.HmacExpands", spec := "hmacExpands", unfollowed := true, recurses := true, named := ["affidavit/sha.first", "affidavit/sha.constants"], apart := false, laid := [("affidavit/sha.first", laid_affidavit_sha_first), ("affidavit/sha.constants", laid_affidavit_sha_constants)], narrowed := true }
def HmacExpandsUptoSaid : Prop := hmacExpandsUptoRow.holds Tryd.pinned (OpenSpec.upto hmacExpandsSpec)

/-- 'affidavitlaw07.HmacMacs', WHERE WHAT IT READS IS OF BULK AT MOST 1048576: true; the input reads as it did. -/
def hmacMacsUptoRow : OpenClaim := { program := "ytnlnbgjpbnjjfaadoor", sum := "eb1c87ec6825cb4f6665559307afcfa3e2646258508f05a72d36d2c45d30fe06", func := "affidavit/affidavitlaw07.HmacMacs", spec := "hmacMacs", unfollowed := true, recurses := true, named := ["affidavit/sha.first", "affidavit/sha.constants"], apart := false, laid := [("affidavit/sha.first", laid_affidavit_sha_first), ("affidavit/sha.constants", laid_affidavit_sha_constants)], narrowed := true }
def HmacMacsUptoSaid : Prop := hmacMacsUptoRow.holds Tryd.pinned (OpenSpec.upto hmacMacsSpec)

/-- 'affidavitlaw07.HmacRows', WHERE WHAT IT READS IS OF BULK AT MOST 1048576: true; the input reads as it did. -/
def hmacRowsUptoRow : OpenClaim := { program := "ytnlnbgjpbnjjfaadoor", sum := "eb1c87ec6825cb4f6665559307afcfa3e2646258508f05a72d36d2c45d30fe06", func := "affidavit/affidavitlaw07.HmacRows", spec := "hmacRows", unfollowed := true, recurses := true, named := ["internal/strconv.uint64pow10", "math/bits.deBruijn32tab", "math/bits.deBruijn64tab", "affidavit/sha.first", "affidavit/sha.constants"], apart := false, laid := [("math/bits.deBruijn32tab", laid_math_bits_deBruijn32tab), ("math/bits.deBruijn64tab", laid_math_bits_deBruijn64tab), ("internal/strconv.uint64pow10", laid_internal_strconv_uint64pow10), ("affidavit/sha.first", laid_affidavit_sha_first), ("affidavit/sha.constants", laid_affidavit_sha_constants)], narrowed := true }
def HmacRowsUptoSaid : Prop := hmacRowsUptoRow.holds Tryd.pinned (OpenSpec.upto hmacRowsSpec)

end Rows
end Go.Proofs.YtnlnbgjpbnjjfaaDoor
