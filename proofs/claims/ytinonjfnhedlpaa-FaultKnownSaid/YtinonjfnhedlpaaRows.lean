/-
  No cell of these rows narrows 'for every input' (looked for: loops, veiled, ifaces, maps, wideKeys, modest, calm, conditions, laid).
  DERIVED. THE GIVEN ROWS OF THIS SEAT. 5 by the template 'for every input the law returns true; each argument reads behind the call as it read before'; 0 by the template 'total and deterministic' (their statements: YtinonjfnhedlpaaTotals.lean).
  GIVEN WITH THE SEED: the statements are not yours to turn. If you find one false, say at which input.
  Laid BY PROGRAM, IN A SANDBOX (cutbox-rows.mjs): the forced cells as the released guide's own fill.sh prints them over the translation 56a4e7009de33da4… (all of the seat's roots in one cut). By AI agents, Wed Nov 11 2026. No macro, syntax, notation, axiom, sorry.
-/
import Derived.Test.YtinonjfnhedlpaaChecked
import GoSem.Claim
import GoSem.ClaimJoined
import GoSem.ClaimMapViews
import Derived.JoinedTies
import Derived.KernelRfl
namespace Go.Proofs.Ytinonjfnhedlpaa
/- THE CELL 'sum', in the pinned program and in every row, IS THE sha256 OF THE DUMP (.gsa) THAT YtinonjfnhedlpaaProg.lean LOADS. Nothing in Lean hashes anything: it is a label: what it is worth is what the hold of that sum in a sandbox is worth. -/
noncomputable def Try.pinned : Pinned := { name := "ytinonjfnhedlpaa", sum := "56a4e7009de33da40687ec63a49788cd78fb58dcb1b310fa11a4f108f9196dbe", checked := Try.checked }
namespace Rows
def none {H : Type} : Left H := { results := [], args := [] }

/-- 'affidavitlaw08.FaultTypes': WHATEVER THE INPUT: true; the input reads as it did. -/
def faultTypesSpec : ChangeSpec := { name := "faultTypes", fn := fun _ => fun
  | [d] => { results := [.lit (.bool true)], args := [d] }
  | _ => none }
def faultTypesRow : OpenClaim := { program := "ytinonjfnhedlpaa", sum := "56a4e7009de33da40687ec63a49788cd78fb58dcb1b310fa11a4f108f9196dbe", func := "affidavit/affidavitlaw08.FaultTypes", spec := "faultTypes", inPlace := ["internal/reflectlite.TypeOf"], unfollowed := true, recurses := true, apart := false }
def FaultTypesSaid : Prop := faultTypesRow.holds Try.pinned (OpenSpec.ofChange faultTypesSpec)

/-- ITS FALSE NEIGHBOUR: 'it returns false'. Refute it at one input. -/
def faultTypesWrong : ChangeSpec := { name := "faultTypes", fn := fun _ => fun
  | [d] => { results := [.lit (.bool false)], args := [d] }
  | _ => none }
def FaultTypesWrongFalsely : Prop := faultTypesRow.holds Try.pinned (OpenSpec.ofChange faultTypesWrong)

/-- 'affidavitlaw08.FaultAlike': WHATEVER THE INPUT: true; the input reads as it did. -/
def faultAlikeSpec : ChangeSpec := { name := "faultAlike", fn := fun _ => fun
  | [d1, d2] => { results := [.lit (.bool true)], args := [d1, d2] }
  | _ => none }
def faultAlikeRow : OpenClaim := { program := "ytinonjfnhedlpaa", sum := "56a4e7009de33da40687ec63a49788cd78fb58dcb1b310fa11a4f108f9196dbe", func := "affidavit/affidavitlaw08.FaultAlike", spec := "faultAlike", inPlace := ["internal/reflectlite.TypeOf"], unfollowed := true, recurses := true, apart := false }
def FaultAlikeSaid : Prop := faultAlikeRow.holds Try.pinned (OpenSpec.ofChange faultAlikeSpec)

/-- ITS FALSE NEIGHBOUR: 'it returns false'. Refute it at one input. -/
def faultAlikeWrong : ChangeSpec := { name := "faultAlike", fn := fun _ => fun
  | [d1, d2] => { results := [.lit (.bool false)], args := [d1, d2] }
  | _ => none }
def FaultAlikeWrongFalsely : Prop := faultAlikeRow.holds Try.pinned (OpenSpec.ofChange faultAlikeWrong)

/-- 'affidavitlaw08.FaultFresh': WHATEVER THE INPUT: true; the input reads as it did. -/
def faultFreshSpec : ChangeSpec := { name := "faultFresh", fn := fun _ => fun
  | [d] => { results := [.lit (.bool true)], args := [d] }
  | _ => none }
def faultFreshRow : OpenClaim := { program := "ytinonjfnhedlpaa", sum := "56a4e7009de33da40687ec63a49788cd78fb58dcb1b310fa11a4f108f9196dbe", func := "affidavit/affidavitlaw08.FaultFresh", spec := "faultFresh", inPlace := ["internal/reflectlite.TypeOf"], unfollowed := true, recurses := true, apart := false }
def FaultFreshSaid : Prop := faultFreshRow.holds Try.pinned (OpenSpec.ofChange faultFreshSpec)

/-- ITS FALSE NEIGHBOUR: 'it returns false'. Refute it at one input. -/
def faultFreshWrong : ChangeSpec := { name := "faultFresh", fn := fun _ => fun
  | [d] => { results := [.lit (.bool false)], args := [d] }
  | _ => none }
def FaultFreshWrongFalsely : Prop := faultFreshRow.holds Try.pinned (OpenSpec.ofChange faultFreshWrong)

/-- 'affidavitlaw08.FaultEven': WHATEVER THE INPUT: true; the input reads as it did. -/
def faultEvenSpec : ChangeSpec := { name := "faultEven", fn := fun _ => fun
  | [d1, d2] => { results := [.lit (.bool true)], args := [d1, d2] }
  | _ => none }
def faultEvenRow : OpenClaim := { program := "ytinonjfnhedlpaa", sum := "56a4e7009de33da40687ec63a49788cd78fb58dcb1b310fa11a4f108f9196dbe", func := "affidavit/affidavitlaw08.FaultEven", spec := "faultEven", inPlace := ["internal/reflectlite.TypeOf"], unfollowed := true, recurses := true, apart := false }
def FaultEvenSaid : Prop := faultEvenRow.holds Try.pinned (OpenSpec.ofChange faultEvenSpec)

/-- ITS FALSE NEIGHBOUR: 'it returns false'. Refute it at one input. -/
def faultEvenWrong : ChangeSpec := { name := "faultEven", fn := fun _ => fun
  | [d1, d2] => { results := [.lit (.bool false)], args := [d1, d2] }
  | _ => none }
def FaultEvenWrongFalsely : Prop := faultEvenRow.holds Try.pinned (OpenSpec.ofChange faultEvenWrong)

/-- 'affidavitlaw08.FaultKnown': WHATEVER THE INPUT: true; the input reads as it did. -/
def faultKnownSpec : ChangeSpec := { name := "faultKnown", fn := fun _ => fun
  | [] => { results := [.lit (.bool true)], args := [] }
  | _ => none }
def faultKnownRow : OpenClaim := { program := "ytinonjfnhedlpaa", sum := "56a4e7009de33da40687ec63a49788cd78fb58dcb1b310fa11a4f108f9196dbe", func := "affidavit/affidavitlaw08.FaultKnown", spec := "faultKnown", inPlace := ["internal/reflectlite.TypeOf"], unfollowed := true, recurses := true, apart := false }
def FaultKnownSaid : Prop := faultKnownRow.holds Try.pinned (OpenSpec.ofChange faultKnownSpec)

/-- ITS FALSE NEIGHBOUR: 'it returns false'. Refute it at one input. -/
def faultKnownWrong : ChangeSpec := { name := "faultKnown", fn := fun _ => fun
  | [] => { results := [.lit (.bool false)], args := [] }
  | _ => none }
def FaultKnownWrongFalsely : Prop := faultKnownRow.holds Try.pinned (OpenSpec.ofChange faultKnownWrong)

/- THE SECOND FORM. 'bulk': how many values and letters a reading holds, each counted each time it is reached (what is shared counts as often as it is met; a slice's spare places count too). A statement '..UptoSaid' is the law's where the arguments, and the package variables that the reading takes, are together of bulk at most 1048576: NARROWER than '..Said'. Prove '..Said' where nothing that the law and all that it calls make is longer than what came in: it says more and counts as full. Else prove '..UptoSaid'. A law counts once. -/
mutual
def uptoBulk {H : Type} : DataW H → Nat
  | .lit (.string bytes) => bytes.length + 1
  | .lit _ => 1
  | .nil => 1
  | .ptr d => uptoBulk d + 1
  | .slice elems spare => uptoBulkAll elems + uptoBulkAll spare + 1
  | .agg parts => uptoBulkAll parts + 1
  | .iface _ d => uptoBulk d + 1
  | .map entries => uptoBulkEntries entries + 1
  | .held _ => 1
def uptoBulkAll {H : Type} : List (DataW H) → Nat
  | [] => 0
  | d :: r => uptoBulk d + uptoBulkAll r
def uptoBulkEntries {H : Type} : List (Lit × DataW H) → Nat
  | [] => 0
  | x :: r => uptoBulkEntry x + uptoBulkEntries r
def uptoBulkEntry {H : Type} : Lit × DataW H → Nat
  | (.string bytes, d) => bytes.length + uptoBulk d + 1
  | (_, d) => uptoBulk d + 1
 end
def uptoSmall : (H : Type) → List (DataW H) → Bool := fun _ ds => decide (uptoBulkAll ds ≤ 1048576)
def OpenSpec.upto (s : _root_.Go.ChangeSpec) : _root_.Go.OpenSpec := { _root_.Go.OpenSpec.ofChange s with cond := some uptoSmall }

/-- 'affidavitlaw08.FaultTypes', WHERE WHAT IT READS IS OF BULK AT MOST 1048576: true; the input reads as it did. -/
def faultTypesUptoRow : OpenClaim := { program := "ytinonjfnhedlpaa", sum := "56a4e7009de33da40687ec63a49788cd78fb58dcb1b310fa11a4f108f9196dbe", func := "affidavit/affidavitlaw08.FaultTypes", spec := "faultTypes", inPlace := ["internal/reflectlite.TypeOf"], unfollowed := true, recurses := true, apart := false, narrowed := true }
def FaultTypesUptoSaid : Prop := faultTypesUptoRow.holds Try.pinned (OpenSpec.upto faultTypesSpec)

/-- 'affidavitlaw08.FaultAlike', WHERE WHAT IT READS IS OF BULK AT MOST 1048576: true; the input reads as it did. -/
def faultAlikeUptoRow : OpenClaim := { program := "ytinonjfnhedlpaa", sum := "56a4e7009de33da40687ec63a49788cd78fb58dcb1b310fa11a4f108f9196dbe", func := "affidavit/affidavitlaw08.FaultAlike", spec := "faultAlike", inPlace := ["internal/reflectlite.TypeOf"], unfollowed := true, recurses := true, apart := false, narrowed := true }
def FaultAlikeUptoSaid : Prop := faultAlikeUptoRow.holds Try.pinned (OpenSpec.upto faultAlikeSpec)

/-- 'affidavitlaw08.FaultFresh', WHERE WHAT IT READS IS OF BULK AT MOST 1048576: true; the input reads as it did. -/
def faultFreshUptoRow : OpenClaim := { program := "ytinonjfnhedlpaa", sum := "56a4e7009de33da40687ec63a49788cd78fb58dcb1b310fa11a4f108f9196dbe", func := "affidavit/affidavitlaw08.FaultFresh", spec := "faultFresh", inPlace := ["internal/reflectlite.TypeOf"], unfollowed := true, recurses := true, apart := false, narrowed := true }
def FaultFreshUptoSaid : Prop := faultFreshUptoRow.holds Try.pinned (OpenSpec.upto faultFreshSpec)

/-- 'affidavitlaw08.FaultEven', WHERE WHAT IT READS IS OF BULK AT MOST 1048576: true; the input reads as it did. -/
def faultEvenUptoRow : OpenClaim := { program := "ytinonjfnhedlpaa", sum := "56a4e7009de33da40687ec63a49788cd78fb58dcb1b310fa11a4f108f9196dbe", func := "affidavit/affidavitlaw08.FaultEven", spec := "faultEven", inPlace := ["internal/reflectlite.TypeOf"], unfollowed := true, recurses := true, apart := false, narrowed := true }
def FaultEvenUptoSaid : Prop := faultEvenUptoRow.holds Try.pinned (OpenSpec.upto faultEvenSpec)

/-- 'affidavitlaw08.FaultKnown', WHERE WHAT IT READS IS OF BULK AT MOST 1048576: true; the input reads as it did. -/
def faultKnownUptoRow : OpenClaim := { program := "ytinonjfnhedlpaa", sum := "56a4e7009de33da40687ec63a49788cd78fb58dcb1b310fa11a4f108f9196dbe", func := "affidavit/affidavitlaw08.FaultKnown", spec := "faultKnown", inPlace := ["internal/reflectlite.TypeOf"], unfollowed := true, recurses := true, apart := false, narrowed := true }
def FaultKnownUptoSaid : Prop := faultKnownUptoRow.holds Try.pinned (OpenSpec.upto faultKnownSpec)

end Rows
end Go.Proofs.Ytinonjfnhedlpaa
