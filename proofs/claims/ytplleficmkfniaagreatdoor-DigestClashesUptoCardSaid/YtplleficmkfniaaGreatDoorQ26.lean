/- Texts. -/
import Derived.Test.YtplleficmkfniaaGreatDoorQ25
set_option linter.unusedSimpArgs false
set_option maxRecDepth 100000
set_option maxHeartbeats 4000000
namespace Go.Mac
end Go.Mac
namespace Go.Json
open Go.Mac
def idxF (t : ByteArray) (n : Nat) : Option Nat := (List.range n).find? fun i => decide (sb t = lenF i)
def keyI (ks : List ByteArray) (t : ByteArray) : Option Nat := (List.range ks.length).find? fun i => decide (ks[i]? = some t)
def JV.onI (v : JV) (t : ByteArray) : Option Nat :=
 match v with
 | .list l => idxF t l.length
 | .obj ks _ => keyI ks t
 | _ => none
def JV.on (v : JV) (t : ByteArray) : Option JV := (v.onI t).bind fun i => v.items[i]?
end Go.Json
namespace Go.Dig
open Go Go.Sha Go.Aff Go.Json Go.Book Go.Mac
def StandsD (x : LevelV) (t : ByteArray) : Prop := (x.sort = 5 ∨ x.sort = 6) ∧ 1 ≤ x.count ∧ x.count ≤ 65536 ∧ 0 ≤ x.at_ ∧ x.at_ < x.count ∧ x.sides.length = manyN x.count.toNat x.at_.toNat ∧ (x.sort = 5 → idxF t x.count.toNat = some x.at_.toNat)
instance (x : LevelV) (t : ByteArray) : Decidable (StandsD x t) := inferInstanceAs (Decidable (_ ∧ _))
inductive Rise : JV → Prop
 | mk (j : JV) (hp : j.keys.Pairwise ltS) (h : ∀ x, x ∈ j.items → Rise x) : Rise j
theorem Rise.keys {j : JV} (h : Rise j) : j.keys.Pairwise ltS := by cases h with | mk _ hp _ => exact hp
theorem Rise.item {j x : JV} (h : Rise j) (hx : x ∈ j.items) : Rise x := by cases h with | mk _ _ h => exact h x hx
structure BesV where
 key : ByteArray
 value : List Int
 at_ : Int
 sides : List (List Int)
def BesOk (count : Int) (b : BesV) : Prop := rightS b.key = true ∧ 0 ≤ b.at_ ∧ b.at_ < count ∧ b.sides.length = manyN count.toNat b.at_.toNat
instance (count : Int) (b : BesV) : Decidable (BesOk count b) := inferInstanceAs (Decidable (_ ∧ _))
def rowOf : JV → List (List Int)
 | .list l => l.map fun x => x.dg
 | .obj ks l => memsD ks (l.map fun x => x.dg)
 | _ => []
end Go.Dig
