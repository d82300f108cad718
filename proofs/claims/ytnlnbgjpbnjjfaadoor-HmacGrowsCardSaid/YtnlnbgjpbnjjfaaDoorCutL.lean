/-
  Slicing a slice: the value under one name, and what it reads.
-/
import Derived.Test.YtnlnbgjpbnjjfaaDoorMem
namespace Go.Aff
open Go Go.RowKit
section
variable {P : Program} {T e : TypeId}
theorem elem_of (hu : P.underlying T = some (.slice e)) : P.elem T = e := by
  unfold Program.elem; rw [hu]
theorem size_one (hu : P.underlying T = some (.slice e)) (hz : (P.info? e).map (·.size) = some 1) (w : World) : (sizeOf (P.elem T)).run P w = .ok 1 w := by
  rw [elem_of hu]
  obtain ⟨i, hi, hs⟩ := Option.map_eq_some_iff.1 hz
  simp [sizeOf, typeInfo, hi, hs]
/-- The address of a cut. -/
def cutA (A : Option Addr) (c l : Nat) : Option Addr := if c = l then A else A.map (·.add l)
theorem cut_lh (hu : P.underlying T = some (.slice e)) (hz : (P.info? e).map (·.size) = some 1) (A : Option Addr) (n c l h : Nat) (li hi : Int) (hli : li = l) (hhi : hi = h) (h1 : l ≤ h) (h2 : h ≤ c) (w : World) :
    (Instr.sliceAt T (.slice A n c) (some (.int .i64 li)) (some (.int .i64 hi)) none).run P w = .ok (.slice (cutA A c l) (h - l) (c - l)) w := by
  subst hli hhi
  have hu' : P.underlying T = some (.slice (P.elem T)) := by rw [elem_of hu]; exact hu
  rw [run_sliceAt_slice w T _ _ _ _ hu', run_slice_lh w T A n c hu' .i64 .i64 l h (by omega) (by omega) (by omega), size_one hu hz]
  simp [sliced, cutA]
theorem cut_l (hu : P.underlying T = some (.slice e)) (hz : (P.info? e).map (·.size) = some 1) (A : Option Addr) (n c l : Nat) (li : Int) (hli : li = l) (h1 : l ≤ n) (w : World) :
    (Instr.sliceAt T (.slice A n c) (some (.int .i64 li)) none none).run P w = .ok (.slice (cutA A c l) (n - l) (c - l)) w := by
  subst hli
  have hu' : P.underlying T = some (.slice (P.elem T)) := by rw [elem_of hu]; exact hu
  rw [run_sliceAt_slice w T _ _ _ _ hu', run_slice_l w T A n c hu' .i64 l (by omega) (by omega), size_one hu hz]
  simp [sliced, cutA]
theorem cut_h (hu : P.underlying T = some (.slice e)) (hz : (P.info? e).map (·.size) = some 1) (A : Option Addr) (n c h : Nat) (hi : Int) (hhi : hi = h) (h2 : h ≤ c) (w : World) :
    (Instr.sliceAt T (.slice A n c) none (some (.int .i64 hi)) none).run P w = .ok (.slice (cutA A c 0) h c) w := by
  subst hhi
  have hu' : P.underlying T = some (.slice (P.elem T)) := by rw [elem_of hu]; exact hu
  rw [run_sliceAt_slice w T _ _ _ _ hu', run_slice_h w T A n c hu' .i64 h (by omega) (by omega), size_one hu hz]
  simp [sliced, cutA]
end
theorem Rd.cutA {w : World} {A : Option Addr} {n : Nat} {xs : List Value} (h : Rd w A n xs) {l c : Nat} (hl : l ≤ n) (hc : n ≤ c) : Rd w (Aff.cutA A c l) (n - l) (xs.drop l) := h.cut hl hc
theorem Rd.cutLH {w : World} {A : Option Addr} {n : Nat} {xs : List Value} (h : Rd w A n xs) {l k c : Nat} (hl : l ≤ k) (hk : k ≤ n) (hc : n ≤ c) : Rd w (Aff.cutA A c l) (k - l) ((xs.drop l).take (k - l)) := (h.cut (by omega) hc).take (by omega)
theorem Out.cutA {F : Nat → Prop} {A : Option Addr} {n : Nat} (h : Out F A n) {l c : Nat} (hl : l ≤ n) (hc : n ≤ c) : Out F (Aff.cutA A c l) (n - l) := h.cut hl hc
end Go.Aff
