/-
  The reference's numbers (primes, roots), plain, in the walk's spelling.
-/
import Derived.WalkKit
import Derived.Test.YtknecjjdegngfaaDoorSha
import Derived.Laws.Bits64
import Derived.OpenShut
namespace Go.Sha
open Go
def lo32 (x : Int) : Int := bits .and .u64 x 4294967295
def mulT (x y : Int) : Int := IntKind.u64.wrap (IntKind.u64.wrap (x / 4294967296 * lo32 y) + IntKind.u64.wrap (lo32 x * lo32 y) / 4294967296)
def mulHi (x y : Int) : Int := IntKind.u64.wrap (IntKind.u64.wrap (IntKind.u64.wrap (x / 4294967296 * (y / 4294967296)) + mulT x y / 4294967296) + IntKind.u64.wrap (lo32 (mulT x y) + IntKind.u64.wrap (lo32 x * (y / 4294967296))) / 4294967296)
def mulLo (x y : Int) : Int := IntKind.u64.wrap (x * y)
theorem wrap_nonneg (x : Int) : 0 ≤ IntKind.u64.wrap x := by rw [IntKind.wrap_u64]; omega
theorem mulHi_nonneg (x y : Int) : 0 ≤ mulHi x y := wrap_nonneg _
theorem mulLo_nonneg (x y : Int) : 0 ≤ mulLo x y := wrap_nonneg _
def sqB (s p : Int) : Bool := decide (mulHi s s < p) || (mulHi s s == p && mulLo s s == 0)
def cubeTop (s : Int) : Int := IntKind.u64.wrap (mulHi (mulLo s s) s + IntKind.u64.wrap (mulHi s s * s))
def cubeB (s p : Int) : Bool := decide (cubeTop s < IntKind.u64.wrap (p * 4294967296)) || (cubeTop s == IntKind.u64.wrap (p * 4294967296) && mulLo (mulLo s s) s == 0)
/-- A round of the root: bit j. -/
def rootT (j : Nat) (x : Int) : Int := bits .or .u64 x (IntKind.u64.wrap (2 ^ j))
def rootC (three : Bool) (p t : Int) : Bool := bif three then decide (t < 68719476736) && cubeB t p else sqB t p
def rootL (three : Bool) (p : Int) : Nat → Int → Int
  | 0, x => x
  | j + 1, x => rootL three p j (bif rootC three p (rootT j x) then rootT j x else x)
def rootF (p : Int) (three : Bool) : Int := IntKind.u32.wrap (rootL three p 40 0)
theorem rootT_nonneg (j : Nat) (x : Int) : 0 ≤ rootT j x := by
  have h : ∀ z, (Lit.int .u64 z).wf = true → 0 ≤ z := fun z hz => (bounds_u64 hz).1
  exact h _ (wf_bits .or .u64 x _)
theorem rootC_true {p t : Int} {b c : Bool} (h : decide (t < 68719476736) = b) (hc : c = cubeB t p) : rootC true p t = (b && c) := by unfold rootC; rw [h, hc]; rfl
theorem rootC_false {p t : Int} {c : Bool} (hc : c = sqB t p) : rootC false p t = c := by unfold rootC; rw [hc]; rfl
theorem rootL_yes {three : Bool} {p x t : Int} {j : Nat} (ht : t = rootT j x) (hc : rootC three p t = true) : rootL three p (j + 1) x = rootL three p j t := by
  subst ht; show rootL three p j (bif rootC three p (rootT j x) then rootT j x else x) = _; rw [hc]; rfl
theorem rootL_no {three : Bool} {p x t : Int} {j : Nat} (ht : t = rootT j x) (hc : rootC three p t = false) : rootL three p (j + 1) x = rootL three p j x := by
  subst ht; show rootL three p j (bif rootC three p (rootT j x) then rootT j x else x) = _; rw [hc]; rfl
/-- The inner loop of primes, from divisor d on. -/
def innerL (p : Int) : Nat → Int → Bool → Bool
  | 0, _, is => is
  | f + 1, d, is => bif decide (d * d ≤ p) && is then innerL p f (d + 1) (p % d != 0) else is
def isPr (p : Int) : Bool := innerL p 18 2 true
def outerL : Nat → Nat → Int → List Int → Option (List Int)
  | 0, n, _, l => bif decide (n < 64) then none else some l
  | f + 1, n, p, l => bif decide (n < 64) then (bif isPr p then outerL f (n + 1) (p + 1) (l.set n p) else outerL f n (p + 1) l) else some l
def primesL : List Int := [2, 3, 5, 7, 11, 13, 17, 19, 23, 29, 31, 37, 41, 43, 47, 53, 59, 61, 67, 71, 73, 79, 83, 89, 97, 101, 103, 107, 109, 113, 127, 131, 137, 139, 149, 151, 157, 163, 167, 173, 179, 181, 191, 193, 197, 199, 211, 223, 227, 229, 233, 239, 241, 251, 257, 263, 269, 271, 277, 281, 283, 293, 307, 311]
set_option maxRecDepth 100000 in
theorem outer_all : outerL 310 0 2 (List.replicate 64 0) = some primesL := by decide +kernel
set_option maxRecDepth 100000 in
theorem roots_cube : primesL.map (fun p => rootF p true) = K := by decide +kernel
set_option maxRecDepth 100000 in
theorem roots_square : (primesL.take 8).map (fun p => rootF p false) = firstL := by decide +kernel
theorem inner_go {p d : Int} {f : Nat} (h : d * d ≤ p) : innerL p (f + 1) d true = innerL p f (d + 1) (p % d != 0) := by
  show (bif decide (d * d ≤ p) && true then _ else _) = _
  rw [decide_eq_true h]; rfl
theorem inner_stop {p d : Int} {f : Nat} {b : Bool} (h : ¬ d * d ≤ p) : innerL p f d b = b := by
  cases f with
  | zero => rfl
  | succ f => show (bif decide (d * d ≤ p) && b then _ else _) = _; rw [decide_eq_false h]; rfl
theorem inner_false {p d : Int} {f : Nat} : innerL p f d false = false := by
  cases f with
  | zero => rfl
  | succ f => show (bif decide (d * d ≤ p) && false then _ else _) = _; rw [Bool.and_false]; rfl
theorem outer_fuel {n : Nat} {p : Int} {l r : List Int} (h : outerL 0 n p l = some r) : ¬ n < 64 := by
  intro hn
  have : (bif decide (n < 64) then none else some l) = some r := h
  rw [decide_eq_true hn] at this
  cases this
theorem outer_yes {n f : Nat} {p : Int} {l : List Int} (h : n < 64) (hp : isPr p = true) : outerL (f + 1) n p l = outerL f (n + 1) (p + 1) (l.set n p) := by
  show (bif decide (n < 64) then (bif isPr p then _ else _) else _) = _
  rw [decide_eq_true h, hp]; rfl
theorem outer_no {n f : Nat} {p : Int} {l : List Int} (h : n < 64) (hp : isPr p = false) : outerL (f + 1) n p l = outerL f n (p + 1) l := by
  show (bif decide (n < 64) then (bif isPr p then _ else _) else _) = _
  rw [decide_eq_true h, hp]; rfl
theorem outer_end {n f : Nat} {p : Int} {l : List Int} (h : ¬ n < 64) : outerL f n p l = some l := by
  cases f with
  | zero => show (bif decide (n < 64) then none else some l) = _; rw [decide_eq_false h]; rfl
  | succ f => show (bif decide (n < 64) then (bif isPr p then _ else _) else some l) = _; rw [decide_eq_false h]; rfl
end Go.Sha
