/-
  Strings out of bytes: a slice that reads as a list (nil, empty or not), converted; held against one another.
-/
import Derived.Test.YtnlnbgjpbnjjfaaDoorMem
import Derived.Laws.BytesArg
import Derived.Lib.Bytes
namespace Go.Sha
open Go Go.Aff
theorem bytesOf_inj {xs ys : List Int} (hx : IsBytes xs) (hy : IsBytes ys) (h : Lib.bytesOf xs = Lib.bytesOf ys) : xs = ys := by
  unfold Lib.bytesOf at h
  induction xs generalizing ys with
  | nil => cases ys with
    | nil => rfl
    | cons y ys => simp at h
  | cons x xs ih => cases ys with
    | nil => simp at h
    | cons y ys =>
      simp only [List.map_cons, List.cons.injEq] at h
      have h1 := hx x (by simp)
      have h2 := hy y (by simp)
      have e := congrArg UInt8.toNat h.1
      have e1 : x = y := by
        simp at e
        omega
      rw [e1, ih (fun z hz => hx z (by simp [hz])) (fun z hz => hy z (by simp [hz])) h.2]
end Go.Sha
namespace Go.Aff
open Go Go.RowKit
section
variable {P : Program}
theorem convert_zero (w : World) (src e : TypeId) (hs : P.underlying src = some (.slice e)) (he : P.underlying e = some (.int .u8)) (p : Option Addr) (c : Nat) (dst : TypeId) (hd : P.underlying dst = some .string) :
    (convert src dst (.slice p 0 c)).run P w = .ok (.string (strOfNums [])) w := by
  rw [run_convert_bytes_string w src dst e _ 0 c hs he hd]
  cases p <;> simp [Conv.bytesToString, loadCells]
  all_goals rfl
/-- 'string(b)'. -/
theorem convert_rd (w : World) {src e dst : TypeId} (hs : P.underlying src = some (.slice e)) (he : P.underlying e = some (.int .u8)) (hd : P.underlying dst = some .string) {A : Option Addr} {n : Nat} (c : Nat) {xs : List Int} (h : Rd w A n (vb xs)) :
    (convert src dst (.slice A n c)).run P w = .ok (.string (strOfNums xs)) w := by
  have hl : xs.length = n := by have := h.1; simpa [vb] using this
  rcases Nat.eq_zero_or_pos n with h0 | h0
  · subst h0
    obtain rfl : xs = [] := List.eq_nil_of_length_eq_zero hl
    exact convert_zero w src e hs he A c dst hd
  · obtain ⟨g, o, rfl, hc⟩ := h.2 h0
    refine run_convert_bytes_arg w src e hs he g o n c xs hl (fun i hi => ?_) dst hd
    rw [hc i hi]
    simp [vb, hl, hi]
theorem str_inj {xs ys : List Int} (hx : IsBytes xs) (hy : IsBytes ys) (h : strOfNums xs = strOfNums ys) : xs = ys := by
  have h1 : (strOfNums xs).data.toList = (strOfNums ys).data.toList := by rw [h]
  rw [strOfNums_data, strOfNums_data] at h1
  exact Go.Sha.bytesOf_inj hx hy h1
theorem toList_inj {a b : ByteArray} (h : a.toList = b.toList) : a = b := by
  have h1 : a.data.toList = b.data.toList := by
    rw [← ByteArray.toList_eq, ← ByteArray.toList_eq]
    exact h
  exact ByteArray.ext (Array.toList_inj.1 h1)
theorem str_eql (w : World) (t : TypeId) {xs ys : List Int} (hx : IsBytes xs) (hy : IsBytes ys) : (binOp .eql t (.string (strOfNums xs)) (.string (strOfNums ys))).run P w = .ok (.bool (decide (xs = ys))) w := by
  rw [binOp_string_eql, Sem.run_pure]
  congr 2
  rw [Bool.eq_iff_iff]
  simp only [beq_iff_eq, decide_eq_true_iff]
  exact ⟨fun h => str_inj hx hy (toList_inj h), fun h => by rw [h]⟩
end
end Go.Aff
