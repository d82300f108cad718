/-
  Keyed digests of rows, in plain Lean: no program in sight.
-/
import Derived.Test.YtnlnbgjpbnjjfaaDoorSumW
import Derived.Laws.BitsAllLaws
namespace Go.Mac
open Go Go.Aff Go.Sha
/-- What lies in a key's block, ahead of the noughts. -/
def keyIn (key : List Int) : List Int := if key.length ≤ 64 then key else sumF first 0 key
/-- A key's block. -/
def keyB (key : List Int) : List Int := keyIn key ++ List.replicate (64 - (keyIn key).length) 0
def xorB (K : List Int) (x : Int) : List Int := K.map fun k => bits .xor .u8 k x
/-- What an inner hash began with. -/
def inB (key : List Int) : List Int := xorB (keyB key) 0x36
def outB (key : List Int) : List Int := xorB (keyB key) 0x5c
/-- A keyed digest. -/
def macF (key msg : List Int) : List Int := sumF first 0 (outB key ++ sumF first 0 (inB key ++ msg))

theorem keyIn_le (key : List Int) : (keyIn key).length ≤ 64 := by
  unfold keyIn; split
  · assumption
  · rw [sumF_length]; omega
theorem keyB_length (key : List Int) : (keyB key).length = 64 := by
  have := keyIn_le key
  simp [keyB]; omega
theorem sumF_bytes (S : Nat → Int) (nb : Nat) (X : List Int) : IsBytes (sumF S nb X) := dg_bytes _
theorem keyB_bytes {key : List Int} (h : IsBytes key) : IsBytes (keyB key) := by
  intro x hx
  rcases List.mem_append.1 hx with hx | hx
  · unfold keyIn at hx
    split at hx
    · exact h x hx
    · exact sumF_bytes _ _ _ x hx
  · have := List.eq_of_mem_replicate hx
    omega
theorem xor_byte {a b : Int} (ha : 0 ≤ a ∧ a < 256) (hb : 0 ≤ b ∧ b < 256) : 0 ≤ bits .xor .u8 a b ∧ bits .xor .u8 a b < 256 := by
  rw [u8_xor a b ha.1 ha.2 hb.1 hb.2]
  have h : a.toNat ^^^ b.toNat < 2 ^ 8 := Nat.xor_lt_two_pow (by omega) (by omega)
  omega
theorem xorB_length (K : List Int) (x : Int) : (xorB K x).length = K.length := by simp [xorB]
theorem xorB_bytes {K : List Int} (h : IsBytes K) {x : Int} (hx : 0 ≤ x ∧ x < 256) : IsBytes (xorB K x) := by
  intro y hy
  obtain ⟨k, hk, rfl⟩ := List.mem_map.1 hy
  exact xor_byte (h k hk) hx
theorem inB_length (key : List Int) : (inB key).length = 64 := by rw [inB, xorB_length, keyB_length]
theorem outB_length (key : List Int) : (outB key).length = 64 := by rw [outB, xorB_length, keyB_length]
theorem inB_bytes {key : List Int} (h : IsBytes key) : IsBytes (inB key) := xorB_bytes (keyB_bytes h) (by omega)
theorem outB_bytes {key : List Int} (h : IsBytes key) : IsBytes (outB key) := xorB_bytes (keyB_bytes h) (by omega)
theorem macF_length (key msg : List Int) : (macF key msg).length = 32 := sumF_length _ _ _
theorem macF_bytes (key msg : List Int) : IsBytes (macF key msg) := sumF_bytes _ _ _

/-- Noughts behind a short key change nothing. -/
theorem keyB_noughts (key : List Int) (m : Nat) (h : key.length + m ≤ 64) : keyB (key ++ List.replicate m 0) = keyB key := by
  unfold keyB keyIn
  rw [if_pos (by simp; omega), if_pos (by omega)]
  rw [List.append_assoc, List.replicate_append_replicate, List.length_append, List.length_replicate]
  congr 2
  omega
theorem macF_noughts (key msg : List Int) (m : Nat) (h : key.length + m ≤ 64) : macF (key ++ List.replicate m 0) msg = macF key msg := by
  unfold macF inB outB; rw [keyB_noughts key m h]
/-- A long key's digest in its place changes nothing. -/
theorem keyB_long (key : List Int) (h : 64 < key.length) : keyB (sumF first 0 key) = keyB key := by
  unfold keyB keyIn
  rw [if_pos (by rw [sumF_length]; omega), if_neg (by omega)]
theorem macF_long (key msg : List Int) (h : 64 < key.length) : macF (sumF first 0 key) msg = macF key msg := by
  unfold macF inB outB; rw [keyB_long key h]
end Go.Mac
