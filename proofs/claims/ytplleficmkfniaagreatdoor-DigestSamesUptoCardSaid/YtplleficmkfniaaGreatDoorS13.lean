/- Texts. -/
import Derived.Test.YtplleficmkfniaaGreatDoorS12
set_option linter.unusedSimpArgs false
set_option maxRecDepth 100000
set_option maxHeartbeats 4000000
namespace Go.Utf
inductive RL : List Int → List Int → Prop
 | nil : RL [] []
 | cons {l : List Int} {r : Int} {n : Nat} {rs : List Int} (h : atR l = some (r, n)) (ht : RL (l.drop n) rs) : RL l (r :: rs)
theorem RL.len {l rs : List Int} (h : RL l rs) : rs.length ≤ l.length := by
 induction h with
 | nil => exact Nat.le_refl _
 | cons h ht ih =>
  have := atR_len h
  rw [List.length_drop] at ih
  simp only [List.length_cons]
  omega
end Go.Utf
namespace Go.Proofs.YtplleficmkfniaaGreatDoor
open Go Go.RowKit Go.Aff Go.Utf Go.Json
theorem RdS.rd {w : World} {A : Option Addr} {n : Nat} {xs : List Value} (h : RdS 1 w A n xs) : Rd w A n xs := ⟨by have := h.1; omega, fun hn => by have := h.2 hn; rw [Nat.mul_one] at this; exact this⟩
theorem MineS.rd {w wr : World} {e : TypeId} {A : Option Addr} {m c : Nat} {xs : List Value} (h : MineS 1 w wr e A m c xs) : Rd wr A m xs := Rd.of_own h.1
structure TwoAt (w W : World) (p q : Addr) (x y : Value) : Prop where
 keep : Keeps (fun _ => False) w W
 c1 : W.cell? p = some x
 c2 : W.cell? q = some y
theorem TwoAt.stay {w W W' : World} {p q : Addr} {x y : Value} (h : TwoAt w W p q x y) (k : Keeps (fun _ => False) W W') : TwoAt w W' p q x y := ⟨h.keep.trans k (fun _ _ h => h), cell_keep k h.c1, cell_keep k h.c2⟩
end Go.Proofs.YtplleficmkfniaaGreatDoor
namespace Go.Proofs.YtplleficmkfniaaGreatDoor
open Go Go.RowKit Go.Aff Go.Json
end Go.Proofs.YtplleficmkfniaaGreatDoor
