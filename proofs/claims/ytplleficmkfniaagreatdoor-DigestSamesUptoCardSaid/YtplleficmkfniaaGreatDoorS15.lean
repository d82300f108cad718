/- Texts. -/
import Derived.Test.YtplleficmkfniaaGreatDoorS14
set_option linter.unusedSimpArgs false
set_option maxRecDepth 100000
set_option maxHeartbeats 4000000
namespace Go.Json
end Go.Json
namespace Go.Proofs.YtplleficmkfniaaGreatDoor
open Go Go.RowKit Go.Aff Go.Json Go.Utf
end Go.Proofs.YtplleficmkfniaaGreatDoor
namespace Go.Json
open Go.Utf
section
variable {α : Type}
def NotM (l : List (ByteArray × α)) : Prop := l.Pairwise fun p q => ¬ ltS q.1 p.1
structure MixM (all done ra rb : List (ByteArray × α)) : Prop where
 perm : (done ++ (ra ++ rb)).Perm all
 d : NotM done
 a : NotM ra
 b : NotM rb
 lo : ∀ x ∈ done, ∀ y ∈ ra ++ rb, ¬ ltS y.1 x.1
theorem MixM.start {ra rb : List (ByteArray × α)} (ha : NotM ra) (hb : NotM rb) : MixM (ra ++ rb) [] ra rb := ⟨.refl _, .nil, ha, hb, fun x h => by simp at h⟩
theorem notM_snoc {l : List (ByteArray × α)} {x : ByteArray × α} (h : NotM l) (hx : ∀ y ∈ l, ¬ ltS x.1 y.1) : NotM (l ++ [x]) := by
 refine List.pairwise_append.2 ⟨h, List.pairwise_singleton _ _, fun a ha b hb => ?_⟩
 rw [List.mem_singleton.1 hb]
 exact hx a ha
theorem MixM.left {all done ra rb : List (ByteArray × α)} {x : ByteArray × α} (h : MixM all done (x :: ra) rb) (hall : ∀ s ∈ all, rightS s.1 = true) (hx : ∀ y ∈ rb.head?, ¬ ltS y.1 x.1) : MixM all (done ++ [x]) ra rb := by
 have hm : ∀ s, s ∈ done ++ (x :: ra ++ rb) → rightS s.1 = true := fun s hs => hall s (h.perm.mem_iff.1 hs)
 have hxr : rightS x.1 = true := hm x (by simp)
 have ha := List.pairwise_cons.1 h.a
 have hyb : ∀ y ∈ rb, ¬ ltS y.1 x.1 := fun y hy => by
  match rb, h.b, hx, hy with
  | z :: rb', hb, hx, hy =>
   have hz := hx z rfl
   rcases List.mem_cons.1 hy with rfl | hy'
   ·exact hz
   ·exact notF_trans hz ((List.pairwise_cons.1 hb).1 y hy') hxr (hm z (by simp))
 refine ⟨?_, notM_snoc h.d fun y hy => h.lo y hy x (by simp), ha.2, h.b, fun p hp y hy => ?_⟩
 ·have : done ++ [x] ++ (ra ++ rb) = done ++ (x :: ra ++ rb) := by simp
  rw [this]; exact h.perm
 ·rcases List.mem_append.1 hp with hp | hp
  ·exact h.lo p hp y (by rcases List.mem_append.1 hy with h2 | h2 <;> simp [h2])
  ·rw [List.mem_singleton.1 hp]
   rcases List.mem_append.1 hy with hy | hy
   ·exact ha.1 y hy
   ·exact hyb y hy
theorem MixM.swap {all done ra rb : List (ByteArray × α)} (h : MixM all done ra rb) : MixM all done rb ra :=
 ⟨((List.Perm.refl done).append List.perm_append_comm).trans h.perm, h.d, h.b, h.a, fun x hx y hy => h.lo x hx y (by rcases List.mem_append.1 hy with h2 | h2 <;> simp [h2])⟩
theorem MixM.right {all done ra rb : List (ByteArray × α)} {x : ByteArray × α} (h : MixM all done ra (x :: rb)) (hall : ∀ s ∈ all, rightS s.1 = true) (hx : ∀ y ∈ ra.head?, ¬ ltS y.1 x.1) : MixM all (done ++ [x]) ra rb := (h.swap.left hall hx).swap
end
end Go.Json
namespace Go.Proofs.YtplleficmkfniaaGreatDoor
open Go Go.RowKit Go.Aff Go.Json Go.Utf
abbrev MemV := ByteArray × List Value
end Go.Proofs.YtplleficmkfniaaGreatDoor
