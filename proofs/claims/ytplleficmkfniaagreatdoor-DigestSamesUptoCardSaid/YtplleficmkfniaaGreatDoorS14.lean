/- Texts. -/
import Derived.Test.YtplleficmkfniaaGreatDoorS13
set_option linter.unusedSimpArgs false
set_option maxRecDepth 100000
set_option maxHeartbeats 4000000
namespace Go.Json
open Go.Utf
def NotF (l : List ByteArray) : Prop := l.Pairwise fun a b => ¬ ltS b a
structure Mix (all done ra rb : List ByteArray) : Prop where
 perm : (done ++ (ra ++ rb)).Perm all
 d : NotF done
 a : NotF ra
 b : NotF rb
 lo : ∀ x ∈ done, ∀ y ∈ ra ++ rb, ¬ ltS y x
theorem notF_trans {a b c : ByteArray} (h : ¬ ltS b a) (h2 : ¬ ltS c b) (ha : rightS a = true) (hb : rightS b = true) : ¬ ltS c a := fun h3 => by
 rcases ltS_tri ha hb with h4 | h4 | h4
 ·exact h2 (ltS_trans h3 h4)
 ·subst h4; exact h2 h3
 ·exact h h4
theorem Mix.start {ra rb : List ByteArray} (ha : NotF ra) (hb : NotF rb) : Mix (ra ++ rb) [] ra rb := ⟨.refl _, .nil, ha, hb, fun x h => by simp at h⟩
theorem notF_snoc {l : List ByteArray} {x : ByteArray} (h : NotF l) (hx : ∀ y ∈ l, ¬ ltS x y) : NotF (l ++ [x]) := by
 refine List.pairwise_append.2 ⟨h, List.pairwise_singleton _ _, fun a ha b hb => ?_⟩
 rw [List.mem_singleton.1 hb]
 exact hx a ha
theorem Mix.left {all done ra rb : List ByteArray} {x : ByteArray} (h : Mix all done (x :: ra) rb) (hall : ∀ s ∈ all, rightS s = true) (hx : ∀ y ∈ rb.head?, ¬ ltS y x) : Mix all (done ++ [x]) ra rb := by
 have hm : ∀ s, s ∈ done ++ (x :: ra ++ rb) → rightS s = true := fun s hs => hall s (h.perm.mem_iff.1 hs)
 have hxr : rightS x = true := hm x (by simp)
 have ha := List.pairwise_cons.1 h.a
 have hyb : ∀ y ∈ rb, ¬ ltS y x := fun y hy => by
  match rb, h.b, hx, hy with
  | z :: rb', hb, hx, hy =>
   have hz := hx z rfl
   rcases List.mem_cons.1 hy with rfl | hy'
   ·exact hz
   ·exact notF_trans hz ((List.pairwise_cons.1 hb).1 y hy') hxr (hm z (by simp))
 refine ⟨?_, notF_snoc h.d fun y hy => h.lo y hy x (by simp), ha.2, h.b, fun p hp y hy => ?_⟩
 ·have : done ++ [x] ++ (ra ++ rb) = done ++ (x :: ra ++ rb) := by simp
  rw [this]; exact h.perm
 ·rcases List.mem_append.1 hp with hp | hp
  ·exact h.lo p hp y (by rcases List.mem_append.1 hy with h2 | h2 <;> simp [h2])
  ·rw [List.mem_singleton.1 hp]
   rcases List.mem_append.1 hy with hy | hy
   ·exact ha.1 y hy
   ·exact hyb y hy
theorem Mix.swap {all done ra rb : List ByteArray} (h : Mix all done ra rb) : Mix all done rb ra :=
 ⟨((List.Perm.refl done).append List.perm_append_comm).trans h.perm, h.d, h.b, h.a, fun x hx y hy => h.lo x hx y (by rcases List.mem_append.1 hy with h2 | h2 <;> simp [h2])⟩
theorem Mix.right {all done ra rb : List ByteArray} {x : ByteArray} (h : Mix all done ra (x :: rb)) (hall : ∀ s ∈ all, rightS s = true) (hx : ∀ y ∈ ra.head?, ¬ ltS y x) : Mix all (done ++ [x]) ra rb := (h.swap.left hall hx).swap
end Go.Json
namespace Go.Proofs.YtplleficmkfniaaGreatDoor
open Go Go.RowKit Go.Aff Go.Json Go.Utf
theorem MineS.cap {s : Nat} {w wr : World} {e : TypeId} {A : Option Addr} {m c : Nat} {xs : List Value} (h : MineS s w wr e A m c xs) : m ≤ c := by
 rcases h.1.2 with ⟨hv, hn0⟩ | ⟨g, cap, cur, hv, _, _, hnc, _⟩
 ·injection hv with e1 e2 e3
  omega
 ·injection hv with e1 e2 e3
  omega
end Go.Proofs.YtplleficmkfniaaGreatDoor
