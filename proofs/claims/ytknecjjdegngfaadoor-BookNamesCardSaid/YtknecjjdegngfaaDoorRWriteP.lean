/-
  The reference's hash while it is written: plain facts.
-/
import Derived.Test.YtknecjjdegngfaaDoorRPadW
import Derived.Test.YtknecjjdegngfaaDoorWriteW
namespace Go.Proofs.YtknecjjdegngfaaDoor
open Go Go.RowKit Go.Sha Go.Aff

/-- At block p lies a hash of the reference that began at state S behind nb blocks, to which X was written; v: its rest. -/
def RHashAt (w : World) (p : Nat) (v : Value) (S : Nat → Int) (nb : Nat) (X : List Int) : Prop :=
  Blk w p 117 (hcells (stN S X (X.length / 64)) ((nb + X.length / 64 : Nat) : Int) v) ∧ w.ownsRow 0 5 1 v (X.length % 64) (vb (X.drop (64 * (X.length / 64)))) ∧ IsBytes X

theorem RHashAt.keep {F : Nat → Prop} {w w' : World} {p : Nat} {v : Value} {S : Nat → Int} {nb : Nat} {X : List Int} (h : RHashAt w p v S nb X) (hk : Keeps F w w') (hF : ∀ i, Foot p v i → ¬ F i) : RHashAt w' p v S nb X :=
  ⟨hk.blk h.1 (hF p (.inl rfl)), hk.own h.2.1 (fun g hg => hF g (.inr hg)), h.2.2⟩

theorem rhash_short {w : World} {p : Nat} {u : Value} {S : Nat → Int} {nb : Nat} {X : List Int} {b : Int} {r : Nat} (hr : r = X.length % 64) (hs : r + 1 < 64) (hX : IsBytes X) (hbs : 0 ≤ b ∧ b < 256)
    (hb : Blk w p 117 (hcells (stN S X (X.length / 64)) ((nb + X.length / 64 : Nat) : Int) u)) (ho : w.ownsRow 0 5 1 u (r + 1) (vb (X.drop (64 * (X.length / 64))) ++ [.int .u8 b])) : RHashAt w p u S nb (X ++ [b]) := by
  have hl : (X ++ [b]).length = X.length + 1 := by simp
  have e1 : (X ++ [b]).length / 64 = X.length / 64 := by omega
  have e2 : (X ++ [b]).length % 64 = r + 1 := by omega
  refine ⟨?_, ?_, bytes_append hX (fun x hx => by rw [List.mem_singleton.1 hx]; exact hbs)⟩
  · rw [e1, stN_more S X [b] _ (by omega)]; exact hb
  · rw [e1, e2, List.drop_append_of_le_length (by omega)]
    unfold vb at ho ⊢
    rw [List.map_append]; exact ho

/-- The block that is whole with the last byte. -/
theorem rblock_full {X : List Int} {b : Int} (hs : X.length % 64 = 63) : vb (X.drop (64 * (X.length / 64))) ++ [.int .u8 b] = bl (blockAt (X ++ [b]) (X.length / 64)) := by
  have hl : (X.drop (64 * (X.length / 64))).length = 63 := by rw [List.length_drop]; omega
  have e : vb (X.drop (64 * (X.length / 64))) ++ [Value.int .u8 b] = vb (X.drop (64 * (X.length / 64)) ++ [b]) := by simp [vb]
  rw [e]
  refine List.ext_getElem? fun i => ?_
  by_cases hi : i < 64
  · have h1 : (bl (blockAt (X ++ [b]) (X.length / 64)))[i]? = some (.int .u8 (blockAt (X ++ [b]) (X.length / 64) i)) := by simp [bl, hi]
    rw [h1]
    unfold vb blockAt
    rw [List.getElem?_map, List.getD_eq_getElem?_getD, ← List.drop_append_of_le_length (by omega), List.getElem?_drop, List.getElem?_eq_getElem (by simp; omega)]
    rfl
  · rw [List.getElem?_eq_none (by simp [vb]; omega), List.getElem?_eq_none (by rw [bl_length]; omega)]

theorem rhash_full {w : World} {p : Nat} {S : Nat → Int} {nb : Nat} {X : List Int} {b : Int} (hs : X.length % 64 = 63) (hX : IsBytes X) (hbs : 0 ≤ b ∧ b < 256)
    (hb : Blk w p 117 (hcells (round (stN S X (X.length / 64)) (blockAt (X ++ [b]) (X.length / 64))) ((nb + X.length / 64 + 1 : Nat) : Int) (.slice none 0 0))) : RHashAt w p (.slice none 0 0) S nb (X ++ [b]) := by
  have hl : (X ++ [b]).length = X.length + 1 := by simp
  have e1 : (X ++ [b]).length / 64 = X.length / 64 + 1 := by omega
  have e2 : (X ++ [b]).length % 64 = 0 := by omega
  refine ⟨?_, ?_, bytes_append hX (fun x hx => by rw [List.mem_singleton.1 hx]; exact hbs)⟩
  · rw [e1]
    show Blk w p _ (hcells (round (stN S (X ++ [b]) (X.length / 64)) _) _ _)
    rw [stN_more S X [b] _ (by omega)]; exact hb
  · rw [e1, e2, List.drop_eq_nil_of_le (by omega)]
    exact ⟨rfl, .inl ⟨rfl, rfl⟩⟩
end Go.Proofs.YtknecjjdegngfaaDoor
