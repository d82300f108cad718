/- Texts. -/
import Derived.Test.YtplleficmkfniaaGreatDoorQ12
import Derived.Sort.Grow
import Derived.Lib.ConvBytes
set_option linter.unusedSimpArgs false
set_option maxRecDepth 100000
set_option maxHeartbeats 4000000
namespace Go.Dig
open Go Go.Sha Go.Aff Go.Json Go.Book Go.Mac
def Cl (a b : List (List Int)) : Prop := ∃ x ∈ a, ∃ y ∈ b, x ≠ y ∧ hsh x = hsh y
theorem Cl.mono {a b a' b' : List (List Int)} (h : Cl a b) (ha : ∀ x ∈ a, x ∈ a') (hb : ∀ x ∈ b, x ∈ b') : Cl a' b' := by
 obtain ⟨x, h1, y, h2, h3⟩ := h
 exact ⟨x, ha x h1, y, hb y h2, h3⟩
theorem Cl.at_ {a b : List (List Int)} (h : Cl a b) : ¬ NoClash a b := by
 obtain ⟨x, h1, y, h2, h3, h4⟩ := h
 obtain ⟨i, hi, rfl⟩ := List.mem_iff_getElem.1 h1
 obtain ⟨k, hk, rfl⟩ := List.mem_iff_getElem.1 h2
 exact fun hn => hn i k ⟨_, _, List.getElem?_eq_getElem hi, List.getElem?_eq_getElem hk, h3, h4⟩
theorem allTx_ne {l : List (List Int)} (h : l ≠ []) : allTx l = rowTx l := by unfold allTx; rw [if_neg h]
theorem eight_len (n : Nat) : (eight n).length = 8 := by simp [eight]
theorem rowF_one (k : List Int) : Mac.rowF [k] = lenF k.length ++ 32 :: (k ++ [32]) := by unfold Mac.rowF; simp
def _root_.Go.Json.JV.top : JV → List Int
 | .null => [110]
 | .flag b => [if b then 116 else 102]
 | .num b => 100 :: eight b
 | .text s => 115 :: sb s
 | .list l => grpT 5 l.length (rowD (l.map fun x => x.dg))
 | .obj ks l => grpT 6 l.length (rowD (memsD ks (l.map fun x => x.dg)))
inductive Fine : JV → Prop
 | mk (j : JV) (hn : ∀ b, j = .num b → b < 18446744073709551616) (hk : j.sort = 6 → j.keys.length = j.items.length) (hl : j.items.length < 18446744073709551616) (h : ∀ x, x ∈ j.items → Fine x) : Fine j
theorem Fine.num {b : Nat} (h : Fine (.num b)) : b < 18446744073709551616 := by cases h with | mk _ hn _ _ _ => exact hn b rfl
theorem Fine.keys {ks : List ByteArray} {l : List JV} (h : Fine (.obj ks l)) : ks.length = l.length := by cases h with | mk _ _ hk _ _ => exact hk rfl
theorem Fine.len {j : JV} (h : Fine j) : j.items.length < 18446744073709551616 := by cases h with | mk _ _ _ hl _ => exact hl
theorem Fine.item {j x : JV} (h : Fine j) (hx : x ∈ j.items) : Fine x := by cases h with | mk _ _ _ _ hi => exact hi x hx
theorem memsD_len {ks : List ByteArray} {ds : List (List Int)} (h : ks.length = ds.length) : (memsD ks ds).length = ds.length := by
 unfold memsD; rw [List.length_map, List.length_zip]; omega
theorem memsD_at {ks : List ByteArray} {l : List JV} {i : Nat} {k : ByteArray} {x : JV} (hk : ks[i]? = some k) (hx : l[i]? = some x) : (memsD ks (l.map fun x => x.dg))[i]? = some (memD k x.dg) := by
 unfold memsD
 rw [List.getElem?_map]
 have : (ks.zip (l.map fun x => x.dg))[i]? = some (k, x.dg) := by
  rw [List.getElem?_zip_eq_some]
  exact ⟨hk, by rw [List.getElem?_map, hx]; rfl⟩
 rw [this]; rfl
theorem rowTx_len : ∀ (n : Nat) (l : List (List Int)), l.length = n → (rowTx l).length ≤ 2 * n + 1 ∧ (1 ≤ n → (rowTx l).length ≤ 2 * n - 1) := by
 intro n
 induction n using Nat.strongRecOn with
 | _ n ih =>
  intro l hl
  by_cases h2 : 2 ≤ n
  ·have hl2 : 2 ≤ l.length := by omega
   have s1 := spl_pos n
   have s2 := spl_lt h2
   have h3 := (ih (spl n) s2 (l.take (spl l.length)) (by rw [List.length_take, hl]; omega)).2 (by omega)
   have h4 := (ih (n - spl n) (by omega) (l.drop (spl l.length)) (by rw [List.length_drop, hl])).2 (by omega)
   rw [rowTx_two hl2, List.length_append, List.length_append]
   simp only [List.length_cons, List.length_nil]
   omega
  ·rw [rowTx, dif_neg (by omega)]
   simp
   omega
theorem allTx_len (l : List (List Int)) : (allTx l).length ≤ 2 * l.length + 1 := by
 unfold allTx
 split
 ·simp
 ·exact (rowTx_len _ l rfl).1
theorem sum_le {f g : JV → Nat} : ∀ (l : List JV), (∀ x ∈ l, f x ≤ g x) → sumN (l.map f) ≤ sumN (l.map g)
 | [], _ => Nat.le_refl _
 | x :: l, h => by
  simp only [List.map_cons, sumN]
  have := h x (by simp)
  have := sum_le l (fun y hy => h y (by simp [hy]))
  omega
theorem flat_len (l : List JV) : ((l.map fun x => x.tx).flatten).length = sumN (l.map fun x => x.tx.length) := by
 induction l with
 | nil => rfl
 | cons x l ih => simp only [List.map_cons, List.flatten_cons, List.length_append, sumN, ih]
theorem sum_lin (l : List JV) : sumN (l.map fun x => 5 * x.nodes) = 5 * sumN (l.map fun x => x.nodes) := by
 induction l with
 | nil => rfl
 | cons x l ih => simp only [List.map_cons, sumN, ih]; omega
theorem len_nodes (l : List JV) : l.length ≤ sumN (l.map fun x => x.nodes) := by
 induction l with
 | nil => simp
 | cons x l ih =>
  simp only [List.map_cons, sumN, List.length_cons]
  have := JV.nodes_eq x
  omega
theorem flat_len2 : ∀ (ks : List ByteArray) (l : List JV), (((ks.zip (l.map fun x => (x.tx, x.dg))).map fun p => p.2.1 ++ [memT p.1 p.2.2]).flatten).length ≤ sumN (l.map fun x => x.tx.length) + l.length
 | [], l => by simp
 | _ :: _, [] => by simp
 | k :: ks, x :: l => by
  have := flat_len2 ks l
  simp only [List.map_cons, List.zip_cons_cons, List.flatten_cons, List.length_append, List.length_cons, List.length_nil, sumN] at this ⊢
  omega
theorem tx_few : ∀ j : JV, j.tx.length + 3 ≤ 5 * j.nodes := by
 intro j
 induction j using JV.ind with
 | h0 | h1 | h2 | h3 => simp [JV.tx, JV.nodes]
 | h4 l ih =>
  rw [JV.tx, JV.nodes, List.length_append, List.length_append, flat_len]
  have h1 := allTx_len (l.map fun x => x.dg)
  have h2 := sum_le (f := fun x => x.tx.length + 3) (g := fun x => 5 * x.nodes) l ih
  have h3 : sumN (l.map fun x => x.tx.length + 3) = sumN (l.map fun x => x.tx.length) + 3 * l.length := by
   clear ih h1 h2
   induction l with
   | nil => rfl
   | cons x l ih => simp only [List.map_cons, sumN, List.length_cons, ih]; omega
  rw [sum_lin] at h2
  rw [List.length_map] at h1
  simp only [List.length_cons, List.length_nil]
  omega
 | h5 ks l ih =>
  rw [JV.tx, JV.nodes, List.length_append, List.length_append]
  have h1 := allTx_len (memsD ks (l.map fun x => x.dg))
  have h2 := sum_le (f := fun x => x.tx.length + 3) (g := fun x => 5 * x.nodes) l ih
  have h3 : sumN (l.map fun x => x.tx.length + 3) = sumN (l.map fun x => x.tx.length) + 3 * l.length := by
   clear ih h1 h2
   induction l with
   | nil => rfl
   | cons x l ih => simp only [List.map_cons, sumN, List.length_cons, ih]; omega
  have h4 := flat_len2 ks l
  have h5 : (memsD ks (l.map fun x => x.dg)).length ≤ l.length := by unfold memsD; rw [List.length_map, List.length_zip, List.length_map]; omega
  rw [sum_lin] at h2
  simp only [List.length_cons, List.length_nil]
  omega
end Go.Dig
namespace Go.Aff
open Go Go.RowKit
structure Kp (F : Nat → Prop) (w w' : World) : Prop where
 keeps : Keeps F w w'
 drawn : w.drawn ≤ w'.drawn
section
variable {F G : Nat → Prop} {w w1 w2 : World}
theorem Kp.refl (F : Nat → Prop) (w : World) : Kp F w w := ⟨Keeps.refl F w, Nat.le_refl _⟩
theorem Kp.trans (h : Kp F w w1) (k : Kp G w1 w2) (hG : ∀ i, i < w.heap.size → G i → F i) : Kp F w w2 := ⟨h.keeps.trans k.keeps hG, Nat.le_trans h.drawn k.drawn⟩
theorem Kp.mono (h : Kp F w w1) (hG : ∀ i, i < w.heap.size → F i → G i) : Kp G w w1 := ⟨h.keeps.mono hG, h.drawn⟩
theorem Kp.drewN (h : Kp F w w1) (n : Nat) : Kp F w (w1.drewN n) := ⟨h.keeps.drewN n, Nat.le_trans h.drawn (Nat.le_add_right _ _)⟩
theorem Kp.drew (h : Kp F w w1) : Kp F w w1.drew := ⟨h.keeps.drew, Nat.le_trans h.drawn (Nat.le_add_right _ 1)⟩
theorem Kp.alloc (h : Kp F w w1) (o : Obj) : Kp F w (w1.alloc o) := ⟨h.keeps.alloc o, h.drawn⟩
theorem Kp.setCell (h : Kp F w w1) {p : Addr} (hp : F p.block ∨ w.heap.size ≤ p.block) (u : Value) : Kp F w (w1.setCell p u) := ⟨h.keeps.setCell hp u, h.drawn⟩
theorem Kp.size (h : Kp F w w1) : w.heap.size ≤ w1.heap.size := h.keeps.size
theorem Kp.blk {g : Nat} {t : TypeId} {cs : List Value} (h : Kp F w w1) (hb : Blk w g t cs) (hn : ¬ F g) : Blk w1 g t cs := h.keeps.blk hb hn
theorem Rd.keepK {A : Option Addr} {n : Nat} {xs : List Value} (h : Rd w A n xs) (hk : Kp F w w1) (ho : Out F A n) : Rd w1 A n xs := h.keep hk.keeps ho
theorem bytesWorld_kp (w : World) (e : TypeId) (s : ByteArray) : Kp (fun _ => False) w (Lib.bytesWorld w e s) :=
 ⟨⟨rfl, rfl, rfl, by rw [Lib.bytesWorld_size]; omega, fun i hi _ => Lib.bytesWorld_at_old w e s i hi⟩, Nat.le_succ _⟩
end
end Go.Aff
