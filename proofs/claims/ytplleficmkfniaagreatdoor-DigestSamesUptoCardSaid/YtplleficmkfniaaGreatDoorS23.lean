/- Texts. -/
import Derived.Lib.AppendStr
import Derived.Lib.ItoaMem
import Derived.Lib.UnsafeStr
import Derived.Test.YtplleficmkfniaaGreatDoorS22
import Derived.Shelf.LaysM
import Derived.Shelf.LaysC
import Derived.Shelf.Strconv.AppendIntPublic10
set_option linter.unusedSimpArgs false
set_option maxRecDepth 100000
set_option maxHeartbeats 4000000
namespace Go.Dig
open Go Go.Sha Go.Aff
def hsh (t : List Int) : List Int := sumF first 0 t
theorem hsh_len (t : List Int) : (hsh t).length = 32 := sumF_length _ _ _
theorem hsh_bytes (t : List Int) : IsBytes (hsh t) := dg_bytes _
def ClashAt (a b : List (List Int)) (i k : Nat) : Prop := ∃ x y, a[i]? = some x ∧ b[k]? = some y ∧ x ≠ y ∧ hsh x = hsh y
structure IsFirst (a b : List (List Int)) (i k : Nat) : Prop where
 at_ : ClashAt a b i k
 rows : ∀ i' k', i' < i → ¬ ClashAt a b i' k'
 cols : ∀ k', k' < k → ¬ ClashAt a b i k'
def NoClash (a b : List (List Int)) : Prop := ∀ i k, ¬ ClashAt a b i k
theorem IsFirst.same {a b : List (List Int)} {i k i' k' : Nat} (h : IsFirst a b i k) (h' : IsFirst a b i' k') : i = i' ∧ k = k' := by
 have e : i = i' := by
  rcases Nat.lt_trichotomy i i' with hl | he | hl
  ·exact absurd h.at_ (h'.rows i k hl)
  ·exact he
  ·exact absurd h'.at_ (h.rows i' k' hl)
 subst e
 refine ⟨rfl, ?_⟩
 rcases Nat.lt_trichotomy k k' with hl | he | hl
 ·exact absurd h.at_ (h'.cols k hl)
 ·exact he
 ·exact absurd h'.at_ (h.cols k' hl)
theorem ClashAt.lt {a b : List (List Int)} {i k : Nat} (h : ClashAt a b i k) : i < a.length ∧ k < b.length := by
 obtain ⟨x, y, h1, h2, _⟩ := h
 exact ⟨(List.getElem?_eq_some_iff.1 h1).1, (List.getElem?_eq_some_iff.1 h2).1⟩
theorem no_clash {a b : List (List Int)} (h : ∀ i, i < a.length → ∀ k, ¬ ClashAt a b i k) : NoClash a b := fun i k hc => h i hc.lt.1 k hc
def places (b : List (List Int)) (i : Nat) (d : List Int) : List Nat := (List.range i).filter fun k => match b[k]? with | some y => decide (hsh y = d) | none => false
theorem places_zero (b : List (List Int)) (d : List Int) : places b 0 d = [] := rfl
theorem places_step {b : List (List Int)} {i : Nat} {y : List Int} (hy : b[i]? = some y) (d : List Int) : places b (i + 1) d = places b i d ++ (if hsh y = d then [i] else []) := by
 unfold places
 rw [List.range_succ, List.filter_append]
 congr 1
 simp only [List.filter_cons, List.filter_nil, hy]
 by_cases h : hsh y = d <;> simp [h]
theorem places_mem {b : List (List Int)} {i : Nat} {d : List Int} {k : Nat} : k ∈ places b i d ↔ k < i ∧ ∃ y, b[k]? = some y ∧ hsh y = d := by
 unfold places
 rw [List.mem_filter, List.mem_range]
 constructor
 ·rintro ⟨h1, h2⟩
  cases hb : b[k]? with
  | none => rw [hb] at h2; cases h2
  | some y => rw [hb] at h2; exact ⟨h1, y, rfl, of_decide_eq_true h2⟩
 ·rintro ⟨h1, y, h2, h3⟩
  refine ⟨h1, ?_⟩
  rw [h2]
  exact decide_eq_true h3
theorem places_len (b : List (List Int)) (i : Nat) (d : List Int) : (places b i d).length ≤ i := by
 unfold places
 have := List.length_filter_le (fun k => match b[k]? with | some y => decide (hsh y = d) | none => false) (List.range i)
 rw [List.length_range] at this
 exact this
theorem places_sorted (b : List (List Int)) (i : Nat) (d : List Int) : (places b i d).Pairwise (· < ·) := List.Pairwise.filter _ List.pairwise_lt_range
theorem first_of {a b : List (List Int)} {i : Nat} {x : List Int} (hx : a[i]? = some x) (hr : ∀ i' k', i' < i → ¬ ClashAt a b i' k') {j k : Nat} {y : List Int} (hk : (places b b.length (hsh x))[j]? = some k) (hy : b[k]? = some y) (hn : x ≠ y)
  (ha : ∀ (j' k' : Nat), j' < j → (places b b.length (hsh x))[j']? = some k' → b[k']? = some x) : IsFirst a b i k := by
 have hm := places_mem.1 (List.mem_of_getElem? hk)
 obtain ⟨_, y', h1, h2⟩ := hm
 rw [hy] at h1
 injection h1 with h1
 subst h1
 refine ⟨⟨x, y, hx, hy, hn, h2.symm⟩, hr, fun k' hlt ⟨x', z, e1, e2, e3, e4⟩ => ?_⟩
 rw [hx] at e1
 injection e1 with e1
 subst e1
 have hm' : k' ∈ places b b.length (hsh x) := places_mem.2 ⟨(List.getElem?_eq_some_iff.1 e2).1, z, e2, e4.symm⟩
 obtain ⟨j', hj', he⟩ := List.mem_iff_getElem.1 hm'
 have hjj : j' < j := by
  rcases Nat.lt_or_ge j' j with h | h
  ·exact h
  ·have hs := places_sorted b b.length (hsh x)
   obtain ⟨hj, hek⟩ := List.getElem?_eq_some_iff.1 hk
   rcases Nat.lt_or_ge j j' with h3 | h3
   ·have := List.pairwise_iff_getElem.1 hs j j' hj hj' h3
    omega
   ·have : j = j' := by omega
    subst this
    omega
 have := ha j' k' hjj (by rw [← he]; exact List.getElem?_eq_getElem hj')
 rw [e2] at this
 injection this with this
 exact e3 this.symm
theorem row_none {a b : List (List Int)} {i : Nat} {x : List Int} (hx : a[i]? = some x) (ha : ∀ (j' k' : Nat), (places b b.length (hsh x))[j']? = some k' → b[k']? = some x) (k : Nat) : ¬ ClashAt a b i k := by
 rintro ⟨x', z, e1, e2, e3, e4⟩
 rw [hx] at e1
 injection e1 with e1
 subst e1
 have hm' : k ∈ places b b.length (hsh x) := places_mem.2 ⟨(List.getElem?_eq_some_iff.1 e2).1, z, e2, e4.symm⟩
 obtain ⟨j', hj', he⟩ := List.mem_iff_getElem.1 hm'
 have := ha j' k (by rw [← he]; exact List.getElem?_eq_getElem hj')
 rw [e2] at this
 injection this with this
 exact e3 this.symm
end Go.Dig
namespace Go.Mac
open Go Go.Aff
def lenF (n : Nat) : List Int := (Lib.decDigits n).map fun b => (b.toNat : Int)
def rowF (pss : List (List Int)) : List Int := (pss.map fun bs => lenF bs.length ++ [32] ++ bs ++ [32]).flatten
theorem ofNat_int (k : Nat) (h : k < 256) : ((UInt8.ofNat k).toNat : Int) = (k : Int) := by
 have : (UInt8.ofNat k).toNat = k := by simp; omega
 rw [this]
theorem lenF_one {n : Nat} (h : n < 10) : lenF n = [48 + (n : Int)] := by
 unfold lenF
 rw [Lib.decDigits, dif_pos h]
 simp only [List.map_cons, List.map_nil]
 rw [ofNat_int _ (by omega), Int.natCast_add]; rfl
theorem lenF_more {n : Nat} (h : ¬ n < 10) : lenF n = lenF (n / 10) ++ [48 + (n : Int) % 10] := by
 have e : lenF n = ((if h : n < 10 then [UInt8.ofNat (48 + n)] else Lib.decDigits (n / 10) ++ [UInt8.ofNat (48 + n % 10)]).map fun b => (b.toNat : Int)) := by
  unfold lenF
  rw [Lib.decDigits]
 rw [e, dif_neg h, List.map_append]
 simp only [List.map_cons, List.map_nil]
 rw [ofNat_int _ (by omega), Int.natCast_add, Int.natCast_emod]; rfl
theorem lenF_le (n : Nat) : (lenF n).length ≤ n + 1 := by
 induction n using Nat.strongRecOn with
 | _ n ih =>
  by_cases h : n < 10
  ·rw [lenF_one h]; simp
  ·rw [lenF_more h, List.length_append]
   have := ih (n / 10) (by omega)
   simp only [List.length_cons, List.length_nil]
   omega
theorem byteCells_lenF (n : Nat) : Lib.byteCells (Lib.decDigits n) = vb (lenF n) := by
 unfold Lib.byteCells vb lenF
 rw [List.map_map]; rfl
theorem strOf_app (xs ys : List Int) : strOfNums xs ++ strOfNums ys = strOfNums (xs ++ ys) := by
 apply ByteArray.ext
 simp [strOfNums]
theorem rowF_take (pss : List (List Int)) (k : Nat) (bs : List Int) (h : pss[k]? = some bs) : rowF (pss.take (k + 1)) = rowF (pss.take k) ++ (lenF bs.length ++ [32] ++ bs ++ [32]) := by
 unfold rowF
 rw [List.take_add_one, h]
 simp
theorem rowF_le (pss : List (List Int)) : (rowF pss).length ≤ 2 * pss.flatten.length + 3 * pss.length := by
 unfold rowF
 induction pss with
 | nil => simp
 | cons b l ih =>
  have := lenF_le b.length
  simp only [List.map_cons, List.flatten_cons, List.length_append, List.length_cons, List.length_nil] at ih ⊢
  omega
theorem rowF_mono (pss : List (List Int)) (k : Nat) : (rowF (pss.take k)).length ≤ (rowF pss).length := by
 conv => rhs; rw [← List.take_append_drop k pss]
 unfold rowF
 simp only [List.map_append, List.flatten_append, List.length_append]
 omega
end Go.Mac
namespace Go.Book
def spl (n : Nat) : Nat := 2 ^ Nat.log2 (n - 1)
theorem spl_pos (n : Nat) : 0 < spl n := Nat.two_pow_pos _
theorem spl_lt {n : Nat} (h : 2 ≤ n) : spl n < n := by
 have := Nat.log2_self_le (n := n - 1) (by omega)
 unfold spl
 omega
theorem log2_eq {a m : Nat} (h1 : 2 ^ a ≤ m) (h2 : m < 2 ^ (a + 1)) : Nat.log2 m = a := by
 have hp := Nat.two_pow_pos a
 have e1 : a ≤ Nat.log2 m := (Nat.le_log2 (by omega)).2 h1
 have e2 : Nat.log2 m < a + 1 := (Nat.log2_lt (by omega)).2 h2
 omega
theorem spl_eq {a m : Nat} (h1 : 2 ^ a < m) (h2 : m ≤ 2 ^ (a + 1)) : spl m = 2 ^ a := by
 unfold spl
 rw [log2_eq (a := a) (by omega) (by omega)]
section
variable {D : Type} (E : D) (pr : D → D → D)
def rootG (l : List D) : D :=
 if _h : 2 ≤ l.length then pr (rootG (l.take (spl l.length))) (rootG (l.drop (spl l.length))) else l.headD E
termination_by l.length
decreasing_by
 all_goals
  have h1 := spl_lt _h
  have h2 := spl_pos l.length
  simp only [List.length_take, List.length_drop]
  omega
end
section
variable {D : Type} (E : D) (pr : D → D → D)
end
end Go.Book
namespace Go.Dig
open Go Go.Sha Go.Aff Go.Json Go.Book Go.Mac
def eight (n : Nat) : List Int := (List.range 8).map fun i => ((n / 256 ^ (7 - i) % 256 : Nat) : Int)
def leafT (d : List Int) : List Int := 0 :: d
def nodeT (a b : List Int) : List Int := 1 :: (a ++ b)
def pairD (a b : List Int) : List Int := hsh (nodeT a b)
def rowD (l : List (List Int)) : List Int := rootG (hsh [101]) pairD (l.map fun d => hsh (leafT d))
def rowTx (l : List (List Int)) : List (List Int) :=
 if _h : 2 ≤ l.length then rowTx (l.take (spl l.length)) ++ rowTx (l.drop (spl l.length)) ++ [nodeT (rowD (l.take (spl l.length))) (rowD (l.drop (spl l.length)))] else [leafT (l.headD [])]
termination_by l.length
decreasing_by
 all_goals
  have h1 := spl_lt _h
  have h2 := spl_pos l.length
  simp only [List.length_take, List.length_drop]
  omega
def allTx (l : List (List Int)) : List (List Int) := if l = [] then [[101]] else rowTx l
def memT (key : ByteArray) (d : List Int) : List Int := 109 :: (rowF [sb key] ++ d)
def memD (key : ByteArray) (d : List Int) : List Int := hsh (memT key d)
def grpT (sort : Int) (n : Nat) (row : List Int) : List Int := (if sort = 6 then 111 else 108) :: (eight n ++ row)
def grpD (sort : Int) (n : Nat) (row : List Int) : List Int := hsh (grpT sort n row)
theorem rowD_nil : rowD [] = hsh [101] := by unfold rowD; rw [List.map_nil, rootG]; rfl
theorem rowD_one (d : List Int) : rowD [d] = hsh (leafT d) := by unfold rowD; rw [List.map_cons, List.map_nil, rootG]; rfl
theorem rowD_two {l : List (List Int)} (h : 2 ≤ l.length) : rowD l = pairD (rowD (l.take (spl l.length))) (rowD (l.drop (spl l.length))) := by
 unfold rowD
 rw [rootG, dif_pos (by simpa using h)]
 simp only [List.length_map, List.map_take, List.map_drop]
theorem rowTx_one (d : List Int) : rowTx [d] = [leafT d] := by rw [rowTx]; rfl
theorem rowTx_two {l : List (List Int)} (h : 2 ≤ l.length) : rowTx l = rowTx (l.take (spl l.length)) ++ rowTx (l.drop (spl l.length)) ++ [nodeT (rowD (l.take (spl l.length))) (rowD (l.drop (spl l.length)))] := by rw [rowTx, dif_pos h]
def memsD (ks : List ByteArray) (ds : List (List Int)) : List (List Int) := (ks.zip ds).map fun p => memD p.1 p.2
def _root_.Go.Json.JV.dg : JV → List Int
 | .null => hsh [110]
 | .flag b => hsh [if b then 116 else 102]
 | .num b => hsh (100 :: eight b)
 | .text s => hsh (115 :: sb s)
 | .list l => grpD 5 l.length (rowD (l.map fun x => x.dg))
 | .obj ks l => grpD 6 l.length (rowD (memsD ks (l.map fun x => x.dg)))
def _root_.Go.Json.JV.tx : JV → List (List Int)
 | .null => [[110]]
 | .flag b => [[if b then 116 else 102]]
 | .num b => [100 :: eight b]
 | .text s => [115 :: sb s]
 | .list l => (l.map fun x => x.tx).flatten ++ allTx (l.map fun x => x.dg) ++ [grpT 5 l.length (rowD (l.map fun x => x.dg))]
 | .obj ks l => ((ks.zip (l.map fun x => (x.tx, x.dg))).map fun p => p.2.1 ++ [memT p.1 p.2.2]).flatten ++ allTx (memsD ks (l.map fun x => x.dg)) ++ [grpT 6 l.length (rowD (memsD ks (l.map fun x => x.dg)))]
theorem rowD_len (l : List (List Int)) : (rowD l).length = 32 := by
 by_cases h : 2 ≤ l.length
 ·rw [rowD_two h]; exact hsh_len _
 ·match l, h with
  | [], _ => rw [rowD_nil]; exact hsh_len _
  | [d], _ => rw [rowD_one]; exact hsh_len _
  | _ :: _ :: _, h => simp at h
theorem rowD_bytes (l : List (List Int)) : IsBytes (rowD l) := by
 by_cases h : 2 ≤ l.length
 ·rw [rowD_two h]; exact hsh_bytes _
 ·match l, h with
  | [], _ => rw [rowD_nil]; exact hsh_bytes _
  | [d], _ => rw [rowD_one]; exact hsh_bytes _
  | _ :: _ :: _, h => simp at h
theorem dg_len (j : JV) : j.dg.length = 32 := by cases j <;> rw [JV.dg] <;> exact hsh_len _
theorem dgv_bytes (j : JV) : IsBytes j.dg := by cases j <;> rw [JV.dg] <;> exact hsh_bytes _
end Go.Dig
namespace Go.Proofs.YtplleficmkfniaaGreatDoor
open Go Go.RowKit Go.Aff Go.Sha Go.Dig
theorem flat_take (pss : List (List Int)) (k : Nat) (bs : List Int) (h : pss[k]? = some bs) : (pss.take (k + 1)).flatten = (pss.take k).flatten ++ bs := by
 rw [List.take_add_one, h]; simp
theorem part_of_parts {w : World} {A : Option Addr} {np N : Nat} {pss : List (List Int)} {E : Nat → Prop} (hr : RdPartsO E w A pss) (hnn : pss.length = np) (hN : pss.flatten.length = N) (wr : World) (k m : Nat) (hk : Keeps (fun _ => False) w wr) (hlt : k < np) (hm : (pss.take k).flatten.length = m) :
  ∃ (g o : Nat) (bs : List Int) (q : Nat) (A' : Option Addr) (c' : Nat), A = some ⟨g, o, none⟩ ∧ wr.cell? ⟨g, o + k, none⟩ = some (.slice A' q c') ∧ Rd w A' q (vb bs) ∧ m + q ≤ N ∧ (pss.take (k + 1)).flatten.length = m + q ∧ (pss.take (k + 1)).flatten = (pss.take k).flatten ++ bs := by
 obtain ⟨vals, h1, _, h3⟩ := hr
 obtain ⟨bs, hb⟩ : ∃ bs, pss[k]? = some bs := ⟨_, List.getElem?_eq_getElem (by omega)⟩
 obtain ⟨A', c', e1, e2, _, _, _, _⟩ := h3 k bs hb
 obtain ⟨g, o, hA, hc⟩ := h1.2 (by omega)
 have e3 := (hc k (by omega)).trans e1
 have ht := flat_take pss k bs hb
 have hl : (pss.take (k + 1)).flatten.length = m + bs.length := by rw [ht, List.length_append, hm]
 have h4 := part_le pss k bs hb
 rw [hm] at h4
 exact ⟨g, o, bs, bs.length, A', c', hA, (hk.cell (p := ⟨g, o + k, none⟩) (World.block_lt_of_cell? w _ e3) (fun h => h)).trans e3, e2, by omega, hl, ht⟩
theorem hsh_bytes' (tag : Int) (ht : 0 ≤ tag ∧ tag < 256) {pss : List (List Int)} (h : ∀ bs ∈ pss, IsBytes bs) : IsBytes (tag :: pss.flatten) := by
 intro x hx
 rcases List.mem_cons.1 hx with rfl | hx
 ·exact ht
 ·obtain ⟨bs, h1, h2⟩ := List.mem_flatten.1 hx
  exact h bs h1 x h2
theorem parts_bytes {w : World} {A : Option Addr} {pss : List (List Int)} {E : Nat → Prop} (hr : RdPartsO E w A pss) : ∀ bs ∈ pss, IsBytes bs := fun bs h => by
 obtain ⟨_, _, _, h3⟩ := hr
 obtain ⟨i, hi, rfl⟩ := List.mem_iff_getElem.1 h
 obtain ⟨_, _, _, _, _, h4, _⟩ := h3 i _ (List.getElem?_eq_getElem hi)
 exact h4
theorem neq_none (w : World) : (binOp .neq 160 .nilFunc .nilFunc).run Tryz.prog w = .ok (.bool false) w := by kernel_rfl
theorem neq_take (p : Nat) (w : World) : (binOp .neq 160 (.func (.func 68) #[] #[.pointer (some ⟨p, 0, none⟩)]) .nilFunc).run Tryz.prog w = .ok (.bool true) w := by kernel_rfl
theorem TkSt.log {p : Nat} {E : Nat → Prop} {w : World} {l : List (List Int)} (h : TkSt (takeV p) E w l) : LogSt 39 48 5 E w p l := by
 rcases h with h | ⟨q, e, h⟩
 ·cases h
 ·unfold takeV at e
  injection e with _ _ e
  injection e with e
  injection e with e _
  injection e with e
  injection e with e
  injection e with e
  subst e
  exact h
theorem hash_nil (E : Nat → Prop) (w : World) (hT : GW w) (tag : Int) (ht : 0 ≤ tag ∧ tag < 256) (A : Option Addr) (c : Nat) (pss : List (List Int)) (hp : RdPartsO E w A pss) (np : Nat) (hnp : pss.length = np) (hn : np ≤ 1000) (N : Nat) (hN : pss.flatten.length = N) (hbig : N ≤ 1099511627000) :
  Calls Tryz.prog 138 #[.nilFunc, .int .u8 tag, .slice A np c] w fun e w' => e = .returned (.agg (vb (hsh (tag :: pss.flatten))).toArray) ∧ Keeps (fun _ => False) w w' := by
 skip
 have HAT := H_ (part_of_parts hp hnp hN)
 have HTK : Hid (pss.take np = pss) := H_ (by rw [← hnp, List.take_length])
 have HNN := H_ hN
 have HBY := H_ (hsh_bytes' tag ht (parts_bytes hp))
 have HTG := H_ hT
 obtain ⟨N0, hN0⟩ : ∃ N0, N0 = w.heap.size := ⟨_, rfl⟩
 have HZ0 := Blk.new w 23 (List.replicate 32 (Value.int .u8 0))
 have HK0 : Keeps (fun _ => False) w (w.alloc (.cells (List.replicate 32 (Value.int .u8 0)).toArray 23)) := (Keeps.refl _ w).alloc _
 obtain ⟨w1, hw1⟩ : ∃ w1, w1 = w.alloc (.cells (List.replicate 32 (Value.int .u8 0)).toArray 23) := ⟨_, rfl⟩
 rw [← hw1, ← hN0] at HZ0
 rw [← hw1] at HK0
 have HS1 : w1.heap.size = N0 + 1 := by rw [hw1, hN0]; simp
 have HM0 := Mine.built w1 w1 5 1 [.int .u8 tag] (Keeps.refl _ _) rfl (by unfold maxLen; omega)
 have HZ := H_ HZ0
 have HK := H_ HK0
 have HMB : Hid (Mine w1 ((w.alloc (.cells (List.replicate 32 (Value.int .u8 0)).toArray 23)).alloc (.cells #[.int .u8 tag] 5)) 5 (some ⟨w.heap.size + 1, 0, none⟩) 1 1 [.int .u8 tag]) := H_ (by
  rw [HS1, hN0, hw1] at HM0
  rw [hw1]
  exact HM0)
 obtain ⟨X, hX⟩ : ∃ X, X = tag :: pss.flatten := ⟨_, rfl⟩
 have HXL0 : Hid (X.length = 1 + N) := H_ (by rw [hX, List.length_cons, HNN.out]; omega)
 rw [← hX] at HBY ⊢
 have HXX := H_ hX
 clear hX
 have HDL0 : (vb (hsh X)).length = 32 := by simp [vb, hsh_len]
 obtain ⟨DV, hDV⟩ : ∃ DV, DV = vb (hsh X) := ⟨_, rfl⟩
 have HD1 : Hid (∀ u ∈ DV, u.oneCell' = true) := H_ (by rw [hDV]; exact vb_one _)
 have HDL : Hid (DV.length = 32) := H_ (by rw [hDV]; exact HDL0)
 have HIN : Hid ((Tryz.prog.info? 23).map (·.size) = some DV.length) := H_ (by rw [HDL.out]; kernel_rfl)
 have HDV := H_ hDV
 rw [← hDV]
 have HW1 := H_ (And.intro hw1 (And.intro hN0 HS1))
 have hnn := neq_none
 clear hp hnp hN hT HZ0 HK0 HM0 hDV HDL0 hw1 hN0 HS1
 go_enter Tryz.func138, Tryz.ntmps138
 go_wp2
 go_loopw [7, 9, 14] (fun v _ i wr => ∃ (k m : Nat) (A' : Option Addr) (c' : Nat), k ≤ np ∧ i = .int .i64 k ∧ v = .slice A' (1 + m) c' ∧ Hid ((pss.take k).flatten.length = m) ∧ Hid (Mine w1 wr 5 A' (1 + m) c' (vb (tag :: (pss.take k).flatten)))) (fun _ _ i _ => np - (intOf i).toNat)
 case atStart => exact ⟨0, 0, some ⟨w.heap.size + 1, 0, none⟩, 1, by omega, rfl, rfl, H_ rfl, HMB⟩
 case round =>
  obtain ⟨k, m, A2, c2, hk, rfl, rfl, HM, HO⟩ := hrel
  by_cases hlt : k < np
  ·obtain ⟨g, o, bs, q, A1, c1, hA, hcell, hr1, hle, hlen, hcat⟩ := HAT.out wr k m (HK.out.trans HO.out.2.1 fun _ _ h => h) hlt HM.out
   subst hA
   have HE : Hid (vb (tag :: (pss.take k).flatten) ++ vb bs = vb (tag :: (pss.take (k + 1)).flatten)) := H_ (by rw [hcat]; simp [vb])
   have HL := H_ hlen
   have HR1 := H_ (hr1.keep (HK.out.trans HO.out.2.1 fun _ _ h => h) (no_out _ _))
   clear hcat hlen hr1
   go_wp2_with (at_builtin; refine wpList_append_rd _ rfl (.tmp 18) (.tmp 19) 48 rfl 5 (.int .u8 0) 1 Tryz.underlying48 info5 rfl (.slice A2 (1 + m) c2) (1 + m) _ rfl HO.out.1 A1 q c1 _ rfl HR1.out (vb_one _) (by unfold maxLen; omega) (by omega) ?_; intro A7 c7 w7 hown7 hg7 hb7; rw [HE.out] at hown7; have HM7 := H_ (HO.out.app0 hown7 hg7 hb7); clear hown7 hg7 hb7)
   go_roundw
   case rel => exact ⟨k + 1, m + q, A7, c7, by omega, by go_num, by rw [Nat.add_assoc], HL, by rw [← Nat.add_assoc]; exact HM7⟩
   case measure => simp [intOf]; omega
  ·obtain rfl : k = np := by omega
   rw [HTK.out] at HM HO
   rw [HNN.out] at HM
   obtain rfl := HM.out
   clear HM
   have HKW := H_ (HK.out.trans HO.out.2.1 fun _ _ h => h)
   rw [← HXX.out] at HO
   have HXL : Hid (X.length = 1 + N) := HXL0
   have hcap : 1 + N ≤ c2 ∧ 0 < 1 + N := by
    obtain ⟨g, hA, _⟩ := mine_some HO.out (by omega)
    have := HO.out.1
    rw [hA] at this
    exact ⟨own_cap this, by omega⟩
   obtain ⟨q, hq⟩ : ∃ q, q = 1 + N := ⟨_, rfl⟩
   have hqb : q ≤ 1099511627001 := by omega
   rw [← hq] at HO HXL hcap ⊢
   clear hq
   obtain ⟨hcap, hq0⟩ := hcap
   have HSU : Hid (Calls Tryz.prog 63 #[.slice (some ⟨wr.heap.size, 0, none⟩) 1 1] (wr.alloc (.cells #[.slice A2 q c2] 48)) fun e w' => e = .returned (.agg DV.toArray) ∧ Keeps (fun _ => False) wr w') := H_ (by
    rw [HDV.out]
    exact sums_one wr (HTG.out.stay HKW.out).sha A2 q c2 X HXL.out (Rd.of_own HO.out.1) HBY.out hcap (by omega))
   have HZ2 := H_ (HO.out.2.1.blk HZ.out (fun h => h))
   go_wp2_with (first
    | (go_at_call 63; refine HSU.out.mono ?_; rintro e w6 ⟨rfl, hk6⟩; have HZ9 := H_ (hk6.blk HZ2.out (fun h => h)); have HK9 := H_ (HKW.out.trans hk6 (fun _ _ h => h)); clear hk6)
    | ((with_reducible show wpList _ _ _ (⟨none, Op.store 23 _ _, _, _, _, _⟩ :: _) _ _); have hN0 := HW1.out.2.1; subst hN0; refine wpList_store_whole rfl 23 _ _ rfl DV rfl rfl HZ9.out (by rw [HDL.out]; simp) HIN.out HD1.out ?_))
   refine bodyPost_ret (results_blk rfl _ _ rfl (HZ9.out.setRow DV) Tryz.underlying23 rfl HIN.out) rfl ⟨rfl, HK9.out.setRow (.inr (Nat.le_refl _)) _⟩
theorem hash_take (E : Nat → Prop) (w : World) (l : List (List Int)) (p : Nat) (hT : Tkg (TkSt (takeV p)) E w l) (hl : l.length ≤ 1099511627776) (tag : Int) (ht : 0 ≤ tag ∧ tag < 256) (A : Option Addr) (c : Nat) (pss : List (List Int)) (hp : RdPartsO E w A pss) (np : Nat) (hnp : pss.length = np) (hn : np ≤ 1000) (N : Nat) (hN : pss.flatten.length = N) (hbig : N ≤ 1099511627000) :
  Calls Tryz.prog 138 #[takeV p, .int .u8 tag, .slice A np c] w fun e w' => e = .returned (.agg (vb (hsh (tag :: pss.flatten))).toArray) ∧ ∃ E', Took (TkSt (takeV p)) E E' w w' (l ++ [tag :: pss.flatten]) := by
 show Calls _ _ #[.func (.func 68) #[] #[.pointer (some ⟨p, 0, none⟩)], .int .u8 tag, .slice A np c] w _
 have HAT := H_ (part_of_parts hp hnp hN)
 have HTK : Hid (pss.take np = pss) := H_ (by rw [← hnp, List.take_length])
 have HNN := H_ hN
 have HBY := H_ (hsh_bytes' tag ht (parts_bytes hp))
 have HTG := H_ hT
 obtain ⟨N0, hN0⟩ : ∃ N0, N0 = w.heap.size := ⟨_, rfl⟩
 have HZ0 := Blk.new w 23 (List.replicate 32 (Value.int .u8 0))
 have HK0 : Keeps (fun _ => False) w (w.alloc (.cells (List.replicate 32 (Value.int .u8 0)).toArray 23)) := (Keeps.refl _ w).alloc _
 obtain ⟨w1, hw1⟩ : ∃ w1, w1 = w.alloc (.cells (List.replicate 32 (Value.int .u8 0)).toArray 23) := ⟨_, rfl⟩
 rw [← hw1, ← hN0] at HZ0
 rw [← hw1] at HK0
 have HS1 : w1.heap.size = N0 + 1 := by rw [hw1, hN0]; simp
 have HM0 := Mine.built w1 w1 5 1 [.int .u8 tag] (Keeps.refl _ _) rfl (by unfold maxLen; omega)
 have HZ := H_ HZ0
 have HK := H_ HK0
 have HMB : Hid (Mine w1 ((w.alloc (.cells (List.replicate 32 (Value.int .u8 0)).toArray 23)).alloc (.cells #[.int .u8 tag] 5)) 5 (some ⟨w.heap.size + 1, 0, none⟩) 1 1 [.int .u8 tag]) := H_ (by
  rw [HS1, hN0, hw1] at HM0
  rw [hw1]
  exact HM0)
 obtain ⟨X, hX⟩ : ∃ X, X = tag :: pss.flatten := ⟨_, rfl⟩
 have HXL0 : Hid (X.length = 1 + N) := H_ (by rw [hX, List.length_cons, HNN.out]; omega)
 rw [← hX] at HBY ⊢
 have HXX := H_ hX
 clear hX
 have HDL0 : (vb (hsh X)).length = 32 := by simp [vb, hsh_len]
 obtain ⟨DV, hDV⟩ : ∃ DV, DV = vb (hsh X) := ⟨_, rfl⟩
 have HD1 : Hid (∀ u ∈ DV, u.oneCell' = true) := H_ (by rw [hDV]; exact vb_one _)
 have HDL : Hid (DV.length = 32) := H_ (by rw [hDV]; exact HDL0)
 have HIN : Hid ((Tryz.prog.info? 23).map (·.size) = some DV.length) := H_ (by rw [HDL.out]; kernel_rfl)
 have HDV := H_ hDV
 rw [← hDV]
 have HW1 := H_ (And.intro hw1 (And.intro hN0 HS1))
 have hnn := neq_take p
 clear hp hnp hN hT HZ0 HK0 HM0 hDV HDL0 hw1 hN0 HS1
 go_enter Tryz.func138, Tryz.ntmps138
 go_wp2
 go_loopw [7, 9, 14] (fun v _ i wr => ∃ (k m : Nat) (A' : Option Addr) (c' : Nat), k ≤ np ∧ i = .int .i64 k ∧ v = .slice A' (1 + m) c' ∧ Hid ((pss.take k).flatten.length = m) ∧ Hid (Mine w1 wr 5 A' (1 + m) c' (vb (tag :: (pss.take k).flatten)))) (fun _ _ i _ => np - (intOf i).toNat)
 case atStart => exact ⟨0, 0, some ⟨w.heap.size + 1, 0, none⟩, 1, by omega, rfl, rfl, H_ rfl, HMB⟩
 case round =>
  obtain ⟨k, m, A2, c2, hk, rfl, rfl, HM, HO⟩ := hrel
  by_cases hlt : k < np
  ·obtain ⟨g, o, bs, q, A1, c1, hA, hcell, hr1, hle, hlen, hcat⟩ := HAT.out wr k m (HK.out.trans HO.out.2.1 fun _ _ h => h) hlt HM.out
   subst hA
   have HE : Hid (vb (tag :: (pss.take k).flatten) ++ vb bs = vb (tag :: (pss.take (k + 1)).flatten)) := H_ (by rw [hcat]; simp [vb])
   have HL := H_ hlen
   have HR1 := H_ (hr1.keep (HK.out.trans HO.out.2.1 fun _ _ h => h) (no_out _ _))
   clear hcat hlen hr1
   go_wp2_with (at_builtin; refine wpList_append_rd _ rfl (.tmp 18) (.tmp 19) 48 rfl 5 (.int .u8 0) 1 Tryz.underlying48 info5 rfl (.slice A2 (1 + m) c2) (1 + m) _ rfl HO.out.1 A1 q c1 _ rfl HR1.out (vb_one _) (by unfold maxLen; omega) (by omega) ?_; intro A7 c7 w7 hown7 hg7 hb7; rw [HE.out] at hown7; have HM7 := H_ (HO.out.app0 hown7 hg7 hb7); clear hown7 hg7 hb7)
   go_roundw
   case rel => exact ⟨k + 1, m + q, A7, c7, by omega, by go_num, by rw [Nat.add_assoc], HL, by rw [← Nat.add_assoc]; exact HM7⟩
   case measure => simp [intOf]; omega
  ·obtain rfl : k = np := by omega
   rw [HTK.out] at HM HO
   rw [HNN.out] at HM
   obtain rfl := HM.out
   clear HM
   have HKW := H_ (HK.out.trans HO.out.2.1 fun _ _ h => h)
   rw [← HXX.out] at HO
   have HXL : Hid (X.length = 1 + N) := HXL0
   have hcap : 1 + N ≤ c2 ∧ 0 < 1 + N := by
    obtain ⟨g, hA, _⟩ := mine_some HO.out (by omega)
    have := HO.out.1
    rw [hA] at this
    exact ⟨own_cap this, by omega⟩
   obtain ⟨q, hq⟩ : ∃ q, q = 1 + N := ⟨_, rfl⟩
   have hqb : q ≤ 1099511627001 := by omega
   rw [← hq] at HO HXL hcap ⊢
   clear hq
   obtain ⟨hcap, hq0⟩ := hcap
   have HTW := H_ (HTG.out.stay (tkLasts _) HKW.out)
   have HCL : Hid (Calls Tryz.prog 68 #[.slice A2 q c2, .pointer (some ⟨p, 0, none⟩)] wr fun e w' => e = .returned (.tuple #[]) ∧ ∃ E', Took (TkSt (takeV p)) E E' wr w' (l ++ [X])) := H_ (by
    obtain ⟨g, hA, hg⟩ := mine_some HO.out hq0
    refine (texts1_any wr E p l HTW.out.st.log hl A2 q c2 X HXL.out (Rd.of_own HO.out.1) (fun _ a e he => ?_) hq0 (by omega) HTW.out.cel).mono fun e w' ⟨h1, E', h2⟩ => ⟨h1, E', ⟨.inr ⟨p, rfl, h2.st⟩, h2.new, h2.cel, h2.keep⟩⟩
    rw [hA] at e
    injection e with e
    subst e
    have h1 := HTG.out.lt _ he
    have h2 := HK.out.size
    have h3 : g < w.heap.size := h1
    omega)
   have HOB : Hid (∀ i, (Value.slice A2 q c2).ownBlock = some i → ¬ E i) := H_ fun i hi he => by
    have h1 := HTG.out.lt _ he
    have h2 := HO.out.2.2 i hi
    have h3 := HK.out.size
    omega
   have HZ2 := H_ (HO.out.2.1.blk HZ.out (fun h => h))
   have HNE : Hid (¬ E N0) := H_ fun he => by have h1 := HTG.out.lt _ he; have h2 := HW1.out.2.1; omega
   have HSU : Hid (∀ (E' : Nat → Prop) (W : World), Took (TkSt (takeV p)) E E' wr W (l ++ [X]) → Calls Tryz.prog 63 #[.slice (some ⟨W.heap.size, 0, none⟩) 1 1] (W.alloc (.cells #[.slice A2 q c2] 48)) fun e w' => e = .returned (.agg DV.toArray) ∧ Keeps (fun _ => False) W w') := H_ fun E' W hW => by
    rw [HDV.out]
    exact sums_one W (HTW.out.next hW).glob.sha A2 q c2 X HXL.out (Rd.of_own (hW.keep.own HO.out.1 HOB.out)) HBY.out hcap (by omega)
   go_wp2_with (first
    | (go_at_call 68; refine HCL.out.mono ?_; rintro e w5 ⟨rfl, E5, hT5⟩; have HT5 := H_ hT5; have HZ5 := H_ (hT5.keep.blk HZ2.out HNE.out); clear hT5)
    | (go_at_call 63; refine (HSU.out _ _ HT5.out).mono ?_; rintro e w6 ⟨rfl, hk6⟩; have HZ9 := H_ (hk6.blk HZ5.out (fun h => h)); have HK9 := H_ hk6; clear hk6)
    | ((with_reducible show wpList _ _ _ (⟨none, Op.store 23 _ _, _, _, _, _⟩ :: _) _ _); have hN0 := HW1.out.2.1; subst hN0; refine wpList_store_whole rfl 23 _ _ rfl DV rfl rfl HZ9.out (by rw [HDL.out]; simp) HIN.out HD1.out ?_))
   refine bodyPost_ret (results_blk rfl _ _ rfl (HZ9.out.setRow DV) Tryz.underlying23 rfl HIN.out) rfl ⟨by rw [HDV.out], E5, ?_⟩
   have ht : Took (TkSt (takeV p)) E E5 w w5 (l ++ [X]) := Took.begin HKW.out HT5.out
   refine (ht.stay (tkLasts _) HK9.out).more (tkLasts _) (setRow_keep _ _ _) fun i hi => ?_
   subst hi
   refine ⟨Nat.le_refl _, fun he => ?_⟩
   rcases HT5.out.new _ he with h1 | h1
   ·exact HNE.out h1
   ·have := HZ2.out.lt
    omega
theorem hash_any {fv : Value} {E : Nat → Prop} {w : World} {l : List (List Int)} (hT : Tkg (TkSt fv) E w l) (hl : l.length ≤ 1099511627776) (tag : Int) (ht : 0 ≤ tag ∧ tag < 256) (A : Option Addr) (c : Nat) (pss : List (List Int)) (hp : RdPartsO E w A pss) (np : Nat) (hnp : pss.length = np) (hn : np ≤ 1000) (N : Nat) (hN : pss.flatten.length = N) (hbig : N ≤ 1099511627000) :
  Calls Tryz.prog 138 #[fv, .int .u8 tag, .slice A np c] w fun e w' => e = .returned (.agg (vb (hsh (tag :: pss.flatten))).toArray) ∧ ∃ E', Took (TkSt fv) E E' w w' (l ++ [tag :: pss.flatten]) := by
 rcases hT.st with h | ⟨p, h, _⟩
 ·subst h
  exact (hash_nil E w hT.glob tag ht A c pss hp np hnp hn N hN hbig).mono fun e w' ⟨h1, h2⟩ => ⟨h1, E, ⟨.inl rfl, fun _ h => .inl h, fun i hi => (hT.cel i hi).keep h2 (fun h => h), h2.mono fun _ _ h => h.elim⟩⟩
 ·subst h
  exact hash_take E w l p hT hl tag ht A c pss hp np hnp hn N hN hbig
end Go.Proofs.YtplleficmkfniaaGreatDoor
namespace Go.Proofs.YtplleficmkfniaaGreatDoor
open Go Go.RowKit Go.Aff Go.Sha Go.Book Go.Dig
theorem half_any (n : Nat) (w : World) (h : 2 ≤ n) (h2 : n ≤ 9007199254740992) : Calls Tryz.prog 143 #[.int .i64 n] w fun e w' => e = .returned (.int .i64 (spl n : Nat)) ∧ w' = w := by
 have HEND : Hid (∀ a : Nat, 2 ^ a < n → ¬ 2 * 2 ^ a < n → 2 ^ a = spl n) := H_ fun a h1 h2 => (spl_eq h1 (by rw [Nat.pow_succ]; omega)).symm
 obtain ⟨N, hN⟩ : ∃ N, N = spl n := ⟨_, rfl⟩
 rw [← hN] at HEND ⊢
 clear hN
 go_enter Tryz.func143, Tryz.ntmps143
 go_wp2
 go_loop [3] (fun m => ∃ k : Nat, m = .int .i64 k ∧ 0 < k ∧ k < n ∧ Hid (∃ a : Nat, k = 2 ^ a)) (fun m => n - (intOf m).toNat)
 case atStart => exact ⟨1, rfl, by omega, by omega, H_ ⟨0, rfl⟩⟩
 case round =>
  obtain ⟨k, rfl, hk0, hk, HA⟩ := hrel
  have w1 : IntKind.i64.wrap (2 * (k : Int)) = 2 * (k : Int) := IntWalk.i64_in _ (by omega)
  have w2 : IntKind.i64.wrap ((k : Int) * 2) = 2 * (k : Int) := by rw [IntWalk.i64_in _ (by omega)]; omega
  by_cases hlt : 2 * (k : Int) < (n : Int)
  ·go_wp2
   go_round
   case rel =>
    refine ⟨2 * k, by go_num, by omega, by omega, H_ ?_⟩
    obtain ⟨a, ha⟩ := HA.out
    exact ⟨a + 1, by rw [ha, Nat.pow_succ]; omega⟩
   case measure => simp [intOf]; omega
  ·obtain ⟨a, ha⟩ := HA.out
   have he := HEND.out a (by omega) (by omega)
   rw [← ha] at he
   subst he
   clear ha HEND HA a
   go_wp2
   go_ret
   exact ⟨rfl, rfl⟩
def eightI (n : Int) (k : Nat) : Int := n / 2 ^ (56 - 8 * k) % 256
def eightL (n : Int) (k : Nat) : List Value := (List.range 8).map fun j => Value.int .u8 (if j < k then eightI n j else 0)
theorem eightL_zero (n : Int) : eightL n 0 = List.replicate 8 (Value.int .u8 0) := by simp [eightL, List.range_succ]
theorem eight_at (n k : Nat) (hk : k < 8) : eightI n k = ((n / 256 ^ (7 - k) % 256 : Nat) : Int) := by
 unfold eightI
 rw [show (56 : Nat) - 8 * k = 8 * (7 - k) by omega, Int.natCast_emod, Int.natCast_ediv, Int.natCast_pow, show ((256 : Nat) : Int) = 2 ^ 8 from rfl, ← Int.pow_mul]
 rfl
theorem eightL_all (n : Nat) : eightL n 8 = vb (eight n) := by
 unfold eightL eight vb
 rw [List.map_map]
 apply List.map_congr_left
 intro j hj
 rw [List.mem_range] at hj
 simp only [hj, if_true, Function.comp]
 rw [eight_at n j hj]
theorem eightL_set (n : Int) (k : Nat) : (eightL n k).set k (.int .u8 (eightI n k)) = eightL n (k + 1) := by
 apply List.ext_getElem?
 intro j
 simp only [eightL, List.getElem?_set, List.length_map, List.length_range, List.getElem?_map]
 by_cases hj : j < 8
 ·by_cases h : k = j
  ·subst h; simp [hj]
  ·simp only [h, if_false]
   have : (j < k + 1) = (j < k) := by apply propext; omega
   simp [hj, this]
 ·by_cases h : k = j
  ·subst h; simp [hj]
  ·simp [hj, h]
theorem eight_bytes (n : Nat) : IsBytes (eight n) := by
 intro x hx
 obtain ⟨i, _, rfl⟩ := List.mem_map.1 hx
 omega
theorem eight_any (n : Nat) (w : World) (_hn : n < 18446744073709551616) : Calls Tryz.prog 139 #[.int .u64 n] w fun e w' => e = .returned (.slice (some ⟨w.heap.size, 0, none⟩) 8 8) ∧ Blk w' w.heap.size 322 (vb (eight n)) ∧ Keeps (fun _ => False) w w' := by
 have R0 : Blk (w.alloc (.cells (List.replicate 8 (Value.int .u8 0)).toArray 322)) w.heap.size 322 (eightL n 0) ∧ Keeps (fun _ => False) w (w.alloc (.cells (List.replicate 8 (Value.int .u8 0)).toArray 322)) := ⟨by rw [eightL_zero]; exact Blk.new _ _ _, (Keeps.refl _ w).alloc _⟩
 go_enter Tryz.func139, Tryz.ntmps139
 go_wp2
 go_loopw [5] (fun i wr => ∃ t : Nat, t ≤ 8 ∧ i = .int .i64 t ∧ Blk wr w.heap.size 322 (eightL n t) ∧ Keeps (fun _ => False) w wr) (fun i _ => 8 - (intOf i).toNat)
 case atStart => exact ⟨0, by omega, rfl, R0⟩
 case round =>
  clear R0
  obtain ⟨t, ht, rfl, hb, hk⟩ := hrel
  by_cases hlt : t < 8
  ·have hc : wr.cell? ⟨w.heap.size, t, none⟩ = some (.int .u8 0) := by
    rw [hb.cell]; simp [eightL, hlt]
   have hf := hb.frozen t
   have HB := H_ hb
   have HK := H_ hk
   clear hb hk
   go_wp2
   go_roundw
   case rel =>
    refine ⟨t + 1, by omega, by go_num, ?_, HK.out.setCell (.inr (Nat.le_refl _)) _⟩
    have h7 := HB.out.set_ t (.int .u8 (eightI n t))
    rw [eightL_set] at h7
    exact h7
   case measure => simp [intOf]; omega
  ·obtain rfl : t = 8 := by omega
   rw [eightL_all] at hb
   have HB := H_ hb
   have HK := H_ hk
   clear hb hk
   go_wp2
   go_ret
   exact ⟨rfl, HB.out, HK.out⟩
end Go.Proofs.YtplleficmkfniaaGreatDoor
namespace Go.Proofs
open Go.Shelf
def Tryz.laysM176_ren : Go.Shelf.Ren := ⟨fun | 176 => 189 | 249 => 218 | 288 => 251 | 283 => 225 | 284 => 226 | 285 => 227 | 286 => 228 | 129 => 238 | 317 => 252 | 318 => 253 | 319 => 254 | 320 => 255 | 337 => 270 | 338 => 271 | n => n, fun | 37 => 48 | 2 => 2 | 3 => 3 | 53 => 76 | 4 => 4 | 9 => 9 | 171 => 362 | 0 => 0 | 173 => 365 | 212 => 383 | 51 => 253 | 5 => 5 | 20 => 20 | 213 => 384 | 46 => 291 | 232 => 22 | 233 => 313 | n => n, fun | 17 => 4 | 18 => 9 | 19 => 10 | n => n⟩
theorem Tryz.laysM176 : Go.Proofs.LaysM.n176 Tryz.prog Tryz.laysM176_ren := {
 mixed := by kernel_rfl
 f129 := Tryz.func238.trans (congrArg some (by kernel_rfl))
 f176 := Tryz.func189.trans (congrArg some (by kernel_rfl))
 f249 := Tryz.func218.trans (congrArg some (by kernel_rfl))
 f283 := Tryz.func225.trans (congrArg some (by kernel_rfl))
 f284 := Tryz.func226.trans (congrArg some (by kernel_rfl))
 f285 := Tryz.func227.trans (congrArg some (by kernel_rfl))
 f286 := Tryz.func228.trans (congrArg some (by kernel_rfl))
 f288 := Tryz.func251.trans (congrArg some (by kernel_rfl))
 f317 := Tryz.func252.trans (congrArg some (by kernel_rfl))
 f318 := Tryz.func253.trans (congrArg some (by kernel_rfl))
 f319 := Tryz.func254.trans (congrArg some (by kernel_rfl))
 f320 := Tryz.func255.trans (congrArg some (by kernel_rfl))
 f337 := Tryz.func270.trans (congrArg some (by kernel_rfl))
 f338 := Tryz.func271.trans (congrArg some (by kernel_rfl))
 t0 := Tryz.underlying0
 a0 := Tryz.isAgg0
 z0 := Tryz.sizeOf0
 v0 := Tryz.zeroValue0
 t2 := Tryz.underlying2
 a2 := Tryz.isAgg2
 z2 := Tryz.sizeOf2
 v2 := Tryz.zeroValue2
 t3 := Tryz.underlying3
 a3 := Tryz.isAgg3
 z3 := Tryz.sizeOf3
 v3 := Tryz.zeroValue3
 t4 := Tryz.underlying4
 a4 := Tryz.isAgg4
 z4 := Tryz.sizeOf4
 v4 := Tryz.zeroValue4
 t5 := Tryz.underlying5
 a5 := Tryz.isAgg5
 z5 := Tryz.sizeOf5
 v5 := Tryz.zeroValue5
 t9 := Tryz.underlying9
 a9 := Tryz.isAgg9
 z9 := Tryz.sizeOf9
 v9 := Tryz.zeroValue9
 t20 := Tryz.underlying20
 a20 := Tryz.isAgg20
 z20 := Tryz.sizeOf20
 v20 := Tryz.zeroValue20
 t37 := Tryz.underlying48
 a37 := Tryz.isAgg48
 z37 := Tryz.sizeOf48
 v37 := Tryz.zeroValue48
 t46 := Tryz.underlying291
 a46 := Tryz.isAgg291
 z46 := Tryz.sizeOf291
 v46 := Tryz.zeroValue291
 t51 := Tryz.underlying253
 a51 := Tryz.isAgg253
 z51 := Tryz.sizeOf253
 v51 := Tryz.zeroValue253
 t53 := Tryz.underlying76
 a53 := Tryz.isAgg76
 z53 := Tryz.sizeOf76
 v53 := Tryz.zeroValue76
 t171 := Tryz.underlying362
 a171 := Tryz.isAgg362
 z171 := Tryz.sizeOf362
 v171 := Tryz.zeroValue362
 t173 := Tryz.underlying365
 a173 := Tryz.isAgg365
 z173 := Tryz.sizeOf365
 v173 := Tryz.zeroValue365
 t212 := Tryz.underlying383
 a212 := Tryz.isAgg383
 z212 := Tryz.sizeOf383
 v212 := Tryz.zeroValue383
 t213 := Tryz.underlying384
 a213 := Tryz.isAgg384
 z213 := Tryz.sizeOf384
 t232 := Tryz.underlying22
 a232 := Tryz.isAgg22
 z232 := Tryz.sizeOf22
 v232 := Tryz.zeroValue22
 t233 := Tryz.underlying313
 a233 := Tryz.isAgg313
 z233 := Tryz.sizeOf313
 v233 := Tryz.zeroValue313
 g17 := by kernel_rfl
 g18 := by kernel_rfl
 g19 := by kernel_rfl
 i0 := by kernel_rfl
 i2 := by kernel_rfl
 i3 := by kernel_rfl
 i4 := by kernel_rfl
 i5 := by kernel_rfl
 i9 := by kernel_rfl
 i20 := by kernel_rfl
 i37 := by kernel_rfl
 i46 := by kernel_rfl
 i51 := by kernel_rfl
 i53 := by kernel_rfl
 i171 := by kernel_rfl
 i173 := by kernel_rfl
 i212 := by kernel_rfl
 i232 := by kernel_rfl
 i233 := by kernel_rfl
 m17 := by kernel_rfl
 m18 := by kernel_rfl
 m19 := by kernel_rfl }
open Go.RowKit Go.Sort Go.Lib in
theorem Tryz.strconv_AppendInt_10 (B n : Nat) (i : Int) (h0 : -9223372036854775808 ≤ i) (h1 : i ≤ 9223372036854775807) (sv : Value) (xs : List Value) (w : World) (hown : w.ownsRow B 5 1 sv n xs) (hBw : B ≤ w.heap.size) (hlim : n + 21 ≤ 140737488355328) (htab : Lib.TabBelow Tryz.prog B w "internal/strconv.uint64pow10" .u64 Lib.pow10Tab) :
  Calls Tryz.prog 189 #[sv, .int .i64 i, .int .i64 10] w fun e w' => ∃ v', e = .returned v' ∧ w'.ownsRow B 5 1 v' (n + (Lib.itoa i).length) (xs ++ Lib.byteCells (Lib.itoa i)) ∧ Below B w w' ∧ Lib.OthersKept 5 none w w' := Any.strconv_AppendInt_10 Tryz.laysM176 B n i h0 h1 sv xs w hown hBw hlim htab
end Go.Proofs
