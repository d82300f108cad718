/- Texts. -/
import Derived.Test.YtplleficmkfniaaGreatDoorQ11
import Derived.Lib.AppendStr
import Derived.Lib.ItoaMem
import Derived.Lib.UnsafeStr
set_option linter.unusedSimpArgs false
set_option maxRecDepth 100000
set_option maxHeartbeats 4000000
namespace Go.Proofs.YtplleficmkfniaaGreatDoor
open Go Go.RowKit Go.Aff Go.Shelf
attribute [local go_sem] Oper.semAt_some
theorem infoRow : (Tryz.prog.info? 48).map (fun i => (i.zero, i.size, i.bytes)) = some (some (.slice none 0 0), 1, 24) := by kernel_rfl
theorem bclone_any (w : World) (A : Option Addr) (n c : Nat) (vs : List Value) (hr : Rd w A n vs) (h1 : ∀ u ∈ vs, u.oneCell' = true) (hn : n ≤ 140737488351232) :
  Calls Tryz.prog 65 #[.slice A n c] w fun e w' => ∃ A' c', e = .returned (.slice A' n c') ∧ Mine w w' 5 A' n c' vs := by
 cases A with
 | none =>
  have hz : n = 0 := by
   rcases Nat.eq_zero_or_pos n with h | h
   ·exact h
   ·obtain ⟨g, o, e, _⟩ := hr.2 h
    cases e
  subst hz
  have hv : vs = [] := List.length_eq_zero_iff.1 hr.1
  subst hv
  clear hr h1
  have hnil := fun wx => Lib.run_eql_slice_nil (P := Tryz.prog) wx 48 5 none 0 c 0 0 Tryz.underlying48
  go_enter Tryz.func65, Tryz.ntmps65
  go_wp2
  go_ret
  exact ⟨none, 0, rfl, ⟨World.ownsRow_nil _ _ _ _, Keeps.refl _ _, fun g h => by cases h⟩⟩
 | some a =>
  have HM := H_ (Mine.built w w 5 0 [] (Keeps.refl _ w) rfl (by unfold maxLen; omega))
  have HR := H_ (hr.alloc (.cells #[] 5))
  have H1 := H_ h1
  clear hr h1
  have hnil := fun wx => Lib.run_eql_slice_nil (P := Tryz.prog) wx 48 5 (some a) n c 0 0 Tryz.underlying48
  go_enter Tryz.func65, Tryz.ntmps65
  go_wp2_with (at_builtin; refine wpList_append_rd _ rfl (.tmp 5) (.tmp 6) 48 rfl 5 (.int .u8 0) 1 Tryz.underlying48 info5 rfl _ 0 [] rfl HM.out.1 (some a) n c vs rfl HR.out H1.out (by unfold maxLen; omega) (by omega) ?_; intro A' c' w' hown hg hb; have HM2 := H_ (HM.out.app0 hown hg hb); clear hown hg hb)
  go_ret
  have hm := HM2.out
  rw [List.nil_append, Nat.zero_add] at hm
  exact ⟨A', c', rfl, hm⟩
theorem mine_some {w w' : World} {e : TypeId} {A : Option Addr} {n c : Nat} {xs : List Value} (h : Mine w w' e A n c xs) (hn : 0 < n) : ∃ g, A = some ⟨g, 0, none⟩ ∧ w.heap.size ≤ g := by
 rcases h.1.2 with ⟨_, h0⟩ | ⟨g, cap, cur, hv, _⟩
 ·omega
 ·injection hv with hv _ _
  exact ⟨g, hv, h.2.2 g (by rw [hv]; rfl)⟩
theorem texts_push {E : Nat → Prop} {w w3 w5 : World} {p : Nat} {B : Option Addr} {d k : Nat} {vals : List Value} {gs : List Nat} {l : List (List Int)} (h : LogAt 39 48 5 E w p B d vals gs l) (hk : k = l.length) {bs : List Int} {n : Nat} (hn : bs.length = n) (hC : ∀ i, E i → IsCells w i)
  (k3 : Keeps (fun _ => False) w w3) {g3 c3 : Nat} (ho3 : w3.ownsRow 0 5 1 (.slice (some ⟨g3, 0, none⟩) n c3) n (vb bs)) (hg3 : w.heap.size ≤ g3) {A5 : Option Addr} {c5 : Nat}
  (ho5 : w5.ownsRow 0 48 1 (.slice A5 (k + 1) c5) (k + 1) (vals ++ [.slice (some ⟨g3, 0, none⟩) n c3])) (hg5 : (w3.alloc (.cells #[.slice (some ⟨g3, 0, none⟩) n c3] 48)).grownBy w5 (Value.slice B k d).ownBlock)
  (hb5 : (Value.slice A5 (k + 1) c5).ownBlock = (Value.slice B k d).ownBlock ∨ (Value.slice A5 (k + 1) c5).ownBlock = some (w3.alloc (.cells #[.slice (some ⟨g3, 0, none⟩) n c3] 48)).heap.size) :
  Blk w5 p 39 [.slice B k d] ∧ ∃ E', Took (LogSt 39 48 5 · · p ·) E E' w (w5.setCell ⟨p, 0, none⟩ (.slice A5 (k + 1) c5)) (l ++ [bs]) := by
 have k4 : Keeps (fun _ => False) w (w3.alloc (.cells #[.slice (some ⟨g3, 0, none⟩) n c3] 48)) := k3.alloc _
 have h4 := h.keep k4 (fun _ _ h => h)
 have ho4 : (w3.alloc (.cells #[.slice (some ⟨g3, 0, none⟩) n c3] 48)).ownsRow 0 5 1 (.slice (some ⟨g3, 0, none⟩) n c3) n (vb bs) := (((Keeps.refl (fun _ => False) w3).alloc _).own ho3 (fun _ _ h => h))
 have hne : ¬ E g3 := fun e => by have := (hC _ e).lt; omega
 have hr := h4.grow (by decide) (by decide) (by decide) hn hne ho4 hk.symm hg5 ho5 hb5
 have hp : (Value.slice B k d).ownBlock ≠ some p := by rw [hk]; exact own_blk h.row h.box (by decide)
 have hbx := (Keeps.of_grown hg5).blk h4.box hp
 rw [← hk] at hbx
 refine ⟨hbx, _, hr.1, fun i hi => ?_, hr.2.2.1 fun i hi => (hC i hi).keep k4 (fun h => h), (k4.mono fun _ _ h => h.elim).trans hr.2.1 fun _ _ h => h⟩
 rcases hi with hi | hi | hi
 ·exact .inl hi.1
 ·exact .inr (by omega)
 ·exact (hr.2.2.2 i hi).imp id fun h => Nat.le_trans k4.size h
theorem texts1_any (w : World) (E : Nat → Prop) (p : Nat) (l : List (List Int)) (h : LogSt 39 48 5 E w p l) (hl : l.length ≤ 1099511627776) (A : Option Addr) (n c : Nat) (bs : List Int) (hn : bs.length = n) (hr : Rd w A n (vb bs)) (ho : Out E A n) (h0 : 0 < n) (hb : n ≤ 1099511627776) (hE : ∀ i, E i → IsCells w i) :
  Calls Tryz.prog 68 #[.slice A n c, .pointer (some ⟨p, 0, none⟩)] w fun e w' => e = .returned (.tuple #[]) ∧ ∃ E', Took (LogSt 39 48 5 · · p ·) E E' w w' (l ++ [bs]) := by
 obtain ⟨B, d, vals, gs, hh⟩ := h
 obtain ⟨k, hk⟩ : ∃ k, k = l.length := ⟨_, rfl⟩
 have hF : ∀ i, (Value.slice B k d).ownBlock = some i → E i := fun i hi => hh.rowE i (by rw [← hk]; exact hi)
 have hp : (Value.slice B k d).ownBlock ≠ some p := by rw [hk]; exact own_blk hh.row hh.box (by decide)
 have HSR : Hid (∀ V, Keeps (fun i => (Value.slice B k d).ownBlock = some i) w V → V.cell? ⟨p, 0, none⟩ = some (.slice B k d)) := H_ fun V hV => by
  have h3 := (hV.blk hh.box hp).cell 0
  rw [← hk] at h3
  exact h3
 have HCL : Hid (∀ V, Keeps (fun i => (Value.slice B k d).ownBlock = some i) w V → Calls Tryz.prog 65 #[.slice A n c] V fun e w' => ∃ g c', e = .returned (.slice (some ⟨g, 0, none⟩) n c') ∧ Hid (Mine V w' 5 (some ⟨g, 0, none⟩) n c' (vb bs) ∧ V.heap.size ≤ g)) := H_ fun V hV =>
  (bclone_any V A n c (vb bs) (hr.keep hV (ho.mono hF)) (vb_one bs) (by omega)).mono fun e w' ⟨A', c', he, hm⟩ => by
   obtain ⟨g, hA, hg⟩ := mine_some hm h0
   subst hA
   exact ⟨g, c', he, H_ ⟨hm, hg⟩⟩
 have HH := H_ (And.intro hh hk)
 have HOW : Hid (∀ V, Keeps (fun _ => False) w V → V.ownsRow 0 48 1 (.slice B k d) k vals) := H_ fun V hV => by
  have := (hh.keep hV (fun _ _ h => h)).row
  rwa [← hk] at this
 have HX := H_ (And.intro hn (And.intro h0 (And.intro hE (And.intro hF hp))))
 have HLK : Hid (k ≤ 1099511627776) := H_ (by omega)
 clear hh hk hF hp hr ho hn h0 hb hE hl
 go_enter Tryz.func68, Tryz.ntmps68
 refine wp_region_tail (S := (fun V => Keeps (fun i => (Value.slice B k d).ownBlock = some i) w V)) 5 (by kernel_rfl) (Keeps.refl _ _).drew (fun h_ => ?_)
 refine tT [0] (i := 0) (oi := ⟨some 3, _, _, _, _, _⟩) (v := ?_) rfl (Or.inl ⟨by rfl, ?_⟩) h_ ?_
 rotate_left
 ·intro w' hSw
  have cv := HSR.out _ hSw
  go_simp
  first | done | rfl
 try simp only [pu]
 refine tJ 1 4 ?_
 try simp only [pu]
 refine wpAnyT_step (i := 2) (o := ⟨some 5, _, _, _, _, _⟩) (by kernel_rfl) rfl (fun K hK => ?_)
 go_simp
 refine (HCL.out _ h_).mono ?_
 rintro e w3 ⟨g3, c3, rfl, HM3⟩
 have hS3 := h_.trans HM3.out.1.2.1 (fun _ _ h => h.elim)
 have hW3 := h_
 refine hK.out _ _ hS3 (fun h_ => ?_)
 clear hK K
 try simp only [pu]
 refine wpAnyT_step (i := 3) (o := ⟨some 6, _, _, _, _, _⟩) (by kernel_rfl) rfl (fun K hK => ?_)
 go_simp
 refine hK.out _ _ (h_.alloc _) (fun h_ => ?_)
 clear hK K
 try simp only [pu]
 refine wpAnyT_step (i := 4) (o := ⟨some 7, _, _, _, _, _⟩) (by kernel_rfl) rfl (fun K hK => ?_)
 refine step_append_own rfl (.tmp 3) (.tmp 6) 39 rfl 48 (.slice none 0 0) 1 24 Tryz.underlying39 infoRow rfl (by decide) B k d vals rfl (HOW.out _ ((((Keeps.refl _ w).drew).trans HM3.out.1.2.1 fun _ _ h => h).alloc _)) ⟨w3.heap.size, 0, none⟩ 1 1 [.slice (some ⟨g3, 0, none⟩) n c3] rfl rfl (cell_one_new _ _ _) (by intro u hu; rw [List.mem_singleton.1 hu]; rfl) (by have := HLK.out; simp only [maxLen]; omega) (by have := HLK.out; omega) ?_
 intro A5 c5 w5 ho5 hg5 hb5
 have HP5 := H_ (texts_push HH.out.1 HH.out.2 HX.out.1 HX.out.2.2.1 ((((Keeps.refl _ w).drew).trans HM3.out.1.2.1 fun _ _ h => h)) HM3.out.1.1 (Nat.le_trans ((Keeps.refl (fun _ => False) w).drew).size HM3.out.2) ho5 hg5 hb5)
 have hS5 := h_.grown hg5 (fun g e => .inl e)
 refine hK.out _ _ hS5 (fun h_ => ?_)
 clear hK K
 try simp only [pu]
 refine wpAnyT_tail (i := 5) (o := ⟨none, _, _, _, _, _⟩) (by kernel_rfl) (by kernel_rfl) rfl (fun K hK => ?_)
 have cv := HP5.out.1.cell 0
 have fz := HP5.out.1.frozen 0
 go_simp
 refine hK.out _ _ ?_
 clear hK K
 try simp only [pu]
 refine wpAnyT_done (by kernel_rfl) ?_
 go_wp2
 go_end0
 exact ⟨rfl, HP5.out.2⟩
end Go.Proofs.YtplleficmkfniaaGreatDoor
namespace Go.Dig
open Go Go.Sha Go.Aff
def hsh (t : List Int) : List Int := sumF first 0 t
theorem hsh_len (t : List Int) : (hsh t).length = 32 := sumF_length _ _ _
theorem hsh_bytes (t : List Int) : IsBytes (hsh t) := dg_bytes _
def ClashAt (a b : List (List Int)) (i k : Nat) : Prop := ∃ x y, a[i]? = some x ∧ b[k]? = some y ∧ x ≠ y ∧ hsh x = hsh y
structure IsFirst (a b : List (List Int)) (i k : Nat) : Prop where
 at_ : ClashAt a b i k
 rows : ∀ i' k', i' < i → ¬ ClashAt a b i' k'
 cols : ∀ k', k' < k → ¬ ClashAt a b i k'
def NoClash (a b : List (List Int)) : Prop := ∀ i k, ¬ ClashAt a b i k
theorem IsFirst.same {a b : List (List Int)} {i k i' k' : Nat} (h : IsFirst a b i k) (h' : IsFirst a b i' k') : i = i' ∧ k = k' := by
 have e : i = i' := by
  rcases Nat.lt_trichotomy i i' with hl | he | hl
  ·exact absurd h.at_ (h'.rows i k hl)
  ·exact he
  ·exact absurd h'.at_ (h.rows i' k' hl)
 subst e
 refine ⟨rfl, ?_⟩
 rcases Nat.lt_trichotomy k k' with hl | he | hl
 ·exact absurd h.at_ (h'.cols k hl)
 ·exact he
 ·exact absurd h'.at_ (h.cols k' hl)
theorem ClashAt.lt {a b : List (List Int)} {i k : Nat} (h : ClashAt a b i k) : i < a.length ∧ k < b.length := by
 obtain ⟨x, y, h1, h2, _⟩ := h
 exact ⟨(List.getElem?_eq_some_iff.1 h1).1, (List.getElem?_eq_some_iff.1 h2).1⟩
theorem no_clash {a b : List (List Int)} (h : ∀ i, i < a.length → ∀ k, ¬ ClashAt a b i k) : NoClash a b := fun i k hc => h i hc.lt.1 k hc
def places (b : List (List Int)) (i : Nat) (d : List Int) : List Nat := (List.range i).filter fun k => match b[k]? with | some y => decide (hsh y = d) | none => false
theorem places_zero (b : List (List Int)) (d : List Int) : places b 0 d = [] := rfl
theorem places_step {b : List (List Int)} {i : Nat} {y : List Int} (hy : b[i]? = some y) (d : List Int) : places b (i + 1) d = places b i d ++ (if hsh y = d then [i] else []) := by
 unfold places
 rw [List.range_succ, List.filter_append]
 congr 1
 simp only [List.filter_cons, List.filter_nil, hy]
 by_cases h : hsh y = d <;> simp [h]
theorem places_mem {b : List (List Int)} {i : Nat} {d : List Int} {k : Nat} : k ∈ places b i d ↔ k < i ∧ ∃ y, b[k]? = some y ∧ hsh y = d := by
 unfold places
 rw [List.mem_filter, List.mem_range]
 constructor
 ·rintro ⟨h1, h2⟩
  cases hb : b[k]? with
  | none => rw [hb] at h2; cases h2
  | some y => rw [hb] at h2; exact ⟨h1, y, rfl, of_decide_eq_true h2⟩
 ·rintro ⟨h1, y, h2, h3⟩
  refine ⟨h1, ?_⟩
  rw [h2]
  exact decide_eq_true h3
theorem places_len (b : List (List Int)) (i : Nat) (d : List Int) : (places b i d).length ≤ i := by
 unfold places
 have := List.length_filter_le (fun k => match b[k]? with | some y => decide (hsh y = d) | none => false) (List.range i)
 rw [List.length_range] at this
 exact this
theorem places_sorted (b : List (List Int)) (i : Nat) (d : List Int) : (places b i d).Pairwise (· < ·) := List.Pairwise.filter _ List.pairwise_lt_range
theorem first_of {a b : List (List Int)} {i : Nat} {x : List Int} (hx : a[i]? = some x) (hr : ∀ i' k', i' < i → ¬ ClashAt a b i' k') {j k : Nat} {y : List Int} (hk : (places b b.length (hsh x))[j]? = some k) (hy : b[k]? = some y) (hn : x ≠ y)
  (ha : ∀ (j' k' : Nat), j' < j → (places b b.length (hsh x))[j']? = some k' → b[k']? = some x) : IsFirst a b i k := by
 have hm := places_mem.1 (List.mem_of_getElem? hk)
 obtain ⟨_, y', h1, h2⟩ := hm
 rw [hy] at h1
 injection h1 with h1
 subst h1
 refine ⟨⟨x, y, hx, hy, hn, h2.symm⟩, hr, fun k' hlt ⟨x', z, e1, e2, e3, e4⟩ => ?_⟩
 rw [hx] at e1
 injection e1 with e1
 subst e1
 have hm' : k' ∈ places b b.length (hsh x) := places_mem.2 ⟨(List.getElem?_eq_some_iff.1 e2).1, z, e2, e4.symm⟩
 obtain ⟨j', hj', he⟩ := List.mem_iff_getElem.1 hm'
 have hjj : j' < j := by
  rcases Nat.lt_or_ge j' j with h | h
  ·exact h
  ·have hs := places_sorted b b.length (hsh x)
   obtain ⟨hj, hek⟩ := List.getElem?_eq_some_iff.1 hk
   rcases Nat.lt_or_ge j j' with h3 | h3
   ·have := List.pairwise_iff_getElem.1 hs j j' hj hj' h3
    omega
   ·have : j = j' := by omega
    subst this
    omega
 have := ha j' k' hjj (by rw [← he]; exact List.getElem?_eq_getElem hj')
 rw [e2] at this
 injection this with this
 exact e3 this.symm
theorem row_none {a b : List (List Int)} {i : Nat} {x : List Int} (hx : a[i]? = some x) (ha : ∀ (j' k' : Nat), (places b b.length (hsh x))[j']? = some k' → b[k']? = some x) (k : Nat) : ¬ ClashAt a b i k := by
 rintro ⟨x', z, e1, e2, e3, e4⟩
 rw [hx] at e1
 injection e1 with e1
 subst e1
 have hm' : k ∈ places b b.length (hsh x) := places_mem.2 ⟨(List.getElem?_eq_some_iff.1 e2).1, z, e2, e4.symm⟩
 obtain ⟨j', hj', he⟩ := List.mem_iff_getElem.1 hm'
 have := ha j' k (by rw [← he]; exact List.getElem?_eq_getElem hj')
 rw [e2] at this
 injection this with this
 exact e3 this.symm
end Go.Dig
namespace Go.Mac
open Go Go.Aff
def lenF (n : Nat) : List Int := (Lib.decDigits n).map fun b => (b.toNat : Int)
def rowF (pss : List (List Int)) : List Int := (pss.map fun bs => lenF bs.length ++ [32] ++ bs ++ [32]).flatten
theorem ofNat_int (k : Nat) (h : k < 256) : ((UInt8.ofNat k).toNat : Int) = (k : Int) := by
 have : (UInt8.ofNat k).toNat = k := by simp; omega
 rw [this]
theorem lenF_one {n : Nat} (h : n < 10) : lenF n = [48 + (n : Int)] := by
 unfold lenF
 rw [Lib.decDigits, dif_pos h]
 simp only [List.map_cons, List.map_nil]
 rw [ofNat_int _ (by omega), Int.natCast_add]; rfl
theorem lenF_more {n : Nat} (h : ¬ n < 10) : lenF n = lenF (n / 10) ++ [48 + (n : Int) % 10] := by
 have e : lenF n = ((if h : n < 10 then [UInt8.ofNat (48 + n)] else Lib.decDigits (n / 10) ++ [UInt8.ofNat (48 + n % 10)]).map fun b => (b.toNat : Int)) := by
  unfold lenF
  rw [Lib.decDigits]
 rw [e, dif_neg h, List.map_append]
 simp only [List.map_cons, List.map_nil]
 rw [ofNat_int _ (by omega), Int.natCast_add, Int.natCast_emod]; rfl
theorem lenF_le (n : Nat) : (lenF n).length ≤ n + 1 := by
 induction n using Nat.strongRecOn with
 | _ n ih =>
  by_cases h : n < 10
  ·rw [lenF_one h]; simp
  ·rw [lenF_more h, List.length_append]
   have := ih (n / 10) (by omega)
   simp only [List.length_cons, List.length_nil]
   omega
theorem byteCells_lenF (n : Nat) : Lib.byteCells (Lib.decDigits n) = vb (lenF n) := by
 unfold Lib.byteCells vb lenF
 rw [List.map_map]; rfl
theorem strOf_app (xs ys : List Int) : strOfNums xs ++ strOfNums ys = strOfNums (xs ++ ys) := by
 apply ByteArray.ext
 simp [strOfNums]
theorem rowF_take (pss : List (List Int)) (k : Nat) (bs : List Int) (h : pss[k]? = some bs) : rowF (pss.take (k + 1)) = rowF (pss.take k) ++ (lenF bs.length ++ [32] ++ bs ++ [32]) := by
 unfold rowF
 rw [List.take_add_one, h]
 simp
theorem rowF_le (pss : List (List Int)) : (rowF pss).length ≤ 2 * pss.flatten.length + 3 * pss.length := by
 unfold rowF
 induction pss with
 | nil => simp
 | cons b l ih =>
  have := lenF_le b.length
  simp only [List.map_cons, List.flatten_cons, List.length_append, List.length_cons, List.length_nil] at ih ⊢
  omega
theorem rowF_mono (pss : List (List Int)) (k : Nat) : (rowF (pss.take k)).length ≤ (rowF pss).length := by
 conv => rhs; rw [← List.take_append_drop k pss]
 unfold rowF
 simp only [List.map_append, List.flatten_append, List.length_append]
 omega
end Go.Mac
namespace Go.Book
def spl (n : Nat) : Nat := 2 ^ Nat.log2 (n - 1)
theorem spl_pos (n : Nat) : 0 < spl n := Nat.two_pow_pos _
theorem spl_lt {n : Nat} (h : 2 ≤ n) : spl n < n := by
 have := Nat.log2_self_le (n := n - 1) (by omega)
 unfold spl
 omega
theorem log2_eq {a m : Nat} (h1 : 2 ^ a ≤ m) (h2 : m < 2 ^ (a + 1)) : Nat.log2 m = a := by
 have hp := Nat.two_pow_pos a
 have e1 : a ≤ Nat.log2 m := (Nat.le_log2 (by omega)).2 h1
 have e2 : Nat.log2 m < a + 1 := (Nat.log2_lt (by omega)).2 h2
 omega
theorem spl_eq {a m : Nat} (h1 : 2 ^ a < m) (h2 : m ≤ 2 ^ (a + 1)) : spl m = 2 ^ a := by
 unfold spl
 rw [log2_eq (a := a) (by omega) (by omega)]
section
variable {D : Type} (E : D) (pr : D → D → D)
def rootG (l : List D) : D :=
 if _h : 2 ≤ l.length then pr (rootG (l.take (spl l.length))) (rootG (l.drop (spl l.length))) else l.headD E
termination_by l.length
decreasing_by
 all_goals
  have h1 := spl_lt _h
  have h2 := spl_pos l.length
  simp only [List.length_take, List.length_drop]
  omega
end
section
variable {D : Type} (E : D) (pr : D → D → D)
end
end Go.Book
namespace Go.Dig
open Go Go.Sha Go.Aff Go.Json Go.Book Go.Mac
def eight (n : Nat) : List Int := (List.range 8).map fun i => ((n / 256 ^ (7 - i) % 256 : Nat) : Int)
def leafT (d : List Int) : List Int := 0 :: d
def nodeT (a b : List Int) : List Int := 1 :: (a ++ b)
def pairD (a b : List Int) : List Int := hsh (nodeT a b)
def rowD (l : List (List Int)) : List Int := rootG (hsh [101]) pairD (l.map fun d => hsh (leafT d))
def rowTx (l : List (List Int)) : List (List Int) :=
 if _h : 2 ≤ l.length then rowTx (l.take (spl l.length)) ++ rowTx (l.drop (spl l.length)) ++ [nodeT (rowD (l.take (spl l.length))) (rowD (l.drop (spl l.length)))] else [leafT (l.headD [])]
termination_by l.length
decreasing_by
 all_goals
  have h1 := spl_lt _h
  have h2 := spl_pos l.length
  simp only [List.length_take, List.length_drop]
  omega
def allTx (l : List (List Int)) : List (List Int) := if l = [] then [[101]] else rowTx l
def memT (key : ByteArray) (d : List Int) : List Int := 109 :: (rowF [sb key] ++ d)
def memD (key : ByteArray) (d : List Int) : List Int := hsh (memT key d)
def grpT (sort : Int) (n : Nat) (row : List Int) : List Int := (if sort = 6 then 111 else 108) :: (eight n ++ row)
def grpD (sort : Int) (n : Nat) (row : List Int) : List Int := hsh (grpT sort n row)
theorem rowD_nil : rowD [] = hsh [101] := by unfold rowD; rw [List.map_nil, rootG]; rfl
theorem rowD_one (d : List Int) : rowD [d] = hsh (leafT d) := by unfold rowD; rw [List.map_cons, List.map_nil, rootG]; rfl
theorem rowD_two {l : List (List Int)} (h : 2 ≤ l.length) : rowD l = pairD (rowD (l.take (spl l.length))) (rowD (l.drop (spl l.length))) := by
 unfold rowD
 rw [rootG, dif_pos (by simpa using h)]
 simp only [List.length_map, List.map_take, List.map_drop]
theorem rowTx_one (d : List Int) : rowTx [d] = [leafT d] := by rw [rowTx]; rfl
theorem rowTx_two {l : List (List Int)} (h : 2 ≤ l.length) : rowTx l = rowTx (l.take (spl l.length)) ++ rowTx (l.drop (spl l.length)) ++ [nodeT (rowD (l.take (spl l.length))) (rowD (l.drop (spl l.length)))] := by rw [rowTx, dif_pos h]
def memsD (ks : List ByteArray) (ds : List (List Int)) : List (List Int) := (ks.zip ds).map fun p => memD p.1 p.2
def _root_.Go.Json.JV.dg : JV → List Int
 | .null => hsh [110]
 | .flag b => hsh [if b then 116 else 102]
 | .num b => hsh (100 :: eight b)
 | .text s => hsh (115 :: sb s)
 | .list l => grpD 5 l.length (rowD (l.map fun x => x.dg))
 | .obj ks l => grpD 6 l.length (rowD (memsD ks (l.map fun x => x.dg)))
def _root_.Go.Json.JV.tx : JV → List (List Int)
 | .null => [[110]]
 | .flag b => [[if b then 116 else 102]]
 | .num b => [100 :: eight b]
 | .text s => [115 :: sb s]
 | .list l => (l.map fun x => x.tx).flatten ++ allTx (l.map fun x => x.dg) ++ [grpT 5 l.length (rowD (l.map fun x => x.dg))]
 | .obj ks l => ((ks.zip (l.map fun x => (x.tx, x.dg))).map fun p => p.2.1 ++ [memT p.1 p.2.2]).flatten ++ allTx (memsD ks (l.map fun x => x.dg)) ++ [grpT 6 l.length (rowD (memsD ks (l.map fun x => x.dg)))]
theorem rowD_len (l : List (List Int)) : (rowD l).length = 32 := by
 by_cases h : 2 ≤ l.length
 ·rw [rowD_two h]; exact hsh_len _
 ·match l, h with
  | [], _ => rw [rowD_nil]; exact hsh_len _
  | [d], _ => rw [rowD_one]; exact hsh_len _
  | _ :: _ :: _, h => simp at h
theorem rowD_bytes (l : List (List Int)) : IsBytes (rowD l) := by
 by_cases h : 2 ≤ l.length
 ·rw [rowD_two h]; exact hsh_bytes _
 ·match l, h with
  | [], _ => rw [rowD_nil]; exact hsh_bytes _
  | [d], _ => rw [rowD_one]; exact hsh_bytes _
  | _ :: _ :: _, h => simp at h
theorem dg_len (j : JV) : j.dg.length = 32 := by cases j <;> rw [JV.dg] <;> exact hsh_len _
theorem dgv_bytes (j : JV) : IsBytes j.dg := by cases j <;> rw [JV.dg] <;> exact hsh_bytes _
end Go.Dig
