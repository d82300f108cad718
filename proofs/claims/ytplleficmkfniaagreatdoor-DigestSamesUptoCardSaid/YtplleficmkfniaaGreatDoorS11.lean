/- Texts. -/
import Derived.Test.YtplleficmkfniaaGreatDoorS10
set_option linter.unusedSimpArgs false
set_option maxRecDepth 100000
set_option maxHeartbeats 4000000
namespace Go.Json
inductive JOk : JV → Prop
 | mk (j : JV) (h1 : j.keys.length ≤ j.items.length) (h2 : j.sort = 6 → j.keys.length = j.items.length) (hp : j.keys.Pairwise ltS) (hr : ∀ k ∈ j.keys, rightS k = true) (ht : rightS j.last.text = true) (h : ∀ x, x ∈ j.items → JOk x) : JOk j
theorem JOk.form {j : JV} (h : JOk j) : j.keys.length ≤ j.items.length ∧ (j.sort = 6 → j.keys.length = j.items.length) ∧ j.keys.Pairwise ltS ∧ (∀ k ∈ j.keys, rightS k = true) ∧ rightS j.last.text = true ∧ ∀ x, x ∈ j.items → JOk x := by
 cases h with
 | mk _ h1 h2 hp hr ht h => exact ⟨h1, h2, hp, hr, ht, h⟩
theorem items_nodes (j : JV) : j.items.length + 1 ≤ j.nodes := by
 have h : ∀ l : List JV, l.length ≤ sumN (l.map fun x => x.nodes) := by
  intro l
  induction l with
  | nil => simp [sumN]
  | cons x l ih =>
   simp only [List.map_cons, sumN, List.length_cons]
   have : 1 ≤ x.nodes := by rw [JV.nodes_eq]; omega
   omega
 have := h j.items
 rw [JV.nodes_eq]
 omega
def SmallJ (j : JV) : Prop := j.nodes ≤ 1152921504606846976 ∧ j.bytes ≤ 1152921504606846976 ∧ j.deep ≤ 1152921504606846976
theorem sumN_mem {l : List Nat} {x : Nat} (h : x ∈ l) : x ≤ sumN l := by
 induction l with
 | nil => cases h
 | cons y l ih =>
  simp only [sumN]
  rcases List.mem_cons.1 h with rfl | h
  ·omega
  ·have := ih h; omega
theorem maxN_mem {l : List Nat} {x : Nat} (h : x ∈ l) : x ≤ maxN l := by
 induction l with
 | nil => cases h
 | cons y l ih =>
  simp only [maxN]
  rcases List.mem_cons.1 h with rfl | h
  ·omega
  ·have := ih h; omega
theorem SmallJ.item {j x : JV} (h : SmallJ j) (hx : x ∈ j.items) : SmallJ x := by
 obtain ⟨h1, h2, h3⟩ := h
 rw [JV.nodes_eq] at h1
 rw [JV.bytes_eq] at h2
 rw [JV.deep_eq] at h3
 have a := sumN_mem (List.mem_map.2 ⟨x, hx, rfl⟩ : x.nodes ∈ j.items.map fun x => x.nodes)
 have b := sumN_mem (List.mem_map.2 ⟨x, hx, rfl⟩ : x.bytes ∈ j.items.map fun x => x.bytes)
 have c := maxN_mem (List.mem_map.2 ⟨x, hx, rfl⟩ : x.deep ∈ j.items.map fun x => x.deep)
 exact ⟨by omega, by omega, by omega⟩
end Go.Json
namespace Go.Proofs.YtplleficmkfniaaGreatDoor
open Go Go.RowKit Go.Aff Go.Json
structure Boxed (w W : World) (b : Nat) (T : TypeId) (SV : List Value) : Prop where
 keep : Keeps (fun _ => False) w W
 blk : Blk W b T SV
theorem Boxed.made (w : World) (T : TypeId) (SV : List Value) : Boxed w (w.alloc (.cells SV.toArray T)) w.heap.size T SV := ⟨(Keeps.refl _ w).alloc _, Blk.new w T SV⟩
theorem Boxed.stay {w W W' : World} {b : Nat} {T : TypeId} {SV : List Value} (h : Boxed w W b T SV) (k : Keeps (fun _ => False) W W') : Boxed w W' b T SV := ⟨h.keep.trans k (fun _ _ h => h), k.blk h.blk (fun h => h)⟩
end Go.Proofs.YtplleficmkfniaaGreatDoor
namespace Go.Utf
theorem cmp_at {a b : List Int} {j : Nat} {x y : Int} (h : a.take j = b.take j) (ha : a[j]? = some x) (hb : b[j]? = some y) (hne : x ≠ y) : cmpB a b = difB x y := by
 obtain ⟨h1, e1⟩ := List.getElem?_eq_some_iff.1 ha
 obtain ⟨h2, e2⟩ := List.getElem?_eq_some_iff.1 hb
 have x1 : a = a.take j ++ (x :: a.drop (j + 1)) := by rw [← e1, ← List.drop_eq_getElem_cons h1, List.take_append_drop]
 have x2 : b = a.take j ++ (y :: b.drop (j + 1)) := by rw [h, ← e2, ← List.drop_eq_getElem_cons h2, List.take_append_drop]
 have x3 : cmpB a b = cmpB (a.take j ++ (x :: a.drop (j + 1))) (a.take j ++ (y :: b.drop (j + 1))) := by rw [← x1, ← x2]
 rw [x3, cmpB_self_append, cmpB_ne _ _ hne]
theorem cmp_pre {a b : List Int} (h : a = b.take a.length) : cmpB a b = if a.length < b.length then -1 else 0 := by
 have x2 : b = a ++ b.drop a.length := by
  have := (List.take_append_drop a.length b).symm
  rwa [← h] at this
 have x3 : cmpB a b = cmpB (a ++ []) (a ++ b.drop a.length) := by rw [List.append_nil, ← x2]
 rw [x3, cmpB_self_append]
 rcases hd : b.drop a.length with _ | ⟨z, l⟩
 ·rw [if_neg (by have := List.drop_eq_nil_iff.1 hd; omega)]; rfl
 ·rw [if_pos (by
   have : (b.drop a.length).length ≠ 0 := by rw [hd]; simp
   rw [List.length_drop] at this; omega)]
  rfl
theorem cmp_pre2 {a b : List Int} (h : b = a.take b.length) : cmpB a b = if b.length < a.length then 1 else 0 := by
 have x2 : a = b ++ a.drop b.length := by
  have := (List.take_append_drop b.length a).symm
  rwa [← h] at this
 have x3 : cmpB a b = cmpB (b ++ a.drop b.length) (b ++ []) := by rw [List.append_nil, ← x2]
 rw [x3, cmpB_self_append]
 rcases hd : a.drop b.length with _ | ⟨z, l⟩
 ·rw [if_neg (by have := List.drop_eq_nil_iff.1 hd; omega)]; rfl
 ·rw [if_pos (by
   have : (a.drop b.length).length ≠ 0 := by rw [hd]; simp
   rw [List.length_drop] at this; omega)]
  rfl
end Go.Utf
namespace Go.Proofs.YtplleficmkfniaaGreatDoor
open Go Go.RowKit Go.Aff Go.Utf Go.Json
def cmpI (x y : Int) : Int := if x < y then -1 else if y < x then 1 else 0
theorem cmp_end {a b : ByteArray} {j : Nat} (h : (sb a).take j = (sb b).take j) (ha : j ≤ a.size) (hb : j ≤ b.size) (he : j = a.size ∨ j = b.size) : cmpB (sb a) (sb b) = cmpI a.size b.size := by
 have la := sb_len a
 have lb := sb_len b
 unfold cmpI
 rcases he with e | e
 ·rw [List.take_of_length_le (by omega)] at h
  rw [cmp_pre (by rw [la, ← e]; exact h), la, lb]
  by_cases h1 : a.size < b.size
  ·rw [if_pos h1, if_pos (by omega)]
  ·rw [if_neg h1, if_neg (by omega), if_neg (by omega)]
 ·rw [List.take_of_length_le (l := sb b) (by omega)] at h
  rw [cmp_pre2 (by rw [lb, ← e]; exact h.symm), la, lb]
  by_cases h1 : b.size < a.size
  ·rw [if_pos h1, if_neg (by omega), if_pos (by omega)]
  ·rw [if_neg h1, if_neg (by omega), if_neg (by omega)]
theorem notnan_int (w : World) (x : Int) : Calls Tryz.prog 200 #[.int .i64 x] w fun e w' => e = .returned (.bool false) ∧ w' = w := by
 have h : (x != x) = false := by simp
 go_enter Tryz.func200, Tryz.ntmps200
 go_wp2
 go_ret
 exact ⟨by first | rfl | simp, rfl⟩
theorem ccmp_int (w : World) (x y : Int) : Calls Tryz.prog 157 #[.int .i64 x, .int .i64 y] w fun e w' => e = .returned (.int .i64 (cmpI x y)) ∧ w' = w := by
 by_cases h1 : x < y
 ·have HC : Hid (cmpI x y = -1) := H_ (if_pos h1)
  go_enter Tryz.func157, Tryz.ntmps157
  go_wp2_with (go_at_call 200; refine (notnan_int _ _).mono ?_; rintro e w2 ⟨rfl, rfl⟩)
  go_ret
  exact ⟨by rw [HC.out]; rfl, rfl⟩
 ·by_cases h2 : y < x
  ·have HC : Hid (cmpI x y = 1) := H_ (by unfold cmpI; rw [if_neg h1, if_pos h2])
   go_enter Tryz.func157, Tryz.ntmps157
   go_wp2_with (go_at_call 200; refine (notnan_int _ _).mono ?_; rintro e w2 ⟨rfl, rfl⟩)
   go_ret
   exact ⟨by rw [HC.out]; rfl, rfl⟩
  ·have HC : Hid (cmpI x y = 0) := H_ (by unfold cmpI; rw [if_neg h1, if_neg h2])
   go_enter Tryz.func157, Tryz.ntmps157
   go_wp2_with (go_at_call 200; refine (notnan_int _ _).mono ?_; rintro e w2 ⟨rfl, rfl⟩)
   go_ret
   exact ⟨by rw [HC.out]; rfl, rfl⟩
theorem notnan_byte (w : World) (x : Int) : Calls Tryz.prog 201 #[.int .u8 x] w fun e w' => e = .returned (.bool false) ∧ w' = w := by
 have h : (x != x) = false := by simp
 go_enter Tryz.func201, Tryz.ntmps201
 go_wp2
 go_ret
 exact ⟨by first | rfl | simp, rfl⟩
theorem ccmp_byte (w : World) (x y : Int) : Calls Tryz.prog 159 #[.int .u8 x, .int .u8 y] w fun e w' => e = .returned (.int .i64 (cmpI x y)) ∧ w' = w := by
 by_cases h1 : x < y
 ·have HC : Hid (cmpI x y = -1) := H_ (if_pos h1)
  go_enter Tryz.func159, Tryz.ntmps159
  go_wp2_with (go_at_call 201; refine (notnan_byte _ _).mono ?_; rintro e w2 ⟨rfl, rfl⟩)
  go_ret
  exact ⟨by rw [HC.out]; rfl, rfl⟩
 ·by_cases h2 : y < x
  ·have HC : Hid (cmpI x y = 1) := H_ (by unfold cmpI; rw [if_neg h1, if_pos h2])
   go_enter Tryz.func159, Tryz.ntmps159
   go_wp2_with (go_at_call 201; refine (notnan_byte _ _).mono ?_; rintro e w2 ⟨rfl, rfl⟩)
   go_ret
   exact ⟨by rw [HC.out]; rfl, rfl⟩
  ·have HC : Hid (cmpI x y = 0) := H_ (by unfold cmpI; rw [if_neg h1, if_neg h2])
   go_enter Tryz.func159, Tryz.ntmps159
   go_wp2_with (go_at_call 201; refine (notnan_byte _ _).mono ?_; rintro e w2 ⟨rfl, rfl⟩)
   go_ret
   exact ⟨by rw [HC.out]; rfl, rfl⟩
theorem high_any (w : World) (x : Int) : Calls Tryz.prog 158 #[.int .u8 x] w fun e w' => e = .returned (.bool (highF x)) ∧ w' = w := by
 go_enter Tryz.func158, Tryz.ntmps158
 go_wp2
 go_ret
 exact ⟨rfl, rfl⟩
theorem byte_get {s : ByteArray} {j : Nat} (h : j < s.size) : (sb s)[j]? = some ((s.get j h).toNat : Int) := by
 unfold sb
 rw [List.getElem?_map]
 have hl : j < s.data.toList.length := by rw [Array.length_toList]; exact h
 rw [List.getElem?_eq_getElem hl]
 rfl
theorem compare_any (w : World) (a b : ByteArray) (ha : rightS a = true) (hb : rightS b = true) (hsa : a.size ≤ 1152921504606846976) (hsb : b.size ≤ 1152921504606846976) :
  Calls Tryz.prog 92 #[.string a, .string b] w fun e w' => e = .returned (.int .i64 (cmpB (sb a) (sb b))) ∧ Kp (fun _ => False) w w' := by
 have HRA := H_ fun W => rightK_any W a hsa
 have HRB := H_ fun W => rightK_any W b hsb
 rw [ha] at HRA
 rw [hb] at HRB
 obtain ⟨n, hn⟩ : ∃ n, n = a.size := ⟨_, rfl⟩
 obtain ⟨m, hm⟩ : ∃ m, m = b.size := ⟨_, rfl⟩
 have tk : True := trivial
 have hn' := hn.symm
 have hm' := hm.symm
 have HNM := H_ (And.intro hn hm)
 clear ha hb hn hm
 go_enter Tryz.func92, Tryz.ntmps92
 go_upto_block 1 with (first
  | (go_at_call 105; have _t := tk; clear tk; refine (HRA.out _).mono ?_; rintro e w1 ⟨rfl, hk1⟩; have HK1 := H_ hk1; clear hk1 _t)
  | (go_at_call 105; refine (HRB.out _).mono ?_; rintro e w2 ⟨rfl, hk2⟩; have HK2 := H_ (HK1.out.trans hk2 (fun _ _ h => h)); clear hk2))
 go_wp2
 go_loopg [7] n (fun gk t wx => ∃ j : Nat, j ≤ n ∧ j ≤ m ∧ t = .int .i64 j ∧ gk = n - j ∧ Hid (Kp (fun _ => False) w wx ∧ (sb a).take j = (sb b).take j))
 case atStart => exact ⟨0, by omega, by omega, rfl, by omega, H_ ⟨HK2.out, by simp⟩⟩
 case round =>
  obtain ⟨j, hjn, hjm, rfl, hgk, HI⟩ := hrel
  have HGK := H_ hgk
  clear hgk HRA HRB
  by_cases h1 : j < n
  ·have hja : (j : Int) < a.size := by omega
   by_cases h2 : j < m
   ·have hjb : (j : Int) < b.size := by omega
    obtain ⟨x, hx⟩ : ∃ x : Int, x = ((a.get j (by omega)).toNat : Int) := ⟨_, rfl⟩
    obtain ⟨y, hy⟩ : ∃ y : Int, y = ((b.get j (by omega)).toNat : Int) := ⟨_, rfl⟩
    have hia : ∀ W, (Instr.index 9 (.string a) (.int .i64 (j : Int))).run Tryz.prog W = .ok (.int .u8 x) W := fun W => by
     rw [run_index_string W 9 a .i64 j Tryz.underlying9, dif_pos ⟨by omega, hja⟩, hx]; rfl
    have hib : ∀ W, (Instr.index 9 (.string b) (.int .i64 (j : Int))).run Tryz.prog W = .ok (.int .u8 y) W := fun W => by
     rw [run_index_string W 9 b .i64 j Tryz.underlying9, dif_pos ⟨by omega, hjb⟩, hy]; rfl
    have HX : Hid ((sb a)[j]? = some x ∧ (sb b)[j]? = some y) := H_ ⟨by rw [hx]; exact byte_get (by omega), by rw [hy]; exact byte_get (by omega)⟩
    have hna : decide ((j : Int) < (n : Int)) = true := decide_eq_true (by omega)
    have hnb : decide ((j : Int) < (m : Int)) = true := decide_eq_true (by omega)
    obtain ⟨q, hq⟩ : ∃ q, q = (x == y) := ⟨_, rfl⟩
    have hqs := hq.symm
    have HQ : Hid (q = true ↔ x = y) := H_ (by rw [hq]; simp)
    clear hx hy hq hja hjb
    go_upto_region 9 with fail
    refine wp_region_held_drew (S := Kp (fun _ => False) wr) (by kernel_rfl) (Kp.refl (fun _ => False) _).drew (fun h_ => ?_)
    refine tI 0 32 h_ ?_
    try simp only [pu]
    refine tI 1 33 h_ ?_
    try simp only [pu]
    refine tI 2 34 h_ ?_
    try simp only [pu]
    refine tI 3 35 h_ ?_
    try simp only [pu]
    refine tI 4 36 h_ ?_
    try simp only [pu]
    refine tI 5 37 h_ ?_
    try simp only [pu]
    refine tI 6 38 h_ ?_
    try simp only [pu]
    refine tI 7 39 h_ ?_
    try simp only [pu]
    refine tI 8 40 h_ ?_
    try simp only [pu]
    refine tI 9 41 h_ ?_
    try simp only [pu]
    refine tI 10 42 h_ ?_
    try simp only [pu]
    refine tI 11 43 h_ ?_
    try simp only [pu]
    refine tI 12 44 h_ ?_
    try simp only [pu]
    refine tI 13 45 h_ ?_
    try simp only [pu]
    refine tI 14 46 h_ ?_
    try simp only [pu]
    refine tI 15 47 h_ ?_
    try simp only [pu]
    refine tI 16 48 h_ ?_
    try simp only [pu]
    refine tI 17 49 h_ ?_
    try simp only [pu]
    refine tI 18 50 h_ ?_
    try simp only [pu]
    refine wpAnyH_done (by kernel_rfl) ?_ _
    rcases q with _ | _
    ·have hne : x ≠ y := fun e => by have := HQ.out.2 e; cases this
     have HC := H_ (cmp_at HI.out.2 HX.out.1 HX.out.2 hne)
     have hjn0 : ((j : Int) == (n : Int)) = false := by simp; omega
     have hjm0 : ((j : Int) == (m : Int)) = false := by simp; omega
     clear hne
     go_upto_region 13 with fail
     refine wp_region_held_drew (S := Kp (fun _ => False) wr.drew) (by kernel_rfl) (Kp.refl (fun _ => False) _).drew (fun h_ => ?_)
     refine tI 0 68 h_ ?_
     try simp only [pu]
     refine tI 1 69 h_ ?_
     try simp only [pu]
     refine tI 2 70 h_ ?_
     try simp only [pu]
     refine tI 3 71 h_ ?_
     try simp only [pu]
     refine tI 4 72 h_ ?_
     try simp only [pu]
     refine tI 5 73 h_ ?_
     try simp only [pu]
     refine tI 6 8 h_ ?_
     try simp only [pu]
     refine tI 7 9 h_ ?_
     try simp only [pu]
     refine wpAnyH_done (by kernel_rfl) ?_ _
     have HK3 := H_ (HI.out.1.drew.trans h_ (fun _ _ h => h))
     have HHX := H_ fun W => high_any W x
     have HHY := H_ fun W => high_any W y
     have HCB := H_ fun W => ccmp_byte W x y
     obtain ⟨bx, hbx⟩ : ∃ q, q = highF x := ⟨_, rfl⟩
     obtain ⟨by', hby⟩ : ∃ q, q = highF y := ⟨_, rfl⟩
     obtain ⟨cx, hcx⟩ : ∃ q, q = decide (238 ≤ x) := ⟨_, rfl⟩
     obtain ⟨cy, hcy⟩ : ∃ q, q = decide (238 ≤ y) := ⟨_, rfl⟩
     have hcx' := hcx.symm
     have hcy' := hcy.symm
     have HD : Hid (difB x y = if (bx && !by' && cy) = true then -1 else if (by' && !bx && cx) = true then 1 else if x < y then -1 else 1) := H_ (by rw [hbx, hby, hcx, hcy]; rfl)
     have hne : x ≠ y := fun e => by have := HQ.out.2 e; cases this
     have HCMP : Hid (cmpI x y = if x < y then -1 else 1) := H_ (by
      unfold cmpI
      by_cases h : x < y
      ·rw [if_pos h, if_pos h]
      ·rw [if_neg h, if_neg h, if_pos (by omega)])
     rw [← hbx] at HHX
     rw [← hby] at HHY
     clear h_ hbx hby hcx hcy hne
     have tk2 : True := trivial
     rcases bx with _ | _ <;> rcases by' with _ | _ <;> rcases cx with _ | _ <;> rcases cy with _ | _
     all_goals
      go_wp2_with (first
       | (go_at_call 158; first | (refine (HHX.out _).mono ?_; rintro e w3 ⟨rfl, rfl⟩) | (refine (HHY.out _).mono ?_; rintro e w3 ⟨rfl, rfl⟩))
       | (go_at_call 159; refine (HCB.out _).mono ?_; rintro e w3 ⟨rfl, rfl⟩))
      go_ret
      refine ⟨?_, HK3.out⟩
      rw [HC.out, HD.out]
      first
       | rfl
       | (show Ending.returned (.int .i64 (cmpI x y)) = _; rw [HCMP.out]; rfl)
    ·have HT : Hid ((sb a).take (j + 1) = (sb b).take (j + 1)) := H_ (by
      rw [List.take_add_one, List.take_add_one, HI.out.2, HX.out.1, HX.out.2, HQ.out.1 rfl])
     go_wp2
     go_roundg (n - (j + 1))
     case measure => rw [HGK.out]; omega
     case rel => exact ⟨j + 1, by omega, by omega, by go_num, rfl, H_ ⟨HI.out.1.drew, HT.out⟩⟩
   ·have hna : decide ((j : Int) < (n : Int)) = true := decide_eq_true (by omega)
    have hnb : decide ((j : Int) < (m : Int)) = false := decide_eq_false (by omega)
    have hjm0 : ((j : Int) == (m : Int)) = true := by simp; omega
    have hjn0 : ((j : Int) == (n : Int)) = false := by simp; omega
    go_upto_region 9 with fail
    refine wp_region_held_drew (S := Kp (fun _ => False) wr) (by kernel_rfl) (Kp.refl (fun _ => False) _).drew (fun h_ => ?_)
    refine tI 0 32 h_ ?_
    try simp only [pu]
    refine tI 1 33 h_ ?_
    try simp only [pu]
    refine tI 2 34 h_ ?_
    try simp only [pu]
    refine tI 3 35 h_ ?_
    try simp only [pu]
    refine tI 4 36 h_ ?_
    try simp only [pu]
    refine tI 5 37 h_ ?_
    try simp only [pu]
    refine tI 6 38 h_ ?_
    try simp only [pu]
    refine tI 7 39 h_ ?_
    try simp only [pu]
    refine tI 8 40 h_ ?_
    try simp only [pu]
    refine tI 9 41 h_ ?_
    try simp only [pu]
    refine tI 10 42 h_ ?_
    try simp only [pu]
    refine tH (i := 11) (oi := ⟨some 43, _, _, _, _, _⟩) (v := undef) rfl (Or.inr ⟨by rfl, rfl⟩) h_ ?_
    try simp only [pu]
    refine tH (i := 12) (oi := ⟨some 44, _, _, _, _, _⟩) (v := undef) rfl (Or.inr ⟨by rfl, rfl⟩) h_ ?_
    try simp only [pu]
    refine tH (i := 13) (oi := ⟨some 45, _, _, _, _, _⟩) (v := undef) rfl (Or.inr ⟨by rfl, rfl⟩) h_ ?_
    try simp only [pu]
    refine tH (i := 14) (oi := ⟨some 46, _, _, _, _, _⟩) (v := undef) rfl (Or.inr ⟨by rfl, rfl⟩) h_ ?_
    try simp only [pu]
    refine tH (i := 15) (oi := ⟨some 47, _, _, _, _, _⟩) (v := undef) rfl (Or.inr ⟨by rfl, rfl⟩) h_ ?_
    try simp only [pu]
    refine tH (i := 16) (oi := ⟨some 48, _, _, _, _, _⟩) (v := undef) rfl (Or.inr ⟨by rfl, rfl⟩) h_ ?_
    try simp only [pu]
    refine tH (i := 17) (oi := ⟨some 49, _, _, _, _, _⟩) (v := undef) rfl (Or.inr ⟨by rfl, rfl⟩) h_ ?_
    try simp only [pu]
    refine tI 18 50 h_ ?_
    try simp only [pu]
    refine wpAnyH_done (by kernel_rfl) ?_ _
    have HC := H_ (cmp_end HI.out.2 (by rw [hn']; exact hjn) (by rw [hm']; exact hjm) (by rw [hn', hm']; omega))
    rw [hn', hm'] at HC
    have HCI := H_ fun W => ccmp_int W (n : Int) (m : Int)
    go_wp2_with (go_at_call 157; refine (HCI.out _).mono ?_; rintro e w3 ⟨rfl, rfl⟩)
    go_ret
    exact ⟨by rw [HC.out]; rfl, HI.out.1.drew⟩
  ·have hna : decide ((j : Int) < (n : Int)) = false := decide_eq_false (by omega)
   have hjn0 : ((j : Int) == (n : Int)) = true := by simp; omega
   go_upto_region 9 with fail
   refine wp_region_held_drew (S := Kp (fun _ => False) wr) (by kernel_rfl) (Kp.refl (fun _ => False) _).drew (fun h_ => ?_)
   refine tI 0 32 h_ ?_
   try simp only [pu]
   refine tI 1 33 h_ ?_
   try simp only [pu]
   refine tI 2 34 h_ ?_
   try simp only [pu]
   refine tI 3 35 h_ ?_
   try simp only [pu]
   refine tI 4 36 h_ ?_
   try simp only [pu]
   refine tH (i := 5) (oi := ⟨some 37, _, _, _, _, _⟩) (v := undef) rfl (Or.inr ⟨by rfl, rfl⟩) h_ ?_
   try simp only [pu]
   refine tH (i := 6) (oi := ⟨some 38, _, _, _, _, _⟩) (v := undef) rfl (Or.inr ⟨by rfl, rfl⟩) h_ ?_
   try simp only [pu]
   refine tH (i := 7) (oi := ⟨some 39, _, _, _, _, _⟩) (v := undef) rfl (Or.inr ⟨by rfl, rfl⟩) h_ ?_
   try simp only [pu]
   refine tH (i := 8) (oi := ⟨some 40, _, _, _, _, _⟩) (v := undef) rfl (Or.inr ⟨by rfl, rfl⟩) h_ ?_
   try simp only [pu]
   refine tI 9 41 h_ ?_
   try simp only [pu]
   refine tI 10 42 h_ ?_
   try simp only [pu]
   refine tH (i := 11) (oi := ⟨some 43, _, _, _, _, _⟩) (v := undef) rfl (Or.inr ⟨by rfl, rfl⟩) h_ ?_
   try simp only [pu]
   refine tH (i := 12) (oi := ⟨some 44, _, _, _, _, _⟩) (v := undef) rfl (Or.inr ⟨by rfl, rfl⟩) h_ ?_
   try simp only [pu]
   refine tH (i := 13) (oi := ⟨some 45, _, _, _, _, _⟩) (v := undef) rfl (Or.inr ⟨by rfl, rfl⟩) h_ ?_
   try simp only [pu]
   refine tH (i := 14) (oi := ⟨some 46, _, _, _, _, _⟩) (v := undef) rfl (Or.inr ⟨by rfl, rfl⟩) h_ ?_
   try simp only [pu]
   refine tH (i := 15) (oi := ⟨some 47, _, _, _, _, _⟩) (v := undef) rfl (Or.inr ⟨by rfl, rfl⟩) h_ ?_
   try simp only [pu]
   refine tH (i := 16) (oi := ⟨some 48, _, _, _, _, _⟩) (v := undef) rfl (Or.inr ⟨by rfl, rfl⟩) h_ ?_
   try simp only [pu]
   refine tH (i := 17) (oi := ⟨some 49, _, _, _, _, _⟩) (v := undef) rfl (Or.inr ⟨by rfl, rfl⟩) h_ ?_
   try simp only [pu]
   refine tI 18 50 h_ ?_
   try simp only [pu]
   refine wpAnyH_done (by kernel_rfl) ?_ _
   have HC := H_ (cmp_end HI.out.2 (by rw [hn']; exact hjn) (by rw [hm']; exact hjm) (by rw [hn', hm']; omega))
   rw [hn', hm'] at HC
   have HCI := H_ fun W => ccmp_int W (n : Int) (m : Int)
   go_wp2_with (go_at_call 157; refine (HCI.out _).mono ?_; rintro e w3 ⟨rfl, rfl⟩)
   go_ret
   exact ⟨by rw [HC.out]; rfl, HI.out.1.drew⟩
end Go.Proofs.YtplleficmkfniaaGreatDoor
