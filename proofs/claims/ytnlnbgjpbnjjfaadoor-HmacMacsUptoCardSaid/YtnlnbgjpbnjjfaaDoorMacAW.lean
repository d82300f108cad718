/-
  WALKS: a Mac's block, New, Write, Sum, Len, Copy, Reset; hmac.Sum.
-/
import Derived.Test.YtnlnbgjpbnjjfaaDoorShaBW
import Derived.Laws.BitsAllLaws
import Derived.Test.YtnlnbgjpbnjjfaaDoorOwnW
import Derived.Test.YtnlnbgjpbnjjfaaDoorMemK
import Derived.Laws.CopyOwn
set_option linter.unusedSimpArgs false
namespace Go.Mac
open Go Go.Aff Go.Sha
/-- What lies in a key's block, ahead of the noughts. -/
def keyIn (key : List Int) : List Int := if key.length ≤ 64 then key else sumF first 0 key
/-- A key's block. -/
def keyB (key : List Int) : List Int := keyIn key ++ List.replicate (64 - (keyIn key).length) 0
def xorB (K : List Int) (x : Int) : List Int := K.map fun k => bits .xor .u8 k x
/-- What an inner hash began with. -/
def inB (key : List Int) : List Int := xorB (keyB key) 0x36
def outB (key : List Int) : List Int := xorB (keyB key) 0x5c
/-- A keyed digest. -/
def macF (key msg : List Int) : List Int := sumF first 0 (outB key ++ sumF first 0 (inB key ++ msg))

theorem keyIn_le (key : List Int) : (keyIn key).length ≤ 64 := by
  unfold keyIn; split
  · assumption
  · rw [sumF_length]; omega
theorem keyB_length (key : List Int) : (keyB key).length = 64 := by
  have := keyIn_le key
  simp [keyB]; omega
theorem sumF_bytes (S : Nat → Int) (nb : Nat) (X : List Int) : IsBytes (sumF S nb X) := dg_bytes _
theorem keyB_bytes {key : List Int} (h : IsBytes key) : IsBytes (keyB key) := by
  intro x hx
  rcases List.mem_append.1 hx with hx | hx
  · unfold keyIn at hx
    split at hx
    · exact h x hx
    · exact sumF_bytes _ _ _ x hx
  · have := List.eq_of_mem_replicate hx
    omega
theorem xor_byte {a b : Int} (ha : 0 ≤ a ∧ a < 256) (hb : 0 ≤ b ∧ b < 256) : 0 ≤ bits .xor .u8 a b ∧ bits .xor .u8 a b < 256 := by
  rw [u8_xor a b ha.1 ha.2 hb.1 hb.2]
  have h : a.toNat ^^^ b.toNat < 2 ^ 8 := Nat.xor_lt_two_pow (by omega) (by omega)
  omega
theorem xorB_length (K : List Int) (x : Int) : (xorB K x).length = K.length := by simp [xorB]
theorem xorB_bytes {K : List Int} (h : IsBytes K) {x : Int} (hx : 0 ≤ x ∧ x < 256) : IsBytes (xorB K x) := by
  intro y hy
  obtain ⟨k, hk, rfl⟩ := List.mem_map.1 hy
  exact xor_byte (h k hk) hx
theorem inB_length (key : List Int) : (inB key).length = 64 := by rw [inB, xorB_length, keyB_length]
theorem outB_length (key : List Int) : (outB key).length = 64 := by rw [outB, xorB_length, keyB_length]
theorem inB_bytes {key : List Int} (h : IsBytes key) : IsBytes (inB key) := xorB_bytes (keyB_bytes h) (by omega)
theorem outB_bytes {key : List Int} (h : IsBytes key) : IsBytes (outB key) := xorB_bytes (keyB_bytes h) (by omega)
theorem macF_length (key msg : List Int) : (macF key msg).length = 32 := sumF_length _ _ _
theorem macF_bytes (key msg : List Int) : IsBytes (macF key msg) := sumF_bytes _ _ _

/-- Noughts behind a short key change nothing. -/
theorem keyB_noughts (key : List Int) (m : Nat) (h : key.length + m ≤ 64) : keyB (key ++ List.replicate m 0) = keyB key := by
  unfold keyB keyIn
  rw [if_pos (by simp; omega), if_pos (by omega)]
  rw [List.append_assoc, List.replicate_append_replicate, List.length_append, List.length_replicate]
  congr 2
  omega
theorem macF_noughts (key msg : List Int) (m : Nat) (h : key.length + m ≤ 64) : macF (key ++ List.replicate m 0) msg = macF key msg := by
  unfold macF inB outB; rw [keyB_noughts key m h]
/-- A long key's digest in its place changes nothing. -/
theorem keyB_long (key : List Int) (h : 64 < key.length) : keyB (sumF first 0 key) = keyB key := by
  unfold keyB keyIn
  rw [if_pos (by rw [sumF_length]; omega), if_neg (by omega)]
theorem macF_long (key msg : List Int) (h : 64 < key.length) : macF (sumF first 0 key) msg = macF key msg := by
  unfold macF inB outB; rw [keyB_long key h]
end Go.Mac

namespace Go.Proofs.YtnlnbgjpbnjjfaaDoor
open Go Go.RowKit Go.Sha Go.Aff Go.Mac

theorem info32 : (Tryd.prog.info? 41).map (·.size) = some 32 := by kernel_rfl
theorem infoB64 : (Tryd.prog.info? 84).map (·.size) = some 64 := by kernel_rfl
theorem vb_length (xs : List Int) : (vb xs).length = xs.length := by simp [vb]

/-- What block leaves in its array: the bytes over the noughts. -/
theorem block_row (xs : List Int) (_h : xs.length ≤ 64) : Go.splice (List.replicate 64 (Value.int .u8 0)) 0 (vb xs) = vb (xs ++ List.replicate (64 - xs.length) 0) := by
  unfold Go.splice
  rw [List.take_zero, List.nil_append, vb_length, Nat.zero_add, List.drop_replicate]
  simp [vb]

theorem rd_src {W : World} {A : Option Addr} {n : Nat} {xs : List Value} (h : Rd W A n xs) (dp : Option Addr) : 0 < xs.length → dp = dp ∧ ∃ ad, A = some ad ∧ ∀ j v, xs[j]? = some v → W.cell? (ad.add j) = some v := fun h0 => by
  obtain ⟨g, o, rfl, hc⟩ := h.2 (by have := h.1; omega)
  exact ⟨rfl, ⟨g, o, none⟩, rfl, fun j v hv => by rw [add_at, hc j (by have := h.1; have := (List.getElem?_eq_some_iff.1 hv).1; omega), hv]⟩

set_option maxHeartbeats 2000000 in
set_option maxRecDepth 100000 in
theorem block_any (w : World) (hG : Glob w) (A : Option Addr) (n c : Nat) (key : List Int) (hn : key.length = n) (hr : Rd w A n (vb key)) (hb : IsBytes key) (hc : n ≤ c) (hm : n ≤ 140737488351232) :
    Calls Tryd.prog 50 #[.slice A n c] w fun e w' => e = .returned (.agg (vb (keyB key)).toArray) ∧ Keeps (fun _ => False) w w' := by
  have h1 := (Blk.new w 84 (List.replicate 64 (Value.int .u8 0))).alloc (.cells (List.replicate 64 (Value.int .u8 0)).toArray 84)
  have h2 := Blk.new (w.alloc (.cells (List.replicate 64 (Value.int .u8 0)).toArray 84)) 84 (List.replicate 64 (Value.int .u8 0))
  rw [World.size_alloc] at h2
  have HFIN : Hid (∀ (W W' : World) (xs : List Int), xs.length ≤ 64 → keyIn key = xs → Keeps (fun _ => False) w W → Blk W w.heap.size 84 (List.replicate 64 (Value.int .u8 0)) → Hid (W'.heap[w.heap.size + 1]? = some (.cells (Go.splice (List.replicate 64 (Value.int .u8 0)) 0 (vb xs)).toArray 84 (0, 0))) → Below (w.heap.size + 1) W W' →
      Blk W' (w.heap.size + 1) 84 (vb (keyB key)) ∧ Blk W' w.heap.size 84 (List.replicate 64 (Value.int .u8 0)) ∧ Keeps (fun _ => False) w W') := Lib.hid fun W W' xs hl he hk hz hg hbl => by
    have hg' := hg.out
    rw [block_row xs hl] at hg'
    refine ⟨?_, hz.below hbl (by omega), hk.trans (Keeps.below hbl) (fun i hi h => by omega)⟩
    unfold keyB
    rw [he]
    exact hg'
  by_cases hlen : n ≤ 64
  · have hki : keyIn key = key := by unfold keyIn; rw [if_pos (by omega)]
    have hlen' : ¬ (64 < (n : Int)) := by omega
    have hr2 : Rd ((w.alloc (.cells (List.replicate 64 (Value.int .u8 0)).toArray 84)).alloc (.cells (List.replicate 64 (Value.int .u8 0)).toArray 84)) A n (vb key) := (hr.alloc _).alloc _
    have H1 := Lib.hid h1
    have H2 := Lib.hid h2
    have HR2 := Lib.hid hr2
    have HN := Lib.hid hn
    have HKI := Lib.hid hki
    clear h1 h2 hr2 hr hn hki hG
    go_enter Tryd.func50, Tryd.ntmps50
    go_wp2_with (first
      | ((with_reducible show wpList _ _ _ (⟨some 14, Op.call _, _, _, _, _⟩ :: _) _ _); refine wpList_copy_splice rfl (.tmp 12) (.tmp 13) 22 22 rfl 5 Tryd.underlying22 (by kernel_rfl) (some ⟨w.heap.size + 1, 0, none⟩) A 64 64 n c rfl rfl (w.heap.size + 1) 0 (List.replicate 64 (Value.int .u8 0)) 84 H2.out (vb key) (by rw [vb_length, HN.out]; exact (Nat.min_eq_left hlen).symm) (rd_src HR2.out _) (by rw [vb_length, HN.out]; simp; omega) (vb_one _) (w.heap.size + 1) _ (Below.refl _ _) (Nat.le_refl _) ?_; intro w4 hg4 hb4; obtain ⟨hq1, hq2, hq3⟩ := HFIN.out _ w4 key (by rw [HN.out]; exact hlen) HKI.out (((Keeps.refl _ w).alloc _).alloc _) H1.out hg4 hb4; have HQ1 := Lib.hid hq1; have HQ2 := Lib.hid hq2; have HQ3 := Lib.hid hq3; clear hq1 hq2 hq3 hg4 hb4)
      | ((with_reducible show wpList _ _ _ (⟨some _, Op.load 84 _, _, _, _, _⟩ :: _) _ _); refine wpList_load_whole rfl 84 _ rfl _ rfl HQ1.out Tryd.underlying84 rfl (by rw [vb_length, keyB_length]; exact infoB64) ?_)
      | ((with_reducible show wpList _ _ _ (⟨none, Op.store 84 _ _, _, _, _, _⟩ :: _) _ _); refine wpList_store_whole rfl 84 _ _ rfl (vb (keyB key)) rfl rfl HQ2.out (by rw [vb_length, keyB_length]; simp) (by rw [vb_length, keyB_length]; exact infoB64) (vb_one _) ?_))
    refine bodyPost_ret (results_blk rfl _ _ rfl (HQ2.out.setRow (vb (keyB key))) Tryd.underlying84 rfl (by rw [vb_length, keyB_length]; exact infoB64)) rfl ⟨rfl, HQ3.out.setRow (.inr (Nat.le_refl _)) _⟩
  · obtain ⟨D, hD⟩ : ∃ D, D = sumF first 0 key := ⟨_, rfl⟩
    have hDl : D.length = 32 := by rw [hD, sumF_length]
    have hki : keyIn key = D := by unfold keyIn; rw [if_neg (by omega), hD]
    have hlen' : (64 < (n : Int)) := by omega
    have hs := sums_one ((w.alloc (.cells (List.replicate 64 (Value.int .u8 0)).toArray 84)).alloc (.cells (List.replicate 64 (Value.int .u8 0)).toArray 84)) (hG.keep (((Keeps.refl (fun _ => False) w).alloc _).alloc _) (fun _ h => h.elim)) A n c key hn ((hr.alloc _).alloc _) hb hc hm
    rw [← hD] at hs
    simp only [World.size_alloc] at hs
    have HS := Lib.hid hs
    have H1 := Lib.hid h1
    have H2 := Lib.hid h2
    have HN := Lib.hid hn
    have HKI := Lib.hid hki
    have HDL := Lib.hid hDl
    clear h1 h2 hr hn hki hG hs hDl hD hlen
    go_enter Tryd.func50, Tryd.ntmps50
    go_wp2_with (first
      | (go_at_call 20; refine HS.out.mono ?_; rintro e w2 ⟨rfl, hk2⟩; have hw3 := (hk2.alloc (.cells (List.replicate 32 (Value.int .u8 0)).toArray 41)).setRow (.inr hk2.size) (vb D).toArray; have hd3 := (Blk.new w2 41 (List.replicate 32 (Value.int .u8 0))).setRow (vb D); have HD3 := Lib.hid hd3; have HW3 := Lib.hid hw3; have HZ3 := Lib.hid (Blk.new w2 41 (List.replicate 32 (Value.int .u8 0))); have hlow : w.heap.size + 1 < w2.heap.size := (hk2.blk H2.out (fun h => h)).lt; clear hk2 hw3 hd3)
      | ((with_reducible show wpList _ _ _ (⟨none, Op.store 41 _ _, _, _, _, _⟩ :: _) _ _); refine wpList_store_whole rfl 41 _ _ rfl (vb D) rfl rfl HZ3.out (by rw [vb_length, HDL.out]; simp) (by rw [vb_length, HDL.out]; exact info32) (vb_one _) ?_)
      | ((with_reducible show wpList _ _ _ (⟨some 14, Op.call _, _, _, _, _⟩ :: _) _ _); refine wpList_copy_splice rfl (.tmp 12) (.tmp 13) 22 22 rfl 5 Tryd.underlying22 (by kernel_rfl) (some ⟨w.heap.size + 1, 0, none⟩) (some ⟨w2.heap.size, 0, none⟩) 64 64 32 32 rfl rfl (w.heap.size + 1) 0 (List.replicate 64 (Value.int .u8 0)) 84 (HW3.out.blk H2.out (fun h => h)) (vb D) (by rw [vb_length, HDL.out]; rfl) (rd_src (Rd.of_blk HD3.out rfl) _) (by rw [vb_length, HDL.out]; simp) (vb_one _) (w.heap.size + 1) _ (Below.refl _ _) (Nat.le_refl _) ?_; intro w4 hg4 hb4; obtain ⟨hq1, hq2, hq3⟩ := HFIN.out _ w4 D (by rw [HDL.out]; omega) HKI.out ((((Keeps.refl _ w).alloc _).alloc _).trans HW3.out (fun _ _ h => h)) (HW3.out.blk H1.out (fun h => h)) hg4 hb4; have HQ1 := Lib.hid hq1; have HQ2 := Lib.hid hq2; have HQ3 := Lib.hid hq3; clear hq1 hq2 hq3 hg4 hb4)
      | ((with_reducible show wpList _ _ _ (⟨some _, Op.load 84 _, _, _, _, _⟩ :: _) _ _); refine wpList_load_whole rfl 84 _ rfl _ rfl HQ1.out Tryd.underlying84 rfl (by rw [vb_length, keyB_length]; exact infoB64) ?_)
      | ((with_reducible show wpList _ _ _ (⟨none, Op.store 84 _ _, _, _, _, _⟩ :: _) _ _); refine wpList_store_whole rfl 84 _ _ rfl (vb (keyB key)) rfl rfl HQ2.out (by rw [vb_length, keyB_length]; simp) (by rw [vb_length, keyB_length]; exact infoB64) (vb_one _) ?_))
    refine bodyPost_ret (results_blk rfl _ _ rfl (HQ2.out.setRow (vb (keyB key))) Tryd.underlying84 rfl (by rw [vb_length, keyB_length]; exact infoB64)) rfl ⟨rfl, HQ3.out.setRow (.inr (Nat.le_refl _)) _⟩
end Go.Proofs.YtnlnbgjpbnjjfaaDoor

namespace Go.Aff
open Go Go.RowKit
theorem splice_cons (cs : List Value) (o : Nat) (v : Value) (l : List Value) (h : o + (l.length + 1) ≤ cs.length) : splice (cs.set o v) (o + 1) l = splice cs o (v :: l) := by
  apply List.ext_getElem?
  intro j
  rw [splice_getElem? _ _ _ (by simp; omega), splice_getElem? _ _ _ (by simpa using h)]
  simp only [List.getElem?_set, List.length_cons]
  by_cases a : j < o
  · rw [if_pos (by omega), if_pos a, if_neg (by omega)]
  · by_cases b : j = o
    · subst b; rw [if_pos (by omega), if_pos rfl, if_neg a, if_pos (by omega)]; simp
    · rw [if_neg (by omega), if_neg a]
      by_cases c : j < o + 1 + l.length
      · rw [if_pos c, if_pos (by omega), show j - o = (j - (o + 1)) + 1 by omega]; simp
      · rw [if_neg c, if_neg (by omega), if_neg (by omega)]
theorem build_list (o : Nat) : ∀ (l : List Value) (k : Nat) (z : Array Value), o + k + l.length ≤ z.size → (l.zipIdx k).foldl (fun (cs : Array Value) x => cs.setIfInBounds (o + x.2) x.1) z = (splice z.toList (o + k) l).toArray
  | [], k, z, _ => by simp [splice]
  | v :: l, k, z, h => by
    simp only [List.length_cons] at h
    rw [List.zipIdx_cons, List.foldl_cons, build_list o l (k + 1) _ (by simp; omega)]
    have := splice_cons z.toList (o + k) v l (by simp; omega)
    rw [← this]
    simp [Nat.add_assoc]
theorem build_array (o : Nat) (l : List Value) (z : Array Value) (h : o + l.length ≤ z.size) : Array.foldl (fun (cs : Array Value) x => cs.setIfInBounds (o + x.2) x.1) z l.toArray.zipIdx 0 l.toArray.size = (splice z.toList o l).toArray := by
  have := build_list o l 0 z (by omega)
  rw [Nat.add_zero] at this
  rw [← this]
  simp
end Go.Aff
namespace Go.Mac
open Go Go.Aff Go.Sha
/-- A key's block, t bytes of it turned. -/
def xorL (K : List Int) (x : Int) (t : Nat) : List Int := (xorB K x).take t ++ K.drop t
theorem xorL_zero (K : List Int) (x : Int) : xorL K x 0 = K := by simp [xorL]
theorem xorL_all (K : List Int) (x : Int) : xorL K x K.length = xorB K x := by
  have h := xorB_length K x
  simp [xorL, ← h]
theorem xorL_length (K : List Int) (x : Int) (t : Nat) (h : t ≤ K.length) : (xorL K x t).length = K.length := by
  have := xorB_length K x
  simp [xorL]; omega
theorem xorL_get (K : List Int) (x : Int) (t : Nat) (h : t < K.length) : (xorL K x t)[t]? = some (K.getD t 0) := by
  have := xorB_length K x
  unfold xorL
  rw [List.getElem?_append_right (by rw [List.length_take]; omega), List.length_take, List.getElem?_drop]
  rw [show t + (t - min t (xorB K x).length) = t by omega]
  simp [h]
theorem xorL_set (K : List Int) (x : Int) (t : Nat) (h : t < K.length) : (xorL K x t).set t (bits .xor .u8 (K.getD t 0) x) = xorL K x (t + 1) := by
  have hl := xorB_length K x
  have h1 : ((xorB K x).take t).length = t := by rw [List.length_take]; omega
  unfold xorL
  rw [List.set_append_right _ _ (by omega), h1, Nat.sub_self, List.drop_eq_getElem_cons h, List.set_cons_zero]
  rw [List.take_succ_eq_append_getElem (by omega), List.append_assoc]
  congr 1
  simp [xorB, h]
end Go.Mac
namespace Go.Proofs.YtnlnbgjpbnjjfaaDoor
open Go Go.RowKit Go.Sha Go.Aff Go.Mac

def XRel (w : World) (K : List Int) (x : Int) (t : Nat) (wr : World) : Prop := Blk wr w.heap.size 84 (vb (xorL K x t)) ∧ Keeps (fun _ => False) w wr
theorem Own.older {w w1 wr : World} {p : Nat} {v : Value} {S : Nat → Int} {nb : Nat} {X : List Int} (h : Own w1 wr p v S nb X) (hk : Keeps (fun _ => False) w w1) : Own w wr p v S nb X :=
  ⟨h.1, hk.trans h.2.1 (fun _ _ h => h), fun i hi => Nat.le_trans hk.size (h.2.2 i hi)⟩

set_option maxHeartbeats 2000000 in
set_option maxRecDepth 100000 in
theorem begun_any (w : World) (hG : Glob w) (K : List Int) (hK : K.length = 64) (hb : IsBytes K) (x : Int) (hx : 0 ≤ x ∧ x < 256) :
    Calls Tryd.prog 51 #[.agg (vb K).toArray, .int .u8 x] w fun e w' => ∃ p v, e = .returned (.pointer (some ⟨p, 0, none⟩)) ∧ Own w w' p v first 0 (xorB K x) := by
  have R0 : XRel w K x 0 (w.alloc (.cells (vb K).toArray 84)) := by
    refine ⟨?_, (Keeps.refl _ w).alloc _⟩
    rw [xorL_zero]; exact Blk.new _ _ _
  have HST : Hid (∀ t wr, t < 64 → XRel w K x t wr → wr.cell? ⟨w.heap.size, t, none⟩ = some (.int .u8 (K.getD t 0)) ∧ wr.frozen? ⟨w.heap.size, t, none⟩ = false ∧ XRel w K x (t + 1) (wr.setCell ⟨w.heap.size, t, none⟩ (.int .u8 (bits .xor .u8 (K.getD t 0) x)))) := Lib.hid fun t wr ht h => by
    refine ⟨?_, h.1.frozen t, ?_, h.2.setCell (.inr (Nat.le_refl _)) _⟩
    · rw [h.1.cell]
      unfold vb
      rw [List.getElem?_map, xorL_get K x t (by omega)]
      rfl
    · have := h.1.set_ t (.int .u8 (bits .xor .u8 (K.getD t 0) x))
      have e : (vb (xorL K x t)).set t (.int .u8 (bits .xor .u8 (K.getD t 0) x)) = vb (xorL K x (t + 1)) := by
        unfold vb
        rw [← xorL_set K x t (by omega), List.map_set]
      rwa [e] at this
  have HNW : Hid (∀ W, Keeps (fun _ => False) w W → Calls Tryd.prog 45 #[] W fun e w' => ∃ p, e = .returned (.pointer (some ⟨p, 0, none⟩)) ∧ Own W w' p (.slice none 0 0) first 0 []) := Lib.hid fun W hk =>
    (new_any W (hG.keep hk (fun _ h => h.elim))).mono fun e w' ⟨h1, h2⟩ => ⟨W.heap.size, h1, by rw [h2]; exact own_new W⟩
  have HWR : Hid (∀ (W1 W2 : World) (p : Nat), XRel w K x 64 W1 → Own W1 W2 p (.slice none 0 0) first 0 [] → Calls Tryd.prog 53 #[.pointer (some ⟨p, 0, none⟩), .slice (some ⟨W2.heap.size, 0, none⟩) 1 1] (W2.alloc (.cells #[.slice (some ⟨w.heap.size, 0, none⟩) 64 64] 22)) fun e w' => e = .returned .nilIface ∧ ∃ v, Own w w' p v first 0 (xorB K x)) := Lib.hid fun W1 W2 p hr ho => by
    have e1 : xorL K x 64 = xorB K x := by rw [← hK]; exact xorL_all K x
    have hl : (xorB K x).length = 64 := by rw [xorB_length, hK]
    have hrd : Rd W1 (some ⟨w.heap.size, 0, none⟩) 64 (vb (xorB K x)) := by rw [← e1]; exact Rd.of_blk hr.1 (by rw [vb_length, e1, hl])
    refine (own_write1 W1 (hG.keep hr.2 (fun _ h => h.elim)) W2 p _ first 0 [] ho (some ⟨w.heap.size, 0, none⟩) 64 64 (xorB K x) hl (hrd.keep ho.2.1 (no_out _ _)) (ho.out hrd) (xorB_bytes hb hx) (Nat.le_refl _) (by omega) (by simp)).mono ?_
    rintro e w' ⟨he, v', ho', _, _⟩
    exact ⟨he, v', ho'.older hr.2⟩
  have HR0 := Lib.hid R0
  obtain ⟨cs, hcs⟩ : ∃ cs, cs = (vb K).toArray := ⟨_, rfl⟩
  rw [← hcs] at HR0 ⊢
  obtain ⟨hx1, hx2⟩ := hx
  have HB : Hid (∀ t, 0 ≤ K.getD t 0 ∧ K.getD t 0 < 256) := Lib.hid fun t => by
    rw [List.getD_eq_getElem?_getD]
    cases hk : K[t]? with
    | none => simp
    | some x => exact hb x (List.mem_of_getElem? hk)
  clear R0 hcs hG hK hb
  go_enter Tryd.func51, Tryd.ntmps51
  go_wp2
  go_loopw [5, 7] (fun _ i wr => ∃ t : Nat, t ≤ 64 ∧ i = .int .i64 t ∧ XRel w K x t wr) (fun _ i _ => 64 - (intOf i).toNat)
  case atStart => exact ⟨0, by omega, rfl, HR0.out⟩
  case round =>
    clear HR0
    obtain ⟨t, ht, rfl, hr⟩ := hrel
    by_cases hlt : t < 64
    · obtain ⟨c1, c2, hn⟩ := HST.out t wr hlt hr
      obtain ⟨b1, b2⟩ := HB.out t
      have HN := Lib.hid hn
      clear hn hr
      obtain ⟨k, hk⟩ : ∃ k, k = K.getD t 0 := ⟨_, rfl⟩
      rw [← hk] at c1 b1 b2 HN
      clear hk
      go_wp2
      go_roundw
      case rel => exact ⟨t + 1, by omega, by go_num, HN.out⟩
      case measure => simp [intOf]; omega
    · obtain rfl : t = 64 := by omega
      have HR := Lib.hid hr
      clear hr
      go_wp2_with (first
        | (go_at_call 45; refine (HNW.out _ HR.out.2).mono ?_; rintro e w2 ⟨p, rfl, ho2⟩; have HO2 := Lib.hid ho2; clear ho2)
        | (go_at_call 53; refine (HWR.out _ _ _ HR.out HO2.out).mono ?_; rintro e w3 ⟨rfl, v3, ho3⟩; have HO3 := Lib.hid ho3; clear ho3))
      go_ret
      exact ⟨p, v3, rfl, HO3.out⟩

/-- The cells of a Mac. -/
def mcells (q : Nat) (n : Int) (K : List Int) : List Value := .pointer (some ⟨q, 0, none⟩) :: .int .i64 n :: vb K
theorem mcells_length (q : Nat) (n : Int) (K : List Int) (h : K.length = 64) : (mcells q n K).length = 66 := by simp [mcells, vb_length, h]
/-- A Mac of the call's own, newer than world w. -/
structure OMac (w wr : World) (p q : Nat) (v : Value) (key msg : List Int) : Prop where
  blk : Blk wr p 89 (mcells q msg.length (keyB key))
  own : Own w wr q v first 0 (inB key ++ msg)
  low : w.heap.size ≤ p
theorem OMac.apart {w wr : World} {p q : Nat} {v : Value} {key msg : List Int} (h : OMac w wr p q v key msg) : ∀ i, Foot q v i → i ≠ p := by
  rintro i (rfl | hi) e
  · exact h.own.1.1.ne_ h.blk (by decide) e
  · exact own_blk h.own.1.2.1 h.blk (by decide) (hi.trans (by rw [e]))
theorem OMac.keep {w wr w' : World} {p q : Nat} {v : Value} {key msg : List Int} (h : OMac w wr p q v key msg) (hk : Keeps (fun _ => False) wr w') : OMac w w' p q v key msg := ⟨hk.blk h.blk (fun h => h), h.own.keep hk, h.low⟩
theorem OMac.older {w w1 wr : World} {p q : Nat} {v : Value} {key msg : List Int} (h : OMac w1 wr p q v key msg) (hk : Keeps (fun _ => False) w w1) : OMac w wr p q v key msg := ⟨h.blk, h.own.older hk, Nat.le_trans hk.size h.low⟩

/-- A Mac's cells before its hash. -/
def mzero (K : List Int) : List Value := .pointer none :: .int .i64 0 :: vb K
theorem zeroMac : Tryd.zeroCells89.toList = .pointer none :: .int .i64 0 :: List.replicate 64 (.int .u8 0) := by kernel_rfl
theorem build_mac (K : List Int) (hK : K.length = 64) : Array.foldl (fun (cs : Array Value) x => cs.setIfInBounds (2 + x.2) x.1) Tryd.zeroCells89 (vb K).toArray.zipIdx 0 (vb K).toArray.size = (mzero K).toArray := by
  have hz : Tryd.zeroCells89.size = 66 := by rw [← Array.length_toList, zeroMac]; rfl
  rw [build_array 2 (vb K) _ (by rw [vb_length, hK, hz]; decide), zeroMac]
  congr 1
  unfold Aff.splice mzero
  rw [vb_length, hK, List.drop_eq_nil_of_le (by simp)]
  simp

set_option maxHeartbeats 2000000 in
set_option maxRecDepth 100000 in
theorem mnew_any (w : World) (hG : Glob w) (A : Option Addr) (n c : Nat) (key : List Int) (hn : key.length = n) (hr : Rd w A n (vb key)) (hb : IsBytes key) (hc : n ≤ c) (hm : n ≤ 140737488351232) :
    Calls Tryd.prog 31 #[.slice A n c] w fun e w' => ∃ p q v, e = .returned (.pointer (some ⟨p, 0, none⟩)) ∧ OMac w w' p q v key [] := by
  have hbl := block_any w hG A n c key hn hr hb hc hm
  have hbg := fun W hk => begun_any W (hG.keep (F := fun _ => False) hk (fun _ h => h.elim)) (keyB key) (keyB_length key) (keyB_bytes hb) 0x36 (by omega)
  have hbuild := build_mac (keyB key) (keyB_length key)
  have HIN : Hid (xorB (keyB key) 0x36 = inB key) := rfl
  obtain ⟨K, hK⟩ : ∃ K, K = keyB key := ⟨_, rfl⟩
  have hKl : K.length = 64 := by rw [hK, keyB_length]
  rw [← hK] at hbl hbuild HIN
  simp only [← hK] at hbg
  obtain ⟨cs, hcs⟩ : ∃ cs, cs = (vb K).toArray := ⟨_, rfl⟩
  obtain ⟨mc, hmc⟩ : ∃ mc, mc = (mzero K).toArray := ⟨_, rfl⟩
  rw [← hcs] at hbl
  simp only [← hcs] at hbg
  rw [← hcs, ← hmc] at hbuild
  have HM0 : Hid (∀ W : World, Blk (W.alloc (.cells mc 89)) W.heap.size 89 (mzero K)) := Lib.hid fun W => by rw [hmc]; exact Blk.new _ _ _
  have hsz : cs.size = 64 := by rw [hcs]; simpa [vb] using hKl
  rw [hsz] at hbuild
  have HLI : Hid (∀ W : World, Lies (W.alloc (.cells mc 89)) W.heap.size 2 (vb K)) := Lib.hid fun W => Lies.of_blk (HM0.out W) (by simp [mzero])
  have HBL := Lib.hid hbl
  have HBG := Lib.hid hbg
  have HCS := Lib.hid hcs
  have HKK := Lib.hid hK
  have HKL := Lib.hid hKl
  clear hbl hbg hcs hmc hK hKl hr hG
  go_enter Tryd.func31, Tryd.ntmps31
  go_wp2_with (first
    | (go_at_call 50; refine HBL.out.mono ?_; rintro e w1 ⟨rfl, hk1⟩; have HK1 := Lib.hid hk1; clear hk1)
    | ((with_reducible show wpList _ _ _ (⟨some _, Op.load 84 _, _, _, _, _⟩ :: _) _ _); refine wpList_load_lies rfl 84 _ rfl 2 (vb K) _ rfl (HLI.out w1) Tryd.underlying84 rfl (by rw [vb_length, HKL.out]; exact infoB64) ?_; rw [← HCS.out])
    | (go_at_call 51; refine (HBG.out _ (HK1.out.alloc (.cells mc 89))).mono ?_; rintro e w3 ⟨q, v, rfl, ho3⟩; have hb3 := ho3.2.1.blk (HM0.out w1) (fun h => h); have d0 : w3.cell? ⟨w1.heap.size, 0, none⟩ = some (.pointer none) := (by rw [hb3.cell]; rfl); have e0 : w3.frozen? ⟨w1.heap.size, 0, none⟩ = false := hb3.frozen 0; have HO3 := Lib.hid ho3; have HB3 := Lib.hid hb3; clear ho3 hb3))
  go_ret
  have hne : ∀ i, Foot q v i → i ≠ w1.heap.size := fun i hi e => by have := HO3.out.2.2 i hi; simp at this; omega
  have hk3 : Keeps (fun i => i = w1.heap.size) w3 (w3.setCell ⟨w1.heap.size, 0, none⟩ (.pointer (some ⟨q, 0, none⟩))) := Keeps.setCell (F := fun i => i = w1.heap.size) (Keeps.refl _ _) (.inl rfl) _
  refine ⟨w1.heap.size, q, v, rfl, ?_, ?_, HK1.out.size⟩
  · have := HB3.out.set_ 0 (.pointer (some ⟨q, 0, none⟩))
    rw [← HKK.out]
    exact this
  · have h1 := HO3.out
    rw [List.append_nil, ← HIN.out]
    refine ⟨h1.1.keep hk3 (fun i hi => hne i hi), ?_, fun i hi => ?_⟩
    · exact (((HK1.out.alloc _).trans h1.2.1 (fun _ _ h => h))).trans hk3 (fun i hi h => by have := HK1.out.size; omega)
    · have := h1.2.2 i hi
      have := HK1.out.size
      simp at *
      omega

set_option maxHeartbeats 2000000 in
set_option maxRecDepth 100000 in
theorem mwrite_any (w : World) (hG : Glob w) (wr : World) (p q : Nat) (v : Value) (key msg : List Int) (h : OMac w wr p q v key msg) (A : Option Addr) (n c : Nat) (bs : List Int) (hn : bs.length = n)
    (hr : Rd wr A n (vb bs)) (ho : Out (Foot q v) A n) (hb : IsBytes bs) (hc : n ≤ c) (hm : n ≤ 140737488351232) (hfit : 64 + msg.length + n < 2305843009213693952) :
    Calls Tryd.prog 33 #[.pointer (some ⟨p, 0, none⟩), .slice A n c] wr fun e w' => e = .returned .nilIface ∧ ∃ v', OMac w w' p q v' key (msg ++ bs) ∧ Keeps (fun i => i = p ∨ Foot q v i) wr w' ∧ (∀ g, v'.ownBlock = some g → v.ownBlock = some g ∨ wr.heap.size ≤ g) := by
  have hw := own_write1 w hG wr q v first 0 (inB key ++ msg) h.own A n c bs hn hr ho hb hc hm (by rw [List.length_append, inB_length]; omega)
  have hap := h.apart
  have c0 : wr.cell? ⟨p, 0, none⟩ = some (.pointer (some ⟨q, 0, none⟩)) := by rw [h.blk.cell]; rfl
  have HFIN : Hid (∀ (w2 : World) (v' : Value), Own w w2 q v' first 0 ((inB key ++ msg) ++ bs) → Keeps (Foot q v) wr w2 → (∀ g, v'.ownBlock = some g → v.ownBlock = some g ∨ wr.heap.size ≤ g) →
      w2.cell? ⟨p, 1, none⟩ = some (.int .i64 msg.length) ∧ w2.frozen? ⟨p, 1, none⟩ = false ∧ (OMac w (w2.setCell ⟨p, 1, none⟩ (.int .i64 (((msg.length + n : Nat)) : Int))) p q v' key (msg ++ bs) ∧ Keeps (fun i => i = p ∨ Foot q v i) wr (w2.setCell ⟨p, 1, none⟩ (.int .i64 (((msg.length + n : Nat)) : Int))))) := Lib.hid fun w2 v' ho2 hk2 hv2 => by
    have hb2 := hk2.blk h.blk (fun hf => hap p hf rfl)
    have hplt := h.blk.lt
    have hk3 : Keeps (fun i => i = p) w2 (w2.setCell ⟨p, 1, none⟩ (.int .i64 (((msg.length + n : Nat)) : Int))) := Keeps.setCell (F := fun i => i = p) (Keeps.refl _ _) (.inl rfl) _
    refine ⟨by rw [hb2.cell]; rfl, hb2.frozen 1, ⟨?_, ?_, h.low⟩, ?_⟩
    · have := hb2.set_ 1 (.int .i64 (((msg.length + n : Nat)) : Int))
      rw [List.length_append, hn]
      exact this
    · rw [← List.append_assoc]
      refine ⟨ho2.1.keep hk3 (fun i hi e => ?_), ho2.2.1.trans hk3 (fun i hi e => by have e' : i = p := e; have := h.low; omega), ho2.2.2⟩
      have e' : i = p := e
      subst e'
      rcases hi with rfl | hi
      · exact hap i (.inl rfl) rfl
      · rcases hv2 i hi with h1 | h1
        · exact hap i (.inr h1) rfl
        · omega
    · exact (hk2.mono (fun i _ hf => .inr hf)).setCell (F := fun i => i = p ∨ Foot q v i) (.inl (.inl rfl)) _
  have HW := Lib.hid hw
  have hml : msg.length < 2305843009213693952 := by omega
  have hnl : n < 2305843009213693952 := by omega
  obtain ⟨m, hm'⟩ : ∃ m, m = msg.length := ⟨_, rfl⟩
  rw [← hm'] at HFIN hml hfit
  clear hw hap h hr ho hb hn hm' hG
  go_enter Tryd.func33, Tryd.ntmps33
  go_wp2_with (first
    | (go_at_call 53; refine HW.out.mono ?_; rintro e w2 ⟨rfl, v', ho2, hk2, hv2⟩; obtain ⟨d1, e1, hf⟩ := HFIN.out w2 v' ho2 hk2 hv2; have HF := Lib.hid hf; have HV2 := Lib.hid hv2; clear hf ho2 hk2 hv2))
  go_ret
  exact ⟨rfl, v', HF.out.1, HF.out.2, HV2.out⟩
end Go.Proofs.YtnlnbgjpbnjjfaaDoor

namespace Go.Proofs.YtnlnbgjpbnjjfaaDoor
open Go Go.RowKit Go.Sha Go.Aff Go.Mac

theorem take_flat' (pss : List (List Int)) (k : Nat) (bs : List Int) (h : pss[k]? = some bs) : (pss.take (k + 1)).flatten = (pss.take k).flatten ++ bs := by
  rw [List.take_add_one, h]; simp

set_option maxHeartbeats 2000000 in
set_option maxRecDepth 100000 in
theorem msum_any (w : World) (hG : Glob w) (wr : World) (p q : Nat) (v : Value) (key msg : List Int) (h : OMac w wr p q v key msg) (hkb : IsBytes key) (hfit : 64 + msg.length < 2305843009213693952) :
    Calls Tryd.prog 34 #[.pointer (some ⟨p, 0, none⟩)] wr fun e w' => e = .returned (.agg (vb (macF key msg)).toArray) ∧ Keeps (fun _ => False) wr w' := by
  have hGr := hG.keep h.own.2.1 (fun _ h => h.elim)
  have HS1 : Hid (∀ W, Keeps (fun _ => False) wr W → Calls Tryd.prog 47 #[.pointer (some ⟨q, 0, none⟩)] W fun e w' => e = .returned (.agg (vb (sumF first 0 (inB key ++ msg))).toArray) ∧ Keeps (fun _ => False) W w') := Lib.hid fun W hk =>
    sum_any W (hGr.keep hk (fun _ h => h.elim)) q v first 0 _ (h.own.1.keep hk (fun _ _ h => h)) (by rw [List.length_append, inB_length]; omega)
  have HBG : Hid (∀ W, Keeps (fun _ => False) wr W → Calls Tryd.prog 51 #[.agg (vb (keyB key)).toArray, .int .u8 92] W fun e w' => ∃ p v, e = .returned (.pointer (some ⟨p, 0, none⟩)) ∧ Own W w' p v first 0 (outB key)) := Lib.hid fun W hk =>
    begun_any W (hGr.keep hk (fun _ h => h.elim)) (keyB key) (keyB_length key) (keyB_bytes hkb) 0x5c (by omega)
  obtain ⟨D, hD⟩ : ∃ D, D = sumF first 0 (inB key ++ msg) := ⟨_, rfl⟩
  have hDl : D.length = 32 := by rw [hD, sumF_length]
  have hDb : IsBytes D := by rw [hD]; exact sumF_bytes _ _ _
  have HWR : Hid (∀ (W3 W4 : World) (g q2 : Nat) (v2 : Value), Keeps (fun _ => False) wr W3 → Blk W3 g 41 (vb D) → Own W3 W4 q2 v2 first 0 (outB key) → Calls Tryd.prog 53 #[.pointer (some ⟨q2, 0, none⟩), .slice (some ⟨W4.heap.size, 0, none⟩) 1 1] (W4.alloc (.cells #[.slice (some ⟨g, 0, none⟩) 32 32] 22)) fun e w' => e = .returned .nilIface ∧ ∃ v, Own W3 w' q2 v first 0 (outB key ++ D)) := Lib.hid fun W3 W4 g q2 v2 hk hb ho => by
    have hrd : Rd W3 (some ⟨g, 0, none⟩) 32 (vb D) := Rd.of_blk hb (by rw [vb_length, hDl])
    refine (own_write1 W3 (hGr.keep hk (fun _ h => h.elim)) W4 q2 v2 first 0 (outB key) ho (some ⟨g, 0, none⟩) 32 32 D hDl (hrd.keep ho.2.1 (no_out _ _)) (ho.out hrd) hDb (Nat.le_refl _) (by omega) (by rw [outB_length]; omega)).mono ?_
    rintro e w' ⟨he, v', ho', _, _⟩
    exact ⟨he, v', ho'⟩
  have HS2 : Hid (∀ (W3 W5 : World) (q2 : Nat) (v3 : Value), Keeps (fun _ => False) wr W3 → Own W3 W5 q2 v3 first 0 (outB key ++ D) → Calls Tryd.prog 47 #[.pointer (some ⟨q2, 0, none⟩)] W5 fun e w' => e = .returned (.agg (vb (macF key msg)).toArray) ∧ Keeps (fun _ => False) W3 w') := Lib.hid fun W3 W5 q2 v3 hk ho => by
    refine (sum_any W5 (hGr.keep (hk.trans ho.2.1 (fun _ _ h => h)) (fun _ h => h.elim)) q2 v3 first 0 _ ho.1 (by rw [List.length_append, outB_length, hDl]; omega)).mono fun e w' ⟨he, hk'⟩ => ⟨?_, ho.2.1.trans hk' (fun _ _ h => h)⟩
    rw [he, hD]
    rfl
  rw [← hD] at HS1
  have c0 : ∀ W, Keeps (fun _ => False) wr W → W.cell? ⟨p, 0, none⟩ = some (.pointer (some ⟨q, 0, none⟩)) := fun W hk => by rw [(hk.blk h.blk (fun h => h)).cell]; rfl
  have hl0 : ∀ W, Keeps (fun _ => False) wr W → Lies W p 2 (vb (keyB key)) := fun W hk => Lies.of_blk (hk.blk h.blk (fun h => h)) (by simp [mcells])
  have c0w := c0 wr (Keeps.refl _ _)
  have hplt : p < wr.heap.size := h.blk.lt
  have C0 := Lib.hid c0
  have hz := Blk.new wr 41 (List.replicate 32 (Value.int .u8 0))
  have HKL : Hid ((vb (keyB key)).length = 64) := Lib.hid (by rw [vb_length, keyB_length])
  have HML : Hid ((vb (macF key msg)).length = 32) := Lib.hid (by rw [vb_length, macF_length])
  obtain ⟨KB, hKB⟩ : ∃ KB, KB = vb (keyB key) := ⟨_, rfl⟩
  obtain ⟨MV, hMV⟩ : ∃ MV, MV = vb (macF key msg) := ⟨_, rfl⟩
  obtain ⟨DV, hDV⟩ : ∃ DV, DV = vb D := ⟨_, rfl⟩
  have HM1 : Hid (∀ u ∈ MV, u.oneCell' = true) := Lib.hid (by rw [hMV]; exact vb_one _)
  have HD1 : Hid (∀ u ∈ DV, u.oneCell' = true) := Lib.hid (by rw [hDV]; exact vb_one _)
  have HDL : Hid (DV.length = 32) := Lib.hid (by rw [hDV, vb_length, hDl])
  rw [← hKB] at HKL HBG
  simp only [← hKB] at hl0
  rw [← hMV] at HML HS2 ⊢
  rw [← hDV] at HS1 HWR
  have HL0 := Lib.hid hl0
  have HZ := Lib.hid hz
  clear hKB hMV hDV hD hDl hDb c0 hl0 hz hGr h hG hkb
  have tok1 : True := trivial
  go_enter Tryd.func34, Tryd.ntmps34
  go_wp2_with (first
    | (go_at_call 47; have _t := tok1; clear tok1; refine (HS1.out _ ((Keeps.refl _ wr).alloc _)).mono ?_; rintro e w1 ⟨rfl, hk1⟩; have hk2 := (((Keeps.refl (fun _ => False) wr).alloc (.cells (List.replicate 32 (Value.int .u8 0)).toArray 41)).trans hk1 (fun _ _ h => h)); have HK2 := Lib.hid hk2; have HK1 := Lib.hid hk1; have HZ1 := Lib.hid (Blk.new w1 41 (List.replicate 32 (Value.int .u8 0))); clear hk1 hk2)
    | ((with_reducible show wpList _ _ _ (⟨none, Op.store 41 (.tmp 3) _, _, _, _, _⟩ :: _) _ _); refine wpList_store_whole rfl 41 _ _ rfl DV rfl rfl HZ1.out (by rw [HDL.out]; simp) (by rw [HDL.out]; exact info32) HD1.out ?_; have hb3 := HZ1.out.setRow DV; have hk3 := (HK2.out.alloc (.cells (List.replicate 32 (Value.int .u8 0)).toArray 41)).setRow (.inr HK2.out.size) DV.toArray; have hz3 := ((HK1.out.blk HZ.out (fun h => h)).alloc (.cells (List.replicate 32 (Value.int .u8 0)).toArray 41)).setRow_far (show wr.heap.size ≠ w1.heap.size by have := (HK1.out.blk HZ.out (fun h => h)).lt; omega) DV.toArray; refine gen_world (fun W => Blk W w1.heap.size 41 DV ∧ Keeps (fun _ => False) wr W ∧ Blk W wr.heap.size 41 (List.replicate 32 (Value.int .u8 0))) ⟨hb3, hk3, hz3⟩ ?_; clear hb3 hk3 hz3; rintro W3 ⟨hb3, hk3, hz3⟩; have c3 : W3.cell? ⟨p, 0, none⟩ = some (.pointer (some ⟨q, 0, none⟩)) := C0.out _ hk3; have HB3 := Lib.hid hb3; have HK3 := Lib.hid hk3; have HZ3 := Lib.hid hz3; clear hb3 hk3 hz3)
    | ((with_reducible show wpList _ _ _ (⟨some _, Op.load 84 _, _, _, _, _⟩ :: _) _ _); refine wpList_load_lies rfl 84 _ rfl 2 KB _ rfl (HL0.out _ HK3.out) Tryd.underlying84 rfl (by rw [HKL.out]; exact infoB64) ?_)
    | (go_at_call 51; refine (HBG.out _ HK3.out).mono ?_; rintro e w4 ⟨q2, v2, rfl, ho4⟩; have HO4 := Lib.hid ho4; clear ho4)
    | (go_at_call 53; refine (HWR.out _ _ _ _ _ HK3.out HB3.out HO4.out).mono ?_; rintro e w5 ⟨rfl, v5, ho5⟩; have HO5 := Lib.hid ho5; clear ho5)
    | (go_at_call 47; refine (HS2.out _ _ _ _ HK3.out HO5.out).mono ?_; rintro e w6 ⟨rfl, hk6⟩; have HZ6 := Lib.hid (hk6.blk HZ3.out (fun h => h)); have HK6 := Lib.hid (HK3.out.trans hk6 (fun _ _ h => h)); clear hk6)
    | ((with_reducible show wpList _ _ _ (⟨none, Op.store 41 (.tmp 2) _, _, _, _, _⟩ :: _) _ _); refine wpList_store_whole rfl 41 _ _ rfl MV rfl rfl HZ6.out (by rw [HML.out]; simp) (by rw [HML.out]; exact info32) HM1.out ?_))
  refine bodyPost_ret (results_blk rfl _ _ rfl (HZ6.out.setRow MV) Tryd.underlying41 rfl (by rw [HML.out]; exact info32)) rfl ⟨rfl, HK6.out.setRow (.inr (Nat.le_refl _)) _⟩

/-- While parts are written to a Mac; w1: the world before it. -/
def MRel (w1 : World) (p q : Nat) (key : List Int) (pss : List (List Int)) (k : Nat) (wr : World) : Prop := ∃ v, OMac w1 wr p q v key (pss.take k).flatten

set_option maxHeartbeats 2000000 in
set_option maxRecDepth 100000 in
theorem hsum_any (w : World) (hG : Glob w) (A : Option Addr) (n c : Nat) (key : List Int) (hn : key.length = n) (hr : Rd w A n (vb key)) (hb : IsBytes key) (hc : n ≤ c) (hm : n ≤ 140737488351232)
    (B : Option Addr) (m d : Nat) (pss : List (List Int)) (hm' : pss.length = m) (hp : RdPartsO (fun _ => False) w B pss) (hml : m ≤ 140737488355328) (hfit : 64 + pss.flatten.length < 2305843009213693952) :
    Calls Tryd.prog 19 #[.slice A n c, .slice B m d] w fun e w' => e = .returned (.agg (vb (macF key pss.flatten)).toArray) ∧ Keeps (fun _ => False) w w' := by
  obtain ⟨W1, hW1⟩ : ∃ W1, W1 = w.alloc (.cells (List.replicate 32 (Value.int .u8 0)).toArray 41) := ⟨_, rfl⟩
  have hk1 : Keeps (fun _ => False) w W1 := by rw [hW1]; exact (Keeps.refl _ w).alloc _
  have hz : Blk W1 w.heap.size 41 (List.replicate 32 (Value.int .u8 0)) := by rw [hW1]; exact Blk.new _ _ _
  have hG1 := hG.keep hk1 (fun _ h => h.elim)
  have HNW := Lib.hid (mnew_any W1 hG1 A n c key hn (hr.keep hk1 (no_out _ _)) hb hc hm)
  obtain ⟨vals, hv, _, hparts⟩ := hp.keep hk1 (fun _ h => h)
  have HW : Hid (∀ (wr : World) (p q k : Nat), k < m → MRel W1 p q key pss k wr → ∃ g o A' c' n', B = some ⟨g, o, none⟩ ∧ wr.cell? ⟨g, o + k, none⟩ = some (.slice A' n' c') ∧ Calls Tryd.prog 33 #[.pointer (some ⟨p, 0, none⟩), .slice A' n' c'] wr fun e w' => e = .returned .nilIface ∧ MRel W1 p q key pss (k + 1) w') := Lib.hid fun wr p q k hlt ⟨v, hr⟩ => by
    have hv' := hv.keep hr.own.2.1 (no_out _ _)
    obtain ⟨g, o, e, hcell⟩ := hv'.2 (by omega)
    obtain ⟨bs, hbs⟩ : ∃ bs, pss[k]? = some bs := ⟨_, List.getElem?_eq_getElem (by omega)⟩
    obtain ⟨A', c', h1, h2, _, h4, h5, h6⟩ := hparts k bs hbs
    have hpl := part_le pss k bs hbs
    refine ⟨g, o, A', c', bs.length, e, (hcell k (by omega)).trans h1, ?_⟩
    refine (mwrite_any W1 hG1 wr p q v key _ hr A' bs.length c' bs rfl (h2.keep hr.own.2.1 (no_out _ _)) (hr.own.out h2) h4 h5 h6 (by omega)).mono ?_
    rintro e' w' ⟨he, v', ho, _, _⟩
    refine ⟨he, v', ?_⟩
    rw [take_flat' pss k bs hbs]
    exact ho
  have HSU : Hid (∀ (wr : World) (p q : Nat), MRel W1 p q key pss m wr → Calls Tryd.prog 34 #[.pointer (some ⟨p, 0, none⟩)] wr fun e w' => e = .returned (.agg (vb (macF key pss.flatten)).toArray) ∧ Keeps (fun _ => False) W1 w') := Lib.hid fun wr p q ⟨v, hr⟩ => by
    rw [← hm', List.take_length] at hr
    exact (msum_any W1 hG1 wr p q v key _ hr hb hfit).mono fun e w' ⟨he, hk⟩ => ⟨he, hr.own.2.1.trans hk (fun _ _ h => h)⟩
  have HM0 : Hid (∀ (wr : World) (p q : Nat) (v : Value), OMac W1 wr p q v key [] → MRel W1 p q key pss 0 wr) := Lib.hid fun wr p q v h => ⟨v, h⟩
  have HK1 := Lib.hid hk1
  have HZ := Lib.hid hz
  have HML : Hid ((vb (macF key pss.flatten)).length = 32) := Lib.hid (by rw [vb_length, macF_length])
  obtain ⟨MV, hMV⟩ : ∃ MV, MV = vb (macF key pss.flatten) := ⟨_, rfl⟩
  have HM1 : Hid (∀ u ∈ MV, u.oneCell' = true) := Lib.hid (by rw [hMV]; exact vb_one _)
  rw [← hMV] at HSU HML ⊢
  rw [hW1] at HNW HW HSU HM0 HK1 HZ
  clear hW1 hk1 hz hG1 hv hparts hMV hr hb hG hm'
  go_enter Tryd.func19, Tryd.ntmps19
  go_wp2_with (first
    | (go_at_call 31; refine HNW.out.mono ?_; rintro e w2 ⟨p, q, v, rfl, ho2⟩; have HO2 := Lib.hid (HM0.out _ _ _ _ ho2); clear ho2))
  go_loopw [7, 12] (fun _ i wr => ∃ k : Nat, k ≤ m ∧ i = .int .i64 k ∧ MRel (w.alloc (.cells (List.replicate 32 (Value.int .u8 0)).toArray 41)) p q key pss k wr) (fun _ i _ => m - (intOf i).toNat)
  case atStart => exact ⟨0, by omega, rfl, HO2.out⟩
  case round =>
    clear HO2
    obtain ⟨k, hk, rfl, hr⟩ := hrel
    by_cases hlt : k < m
    · obtain ⟨g, o, A', c', n', rfl, hcell, hcall⟩ := HW.out wr p q k hlt hr
      have HC := Lib.hid hcall
      clear hcall hr
      go_wp2_with (first
        | (go_at_call 33; refine HC.out.mono ?_; rintro e w3 ⟨rfl, hr3⟩; have HR3 := Lib.hid hr3; clear hr3))
      go_roundw
      case rel => exact ⟨k + 1, by omega, by go_num, HR3.out⟩
      case measure => simp [intOf]; omega
    · obtain rfl : k = m := by omega
      have hs := HSU.out wr p q hr
      have HS := Lib.hid hs
      clear hs hr
      go_wp2_with (first
        | (go_at_call 34; refine HS.out.mono ?_; rintro e w6 ⟨rfl, hk6⟩; have HZ6 := Lib.hid (hk6.blk HZ.out (fun h => h)); have HK6 := Lib.hid (HK1.out.trans hk6 (fun _ _ h => h)); clear hk6)
        | ((with_reducible show wpList _ _ _ (⟨none, Op.store 41 _ _, _, _, _, _⟩ :: _) _ _); refine wpList_store_whole rfl 41 _ _ rfl MV rfl rfl HZ6.out (by rw [HML.out]; simp) (by rw [HML.out]; exact info32) HM1.out ?_))
      refine bodyPost_ret (results_blk rfl _ _ rfl (HZ6.out.setRow MV) Tryd.underlying41 rfl (by rw [HML.out]; exact info32)) rfl ⟨rfl, HK6.out.setRow (.inr (Nat.le_refl _)) _⟩
end Go.Proofs.YtnlnbgjpbnjjfaaDoor

namespace Go.Proofs.YtnlnbgjpbnjjfaaDoor
open Go Go.RowKit Go.Sha Go.Aff Go.Mac

set_option maxRecDepth 100000 in
theorem mlen_any (w wr : World) (p q : Nat) (v : Value) (key msg : List Int) (h : OMac w wr p q v key msg) :
    Calls Tryd.prog 35 #[.pointer (some ⟨p, 0, none⟩)] wr fun e w' => e = .returned (.int .i64 msg.length) ∧ w' = wr := by
  have c1 : wr.cell? ⟨p, 1, none⟩ = some (.int .i64 msg.length) := by rw [h.blk.cell]; rfl
  obtain ⟨m, hm⟩ : ∃ m, m = msg.length := ⟨_, rfl⟩
  rw [← hm] at c1 ⊢
  clear h hm
  go_enter Tryd.func35, Tryd.ntmps35
  go_wp2
  go_ret
  exact ⟨rfl, rfl⟩

theorem mcells_one (q : Nat) (n : Int) (K : List Int) : ∀ u ∈ mcells q n K, u.oneCell' = true := by
  intro u hu
  unfold mcells at hu
  rcases List.mem_cons.mp hu with rfl | hu
  · rfl
  · rcases List.mem_cons.mp hu with rfl | hu
    · rfl
    · exact vb_one _ u hu
theorem infoMac : (Tryd.prog.info? 89).map (·.size) = some 66 := by kernel_rfl

set_option maxHeartbeats 2000000 in
set_option maxRecDepth 100000 in
/-- A copy: newer than the world in which it is made. -/
theorem mcopy_any (w wr : World) (p q : Nat) (v : Value) (key msg : List Int) (h : OMac w wr p q v key msg) :
    Calls Tryd.prog 32 #[.pointer (some ⟨p, 0, none⟩)] wr fun e w' => ∃ p2 q2 v2, e = .returned (.pointer (some ⟨p2, 0, none⟩)) ∧ OMac wr w' p2 q2 v2 key msg := by
  have HCP : Hid (∀ W, Keeps (fun _ => False) wr W → Calls Tryd.prog 52 #[.pointer (some ⟨q, 0, none⟩)] W fun e w' => ∃ q2 v2, e = .returned (.pointer (some ⟨q2, 0, none⟩)) ∧ HashAt w' q2 v2 first 0 (inB key ++ msg) ∧ Keeps (fun _ => False) W w' ∧ ∀ i, Foot q2 v2 i → W.heap.size ≤ i) := Lib.hid fun W hk =>
    (copy_any W q v first 0 _ (h.own.1.keep hk (fun _ _ h => h))).mono fun e w' hc => by
      obtain ⟨q2, u, he, ho, hk', hf⟩ := Own.copied (Keeps.refl _ W) hc
      exact ⟨q2, u, he, ho.1, hk', hf⟩
  have hb := h.blk
  have hkl := keyB_length key
  obtain ⟨MC, hMC⟩ : ∃ MC, MC = mcells q msg.length (keyB key) := ⟨_, rfl⟩
  have HML : Hid (MC.length = 66) := Lib.hid (by rw [hMC, mcells_length _ _ _ hkl])
  have HM1 : Hid (∀ u ∈ MC, u.oneCell' = true) := Lib.hid (by rw [hMC]; exact mcells_one _ _ _)
  have HIN : Hid ((Tryd.prog.info? 89).map (·.size) = some MC.length) := Lib.hid (by rw [HML.out]; exact infoMac)
  have HSET : Hid (∀ q2 : Nat, MC.set 0 (.pointer (some ⟨q2, 0, none⟩)) = mcells q2 msg.length (keyB key)) := Lib.hid fun q2 => by rw [hMC]; rfl
  have HC0 : Hid (∀ (W : World) (g : Nat), Blk W g 89 MC → W.frozen? ⟨g, 0, none⟩ = false ∧ W.cell? ⟨g, 0, none⟩ = some (.pointer (some ⟨q, 0, none⟩))) := Lib.hid fun W g hB => ⟨hB.frozen 0, by rw [hB.cell, hMC]; rfl⟩
  rw [← hMC] at hb
  have c0 : wr.cell? ⟨p, 0, none⟩ = some (.pointer (some ⟨q, 0, none⟩)) := by rw [hb.cell, hMC]; rfl
  have HC := Lib.hid c0
  have HP : Hid (p < wr.heap.size) := Lib.hid hb.lt
  have HB := Lib.hid hb
  have HZL : Hid (Tryd.zeroCells89.toList.length = MC.length) := Lib.hid (by rw [HML.out, zeroMac]; rfl)
  have HZM : Hid (∀ W : World, Blk (W.alloc (.cells Tryd.zeroCells89 89)) W.heap.size 89 Tryd.zeroCells89.toList) := Lib.hid fun W => Blk.new _ _ _
  clear hb hkl h c0 hMC
  go_enter Tryd.func32, Tryd.ntmps32
  go_wp2_with (first
    | ((with_reducible show wpList _ _ _ (⟨some _, Op.load 89 _, _, _, _, _⟩ :: _) _ _); refine wpList_load_whole rfl 89 _ rfl _ rfl HB.out Tryd.underlying89 rfl HIN.out ?_)
    | ((with_reducible show wpList _ _ _ (⟨none, Op.store 89 _ _, _, _, _, _⟩ :: _) _ _); refine wpList_store_whole rfl 89 _ _ rfl MC rfl rfl (HZM.out wr) HZL.out HIN.out HM1.out ?_; have hb3 := (HZM.out wr).setRow MC; have hk3 := ((Keeps.refl (fun _ => False) wr).alloc (.cells Tryd.zeroCells89 89)).setRow (.inr (Nat.le_refl _)) MC.toArray; refine gen_world (fun W => Blk W wr.heap.size 89 MC ∧ Keeps (fun _ => False) wr W) ⟨hb3, hk3⟩ ?_; clear hb3 hk3; rintro W3 ⟨hb3, hk3⟩; have c3 : W3.cell? ⟨p, 0, none⟩ = some (.pointer (some ⟨q, 0, none⟩)) := (hk3.cell HP.out (fun h => h)).trans HC.out; have HB3 := Lib.hid hb3; have HK3 := Lib.hid hk3; clear hb3 hk3)
    | (go_at_call 52; refine (HCP.out _ HK3.out).mono ?_; rintro e w4 ⟨q2, v2, rfl, ha4, hk4, hf4⟩; obtain ⟨e4, d4⟩ := HC0.out w4 wr.heap.size (hk4.blk HB3.out (fun h => h)); have HB4 := Lib.hid (hk4.blk HB3.out (fun h => h)); have HA4 := Lib.hid ha4; have HK4 := Lib.hid hk4; have HF4 := Lib.hid hf4; clear ha4 hk4 hf4))
  go_ret
  have hs3 : wr.heap.size < W3.heap.size := HB3.out.lt
  have hne : ∀ i, Foot q2 v2 i → i ≠ wr.heap.size := fun i hi e => by have := HF4.out i hi; omega
  have hk5 : Keeps (fun i => i = wr.heap.size) w4 (w4.setCell ⟨wr.heap.size, 0, none⟩ (.pointer (some ⟨q2, 0, none⟩))) := Keeps.setCell (F := fun i => i = wr.heap.size) (Keeps.refl _ _) (.inl rfl) _
  refine ⟨wr.heap.size, q2, v2, rfl, ?_, ⟨HA4.out.keep hk5 (fun i hi => hne i hi), ?_, fun i hi => ?_⟩, Nat.le_refl _⟩
  · rw [← HSET.out q2]
    exact HB4.out.set_ 0 _
  · exact (HK3.out.trans HK4.out (fun _ _ h => h)).trans hk5 (fun i hi h => by omega)
  · have := HF4.out i hi
    omega

set_option maxHeartbeats 2000000 in
set_option maxRecDepth 100000 in
/-- A Mac begins anew. -/
theorem mreset_any (w : World) (hG : Glob w) (wr : World) (p q : Nat) (v : Value) (key msg : List Int) (h : OMac w wr p q v key msg) (hkb : IsBytes key) :
    Calls Tryd.prog 36 #[.pointer (some ⟨p, 0, none⟩)] wr fun e w' => ∃ q2 v2, e = .returned .nilIface ∧ OMac w w' p q2 v2 key [] ∧ Keeps (fun i => i = p) wr w' ∧ (∀ i, Foot q2 v2 i → wr.heap.size ≤ i) := by
  have hGr := hG.keep h.own.2.1 (fun _ h => h.elim)
  have HBG := Lib.hid (begun_any wr hGr (keyB key) (keyB_length key) (keyB_bytes hkb) 0x36 (by omega))
  have HL : Hid (Lies wr p 2 (vb (keyB key))) := Lib.hid (Lies.of_blk h.blk (by simp [mcells]))
  have HKL : Hid ((vb (keyB key)).length = 64) := Lib.hid (by rw [vb_length, keyB_length])
  have HFIN : Hid (∀ (w2 : World) (q2 : Nat) (v2 : Value), Own wr w2 q2 v2 first 0 (xorB (keyB key) 0x36) →
      Blk w2 p 89 (mcells q msg.length (keyB key)) ∧ (OMac w (w2.setRow p (splice (mcells q msg.length (keyB key)) 0 [.pointer (some ⟨q2, 0, none⟩), .int .i64 0]).toArray) p q2 v2 key [] ∧ Keeps (fun i => i = p) wr (w2.setRow p (splice (mcells q msg.length (keyB key)) 0 [.pointer (some ⟨q2, 0, none⟩), .int .i64 0]).toArray) ∧ (∀ i, Foot q2 v2 i → wr.heap.size ≤ i))) := Lib.hid fun w2 q2 v2 ho2 => by
    have hb2 := ho2.2.1.blk h.blk (fun h => h)
    have hplt := h.blk.lt
    have hsp : splice (mcells q msg.length (keyB key)) 0 [.pointer (some ⟨q2, 0, none⟩), .int .i64 0] = mcells q2 0 (keyB key) := rfl
    rw [hsp]
    have hk3 : Keeps (fun i => i = p) w2 (w2.setRow p (mcells q2 0 (keyB key)).toArray) := Keeps.setRow (F := fun i => i = p) (Keeps.refl _ _) (.inl rfl) _
    refine ⟨hb2, ⟨hb2.setRow _, ?_, h.low⟩, ?_, ho2.2.2⟩
    · rw [List.append_nil]
      refine ⟨ho2.1.keep hk3 (fun i hi e => by have := ho2.2.2 i hi; omega), (h.own.2.1.trans ho2.2.1 (fun _ _ h => h)).trans hk3 (fun i hi e => by have := h.low; omega), fun i hi => Nat.le_trans h.own.2.1.size (ho2.2.2 i hi)⟩
    · exact (ho2.2.1.mono (fun _ _ h => h.elim)).trans hk3 (fun _ _ h => h)
  obtain ⟨KB, hKB⟩ : ∃ KB, KB = vb (keyB key) := ⟨_, rfl⟩
  obtain ⟨MC, hMC⟩ : ∃ MC, MC = mcells q msg.length (keyB key) := ⟨_, rfl⟩
  have HML : Hid (MC.length = 66) := Lib.hid (by rw [hMC, mcells_length _ _ _ (keyB_length key)])
  rw [← hKB] at HBG HL HKL
  simp only [← hMC] at HFIN
  clear hKB hMC hGr h hkb hG
  go_enter Tryd.func36, Tryd.ntmps36
  go_wp2_with (first
    | ((with_reducible show wpList _ _ _ (⟨some _, Op.load 84 _, _, _, _, _⟩ :: _) _ _); refine wpList_load_lies rfl 84 _ rfl 2 KB _ rfl HL.out Tryd.underlying84 rfl (by rw [HKL.out]; exact infoB64) ?_)
    | (go_at_call 51; refine HBG.out.mono ?_; rintro e w2 ⟨q2, v2, rfl, ho2⟩; obtain ⟨hb2, hf2⟩ := HFIN.out w2 q2 v2 ho2; have HB2 := Lib.hid hb2; have HF2 := Lib.hid hf2; clear ho2 hb2 hf2)
    | ((with_reducible show wpList _ _ _ (⟨none, Op.store 87 _ _, _, _, _, _⟩ :: _) _ _); refine wpList_store_at rfl 87 _ _ rfl 0 [.pointer (some ⟨q2, 0, none⟩), .int .i64 0] rfl rfl HB2.out (by rw [HML.out]; show 0 + 2 ≤ 66; omega) (by kernel_rfl) (by intro u hu; rcases List.mem_cons.mp hu with rfl | hu; rfl; rcases List.mem_cons.mp hu with rfl | hu; rfl; cases hu) ?_; refine gen_world (fun W => OMac w W p q2 v2 key [] ∧ Keeps (fun i => i = p) wr W ∧ (∀ i, Foot q2 v2 i → wr.heap.size ≤ i)) HF2.out ?_; intro W3 h3; have H3 := Lib.hid h3; clear h3))
  go_ret
  exact ⟨q2, v2, rfl, H3.out⟩
end Go.Proofs.YtnlnbgjpbnjjfaaDoor

