/-
  WALKS: hmac: begun, New, Write, Sum (of a Mac).
-/
import Derived.Test.YtnlnbgjpbnjjfaaDoorMacW
set_option linter.unusedSimpArgs false
namespace Go.Aff
open Go Go.RowKit
theorem splice_cons (cs : List Value) (o : Nat) (v : Value) (l : List Value) (h : o + (l.length + 1) ≤ cs.length) : splice (cs.set o v) (o + 1) l = splice cs o (v :: l) := by
  apply List.ext_getElem?
  intro j
  rw [splice_getElem? _ _ _ (by simp; omega), splice_getElem? _ _ _ (by simpa using h)]
  simp only [List.getElem?_set, List.length_cons]
  by_cases a : j < o
  · rw [if_pos (by omega), if_pos a, if_neg (by omega)]
  · by_cases b : j = o
    · subst b; rw [if_pos (by omega), if_pos rfl, if_neg a, if_pos (by omega)]; simp
    · rw [if_neg (by omega), if_neg a]
      by_cases c : j < o + 1 + l.length
      · rw [if_pos c, if_pos (by omega), show j - o = (j - (o + 1)) + 1 by omega]; simp
      · rw [if_neg c, if_neg (by omega), if_neg (by omega)]
theorem build_list (o : Nat) : ∀ (l : List Value) (k : Nat) (z : Array Value), o + k + l.length ≤ z.size → (l.zipIdx k).foldl (fun (cs : Array Value) x => cs.setIfInBounds (o + x.2) x.1) z = (splice z.toList (o + k) l).toArray
  | [], k, z, _ => by simp [splice]
  | v :: l, k, z, h => by
    simp only [List.length_cons] at h
    rw [List.zipIdx_cons, List.foldl_cons, build_list o l (k + 1) _ (by simp; omega)]
    have := splice_cons z.toList (o + k) v l (by simp; omega)
    rw [← this]
    simp [Nat.add_assoc]
theorem build_array (o : Nat) (l : List Value) (z : Array Value) (h : o + l.length ≤ z.size) : Array.foldl (fun (cs : Array Value) x => cs.setIfInBounds (o + x.2) x.1) z l.toArray.zipIdx 0 l.toArray.size = (splice z.toList o l).toArray := by
  have := build_list o l 0 z (by omega)
  rw [Nat.add_zero] at this
  rw [← this]
  simp
end Go.Aff
namespace Go.Mac
open Go Go.Aff Go.Sha
/-- A key's block, t bytes of it turned. -/
def xorL (K : List Int) (x : Int) (t : Nat) : List Int := (xorB K x).take t ++ K.drop t
theorem xorL_zero (K : List Int) (x : Int) : xorL K x 0 = K := by simp [xorL]
theorem xorL_all (K : List Int) (x : Int) : xorL K x K.length = xorB K x := by
  have h := xorB_length K x
  simp [xorL, ← h]
theorem xorL_length (K : List Int) (x : Int) (t : Nat) (h : t ≤ K.length) : (xorL K x t).length = K.length := by
  have := xorB_length K x
  simp [xorL]; omega
theorem xorL_get (K : List Int) (x : Int) (t : Nat) (h : t < K.length) : (xorL K x t)[t]? = some (K.getD t 0) := by
  have := xorB_length K x
  unfold xorL
  rw [List.getElem?_append_right (by rw [List.length_take]; omega), List.length_take, List.getElem?_drop]
  rw [show t + (t - min t (xorB K x).length) = t by omega]
  simp [h]
theorem xorL_set (K : List Int) (x : Int) (t : Nat) (h : t < K.length) : (xorL K x t).set t (bits .xor .u8 (K.getD t 0) x) = xorL K x (t + 1) := by
  have hl := xorB_length K x
  have h1 : ((xorB K x).take t).length = t := by rw [List.length_take]; omega
  unfold xorL
  rw [List.set_append_right _ _ (by omega), h1, Nat.sub_self, List.drop_eq_getElem_cons h, List.set_cons_zero]
  rw [List.take_succ_eq_append_getElem (by omega), List.append_assoc]
  congr 1
  simp [xorB, h]
end Go.Mac
namespace Go.Proofs.YtnlnbgjpbnjjfaaDoor
open Go Go.RowKit Go.Sha Go.Aff Go.Mac

def XRel (w : World) (K : List Int) (x : Int) (t : Nat) (wr : World) : Prop := Blk wr w.heap.size 84 (vb (xorL K x t)) ∧ Keeps (fun _ => False) w wr
theorem Own.older {w w1 wr : World} {p : Nat} {v : Value} {S : Nat → Int} {nb : Nat} {X : List Int} (h : Own w1 wr p v S nb X) (hk : Keeps (fun _ => False) w w1) : Own w wr p v S nb X :=
  ⟨h.1, hk.trans h.2.1 (fun _ _ h => h), fun i hi => Nat.le_trans hk.size (h.2.2 i hi)⟩

set_option maxHeartbeats 2000000 in
set_option maxRecDepth 100000 in
theorem begun_any (w : World) (hG : Glob w) (K : List Int) (hK : K.length = 64) (hb : IsBytes K) (x : Int) (hx : 0 ≤ x ∧ x < 256) :
    Calls Tryd.prog 51 #[.agg (vb K).toArray, .int .u8 x] w fun e w' => ∃ p v, e = .returned (.pointer (some ⟨p, 0, none⟩)) ∧ Own w w' p v first 0 (xorB K x) := by
  have R0 : XRel w K x 0 (w.alloc (.cells (vb K).toArray 84)) := by
    refine ⟨?_, (Keeps.refl _ w).alloc _⟩
    rw [xorL_zero]; exact Blk.new _ _ _
  have HST : Hid (∀ t wr, t < 64 → XRel w K x t wr → wr.cell? ⟨w.heap.size, t, none⟩ = some (.int .u8 (K.getD t 0)) ∧ wr.frozen? ⟨w.heap.size, t, none⟩ = false ∧ XRel w K x (t + 1) (wr.setCell ⟨w.heap.size, t, none⟩ (.int .u8 (bits .xor .u8 (K.getD t 0) x)))) := Lib.hid fun t wr ht h => by
    refine ⟨?_, h.1.frozen t, ?_, h.2.setCell (.inr (Nat.le_refl _)) _⟩
    · rw [h.1.cell]
      unfold vb
      rw [List.getElem?_map, xorL_get K x t (by omega)]
      rfl
    · have := h.1.set_ t (.int .u8 (bits .xor .u8 (K.getD t 0) x))
      have e : (vb (xorL K x t)).set t (.int .u8 (bits .xor .u8 (K.getD t 0) x)) = vb (xorL K x (t + 1)) := by
        unfold vb
        rw [← xorL_set K x t (by omega), List.map_set]
      rwa [e] at this
  have HNW : Hid (∀ W, Keeps (fun _ => False) w W → Calls Tryd.prog 45 #[] W fun e w' => ∃ p, e = .returned (.pointer (some ⟨p, 0, none⟩)) ∧ Own W w' p (.slice none 0 0) first 0 []) := Lib.hid fun W hk =>
    (new_any W (hG.keep hk (fun _ h => h.elim))).mono fun e w' ⟨h1, h2⟩ => ⟨W.heap.size, h1, by rw [h2]; exact own_new W⟩
  have HWR : Hid (∀ (W1 W2 : World) (p : Nat), XRel w K x 64 W1 → Own W1 W2 p (.slice none 0 0) first 0 [] → Calls Tryd.prog 53 #[.pointer (some ⟨p, 0, none⟩), .slice (some ⟨W2.heap.size, 0, none⟩) 1 1] (W2.alloc (.cells #[.slice (some ⟨w.heap.size, 0, none⟩) 64 64] 22)) fun e w' => e = .returned .nilIface ∧ ∃ v, Own w w' p v first 0 (xorB K x)) := Lib.hid fun W1 W2 p hr ho => by
    have e1 : xorL K x 64 = xorB K x := by rw [← hK]; exact xorL_all K x
    have hl : (xorB K x).length = 64 := by rw [xorB_length, hK]
    have hrd : Rd W1 (some ⟨w.heap.size, 0, none⟩) 64 (vb (xorB K x)) := by rw [← e1]; exact Rd.of_blk hr.1 (by rw [vb_length, e1, hl])
    refine (own_write1 W1 (hG.keep hr.2 (fun _ h => h.elim)) W2 p _ first 0 [] ho (some ⟨w.heap.size, 0, none⟩) 64 64 (xorB K x) hl (hrd.keep ho.2.1 (no_out _ _)) (ho.out hrd) (xorB_bytes hb hx) (Nat.le_refl _) (by omega) (by simp)).mono ?_
    rintro e w' ⟨he, v', ho', _, _⟩
    exact ⟨he, v', ho'.older hr.2⟩
  have HR0 := Lib.hid R0
  obtain ⟨cs, hcs⟩ : ∃ cs, cs = (vb K).toArray := ⟨_, rfl⟩
  rw [← hcs] at HR0 ⊢
  obtain ⟨hx1, hx2⟩ := hx
  have HB : Hid (∀ t, 0 ≤ K.getD t 0 ∧ K.getD t 0 < 256) := Lib.hid fun t => by
    rw [List.getD_eq_getElem?_getD]
    cases hk : K[t]? with
    | none => simp
    | some x => exact hb x (List.mem_of_getElem? hk)
  clear R0 hcs hG hK hb
  go_enter Tryd.func51, Tryd.ntmps51
  go_wp2
  go_loopw [5, 7] (fun _ i wr => ∃ t : Nat, t ≤ 64 ∧ i = .int .i64 t ∧ XRel w K x t wr) (fun _ i _ => 64 - (intOf i).toNat)
  case atStart => exact ⟨0, by omega, rfl, HR0.out⟩
  case round =>
    clear HR0
    obtain ⟨t, ht, rfl, hr⟩ := hrel
    by_cases hlt : t < 64
    · obtain ⟨c1, c2, hn⟩ := HST.out t wr hlt hr
      obtain ⟨b1, b2⟩ := HB.out t
      have HN := Lib.hid hn
      clear hn hr
      obtain ⟨k, hk⟩ : ∃ k, k = K.getD t 0 := ⟨_, rfl⟩
      rw [← hk] at c1 b1 b2 HN
      clear hk
      go_wp2
      go_roundw
      case rel => exact ⟨t + 1, by omega, by go_num, HN.out⟩
      case measure => simp [intOf]; omega
    · obtain rfl : t = 64 := by omega
      have HR := Lib.hid hr
      clear hr
      go_wp2_with (first
        | (go_at_call 45; refine (HNW.out _ HR.out.2).mono ?_; rintro e w2 ⟨p, rfl, ho2⟩; have HO2 := Lib.hid ho2; clear ho2)
        | (go_at_call 53; refine (HWR.out _ _ _ HR.out HO2.out).mono ?_; rintro e w3 ⟨rfl, v3, ho3⟩; have HO3 := Lib.hid ho3; clear ho3))
      go_ret
      exact ⟨p, v3, rfl, HO3.out⟩

/-- The cells of a Mac. -/
def mcells (q : Nat) (n : Int) (K : List Int) : List Value := .pointer (some ⟨q, 0, none⟩) :: .int .i64 n :: vb K
theorem mcells_length (q : Nat) (n : Int) (K : List Int) (h : K.length = 64) : (mcells q n K).length = 66 := by simp [mcells, vb_length, h]
/-- A Mac of the call's own, newer than world w. -/
structure OMac (w wr : World) (p q : Nat) (v : Value) (key msg : List Int) : Prop where
  blk : Blk wr p 89 (mcells q msg.length (keyB key))
  own : Own w wr q v first 0 (inB key ++ msg)
  low : w.heap.size ≤ p
theorem OMac.apart {w wr : World} {p q : Nat} {v : Value} {key msg : List Int} (h : OMac w wr p q v key msg) : ∀ i, Foot q v i → i ≠ p := by
  rintro i (rfl | hi) e
  · exact h.own.1.1.ne_ h.blk (by decide) e
  · exact own_blk h.own.1.2.1 h.blk (by decide) (hi.trans (by rw [e]))
theorem OMac.keep {w wr w' : World} {p q : Nat} {v : Value} {key msg : List Int} (h : OMac w wr p q v key msg) (hk : Keeps (fun _ => False) wr w') : OMac w w' p q v key msg := ⟨hk.blk h.blk (fun h => h), h.own.keep hk, h.low⟩
theorem OMac.older {w w1 wr : World} {p q : Nat} {v : Value} {key msg : List Int} (h : OMac w1 wr p q v key msg) (hk : Keeps (fun _ => False) w w1) : OMac w wr p q v key msg := ⟨h.blk, h.own.older hk, Nat.le_trans hk.size h.low⟩

/-- A Mac's cells before its hash. -/
def mzero (K : List Int) : List Value := .pointer none :: .int .i64 0 :: vb K
theorem zeroMac : Tryd.zeroCells89.toList = .pointer none :: .int .i64 0 :: List.replicate 64 (.int .u8 0) := by kernel_rfl
theorem build_mac (K : List Int) (hK : K.length = 64) : Array.foldl (fun (cs : Array Value) x => cs.setIfInBounds (2 + x.2) x.1) Tryd.zeroCells89 (vb K).toArray.zipIdx 0 (vb K).toArray.size = (mzero K).toArray := by
  have hz : Tryd.zeroCells89.size = 66 := by rw [← Array.length_toList, zeroMac]; rfl
  rw [build_array 2 (vb K) _ (by rw [vb_length, hK, hz]; decide), zeroMac]
  congr 1
  unfold Aff.splice mzero
  rw [vb_length, hK, List.drop_eq_nil_of_le (by simp)]
  simp

set_option maxHeartbeats 2000000 in
set_option maxRecDepth 100000 in
theorem mnew_any (w : World) (hG : Glob w) (A : Option Addr) (n c : Nat) (key : List Int) (hn : key.length = n) (hr : Rd w A n (vb key)) (hb : IsBytes key) (hc : n ≤ c) (hm : n ≤ 140737488351232) :
    Calls Tryd.prog 31 #[.slice A n c] w fun e w' => ∃ p q v, e = .returned (.pointer (some ⟨p, 0, none⟩)) ∧ OMac w w' p q v key [] := by
  have hbl := block_any w hG A n c key hn hr hb hc hm
  have hbg := fun W hk => begun_any W (hG.keep (F := fun _ => False) hk (fun _ h => h.elim)) (keyB key) (keyB_length key) (keyB_bytes hb) 0x36 (by omega)
  have hbuild := build_mac (keyB key) (keyB_length key)
  have HIN : Hid (xorB (keyB key) 0x36 = inB key) := rfl
  obtain ⟨K, hK⟩ : ∃ K, K = keyB key := ⟨_, rfl⟩
  have hKl : K.length = 64 := by rw [hK, keyB_length]
  rw [← hK] at hbl hbuild HIN
  simp only [← hK] at hbg
  obtain ⟨cs, hcs⟩ : ∃ cs, cs = (vb K).toArray := ⟨_, rfl⟩
  obtain ⟨mc, hmc⟩ : ∃ mc, mc = (mzero K).toArray := ⟨_, rfl⟩
  rw [← hcs] at hbl
  simp only [← hcs] at hbg
  rw [← hcs, ← hmc] at hbuild
  have HM0 : Hid (∀ W : World, Blk (W.alloc (.cells mc 89)) W.heap.size 89 (mzero K)) := Lib.hid fun W => by rw [hmc]; exact Blk.new _ _ _
  have hsz : cs.size = 64 := by rw [hcs]; simpa [vb] using hKl
  rw [hsz] at hbuild
  have HLI : Hid (∀ W : World, Lies (W.alloc (.cells mc 89)) W.heap.size 2 (vb K)) := Lib.hid fun W => Lies.of_blk (HM0.out W) (by simp [mzero])
  have HBL := Lib.hid hbl
  have HBG := Lib.hid hbg
  have HCS := Lib.hid hcs
  have HKK := Lib.hid hK
  have HKL := Lib.hid hKl
  clear hbl hbg hcs hmc hK hKl hr hG
  go_enter Tryd.func31, Tryd.ntmps31
  go_wp2_with (first
    | (go_at_call 50; refine HBL.out.mono ?_; rintro e w1 ⟨rfl, hk1⟩; have HK1 := Lib.hid hk1; clear hk1)
    | ((with_reducible show wpList _ _ _ (⟨some _, Op.load 84 _, _, _, _, _⟩ :: _) _ _); refine wpList_load_lies rfl 84 _ rfl 2 (vb K) _ rfl (HLI.out w1) Tryd.underlying84 rfl (by rw [vb_length, HKL.out]; exact infoB64) ?_; rw [← HCS.out])
    | (go_at_call 51; refine (HBG.out _ (HK1.out.alloc (.cells mc 89))).mono ?_; rintro e w3 ⟨q, v, rfl, ho3⟩; have hb3 := ho3.2.1.blk (HM0.out w1) (fun h => h); have d0 : w3.cell? ⟨w1.heap.size, 0, none⟩ = some (.pointer none) := (by rw [hb3.cell]; rfl); have e0 : w3.frozen? ⟨w1.heap.size, 0, none⟩ = false := hb3.frozen 0; have HO3 := Lib.hid ho3; have HB3 := Lib.hid hb3; clear ho3 hb3))
  go_ret
  have hne : ∀ i, Foot q v i → i ≠ w1.heap.size := fun i hi e => by have := HO3.out.2.2 i hi; simp at this; omega
  have hk3 : Keeps (fun i => i = w1.heap.size) w3 (w3.setCell ⟨w1.heap.size, 0, none⟩ (.pointer (some ⟨q, 0, none⟩))) := Keeps.setCell (F := fun i => i = w1.heap.size) (Keeps.refl _ _) (.inl rfl) _
  refine ⟨w1.heap.size, q, v, rfl, ?_, ?_, HK1.out.size⟩
  · have := HB3.out.set_ 0 (.pointer (some ⟨q, 0, none⟩))
    rw [← HKK.out]
    exact this
  · have h1 := HO3.out
    rw [List.append_nil, ← HIN.out]
    refine ⟨h1.1.keep hk3 (fun i hi => hne i hi), ?_, fun i hi => ?_⟩
    · exact (((HK1.out.alloc _).trans h1.2.1 (fun _ _ h => h))).trans hk3 (fun i hi h => by have := HK1.out.size; omega)
    · have := h1.2.2 i hi
      have := HK1.out.size
      simp at *
      omega

set_option maxHeartbeats 2000000 in
set_option maxRecDepth 100000 in
theorem mwrite_any (w : World) (hG : Glob w) (wr : World) (p q : Nat) (v : Value) (key msg : List Int) (h : OMac w wr p q v key msg) (A : Option Addr) (n c : Nat) (bs : List Int) (hn : bs.length = n)
    (hr : Rd wr A n (vb bs)) (ho : Out (Foot q v) A n) (hb : IsBytes bs) (hc : n ≤ c) (hm : n ≤ 140737488351232) (hfit : 64 + msg.length + n < 2305843009213693952) :
    Calls Tryd.prog 33 #[.pointer (some ⟨p, 0, none⟩), .slice A n c] wr fun e w' => e = .returned .nilIface ∧ ∃ v', OMac w w' p q v' key (msg ++ bs) ∧ Keeps (fun i => i = p ∨ Foot q v i) wr w' ∧ (∀ g, v'.ownBlock = some g → v.ownBlock = some g ∨ wr.heap.size ≤ g) := by
  have hw := own_write1 w hG wr q v first 0 (inB key ++ msg) h.own A n c bs hn hr ho hb hc hm (by rw [List.length_append, inB_length]; omega)
  have hap := h.apart
  have c0 : wr.cell? ⟨p, 0, none⟩ = some (.pointer (some ⟨q, 0, none⟩)) := by rw [h.blk.cell]; rfl
  have HFIN : Hid (∀ (w2 : World) (v' : Value), Own w w2 q v' first 0 ((inB key ++ msg) ++ bs) → Keeps (Foot q v) wr w2 → (∀ g, v'.ownBlock = some g → v.ownBlock = some g ∨ wr.heap.size ≤ g) →
      w2.cell? ⟨p, 1, none⟩ = some (.int .i64 msg.length) ∧ w2.frozen? ⟨p, 1, none⟩ = false ∧ (OMac w (w2.setCell ⟨p, 1, none⟩ (.int .i64 (((msg.length + n : Nat)) : Int))) p q v' key (msg ++ bs) ∧ Keeps (fun i => i = p ∨ Foot q v i) wr (w2.setCell ⟨p, 1, none⟩ (.int .i64 (((msg.length + n : Nat)) : Int))))) := Lib.hid fun w2 v' ho2 hk2 hv2 => by
    have hb2 := hk2.blk h.blk (fun hf => hap p hf rfl)
    have hplt := h.blk.lt
    have hk3 : Keeps (fun i => i = p) w2 (w2.setCell ⟨p, 1, none⟩ (.int .i64 (((msg.length + n : Nat)) : Int))) := Keeps.setCell (F := fun i => i = p) (Keeps.refl _ _) (.inl rfl) _
    refine ⟨by rw [hb2.cell]; rfl, hb2.frozen 1, ⟨?_, ?_, h.low⟩, ?_⟩
    · have := hb2.set_ 1 (.int .i64 (((msg.length + n : Nat)) : Int))
      rw [List.length_append, hn]
      exact this
    · rw [← List.append_assoc]
      refine ⟨ho2.1.keep hk3 (fun i hi e => ?_), ho2.2.1.trans hk3 (fun i hi e => by have e' : i = p := e; have := h.low; omega), ho2.2.2⟩
      have e' : i = p := e
      subst e'
      rcases hi with rfl | hi
      · exact hap i (.inl rfl) rfl
      · rcases hv2 i hi with h1 | h1
        · exact hap i (.inr h1) rfl
        · omega
    · exact (hk2.mono (fun i _ hf => .inr hf)).setCell (F := fun i => i = p ∨ Foot q v i) (.inl (.inl rfl)) _
  have HW := Lib.hid hw
  have hml : msg.length < 2305843009213693952 := by omega
  have hnl : n < 2305843009213693952 := by omega
  obtain ⟨m, hm'⟩ : ∃ m, m = msg.length := ⟨_, rfl⟩
  rw [← hm'] at HFIN hml hfit
  clear hw hap h hr ho hb hn hm' hG
  go_enter Tryd.func33, Tryd.ntmps33
  go_wp2_with (first
    | (go_at_call 53; refine HW.out.mono ?_; rintro e w2 ⟨rfl, v', ho2, hk2, hv2⟩; obtain ⟨d1, e1, hf⟩ := HFIN.out w2 v' ho2 hk2 hv2; have HF := Lib.hid hf; have HV2 := Lib.hid hv2; clear hf ho2 hk2 hv2))
  go_ret
  exact ⟨rfl, v', HF.out.1, HF.out.2, HV2.out⟩
end Go.Proofs.YtnlnbgjpbnjjfaaDoor
