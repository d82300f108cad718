/-
  WALKS: hmac: Sum of a Mac; Sum, Extract.
-/
import Derived.Test.YtnlnbgjpbnjjfaaDoorMacBW
set_option linter.unusedSimpArgs false
namespace Go.Proofs.YtnlnbgjpbnjjfaaDoor
open Go Go.RowKit Go.Sha Go.Aff Go.Mac

theorem take_flat' (pss : List (List Int)) (k : Nat) (bs : List Int) (h : pss[k]? = some bs) : (pss.take (k + 1)).flatten = (pss.take k).flatten ++ bs := by
  rw [List.take_add_one, h]; simp

set_option maxHeartbeats 2000000 in
set_option maxRecDepth 100000 in
theorem msum_any (w : World) (hG : Glob w) (wr : World) (p q : Nat) (v : Value) (key msg : List Int) (h : OMac w wr p q v key msg) (hkb : IsBytes key) (hfit : 64 + msg.length < 2305843009213693952) :
    Calls Tryd.prog 34 #[.pointer (some ⟨p, 0, none⟩)] wr fun e w' => e = .returned (.agg (vb (macF key msg)).toArray) ∧ Keeps (fun _ => False) wr w' := by
  have hGr := hG.keep h.own.2.1 (fun _ h => h.elim)
  have HS1 : Hid (∀ W, Keeps (fun _ => False) wr W → Calls Tryd.prog 47 #[.pointer (some ⟨q, 0, none⟩)] W fun e w' => e = .returned (.agg (vb (sumF first 0 (inB key ++ msg))).toArray) ∧ Keeps (fun _ => False) W w') := Lib.hid fun W hk =>
    sum_any W (hGr.keep hk (fun _ h => h.elim)) q v first 0 _ (h.own.1.keep hk (fun _ _ h => h)) (by rw [List.length_append, inB_length]; omega)
  have HBG : Hid (∀ W, Keeps (fun _ => False) wr W → Calls Tryd.prog 51 #[.agg (vb (keyB key)).toArray, .int .u8 92] W fun e w' => ∃ p v, e = .returned (.pointer (some ⟨p, 0, none⟩)) ∧ Own W w' p v first 0 (outB key)) := Lib.hid fun W hk =>
    begun_any W (hGr.keep hk (fun _ h => h.elim)) (keyB key) (keyB_length key) (keyB_bytes hkb) 0x5c (by omega)
  obtain ⟨D, hD⟩ : ∃ D, D = sumF first 0 (inB key ++ msg) := ⟨_, rfl⟩
  have hDl : D.length = 32 := by rw [hD, sumF_length]
  have hDb : IsBytes D := by rw [hD]; exact sumF_bytes _ _ _
  have HWR : Hid (∀ (W3 W4 : World) (g q2 : Nat) (v2 : Value), Keeps (fun _ => False) wr W3 → Blk W3 g 41 (vb D) → Own W3 W4 q2 v2 first 0 (outB key) → Calls Tryd.prog 53 #[.pointer (some ⟨q2, 0, none⟩), .slice (some ⟨W4.heap.size, 0, none⟩) 1 1] (W4.alloc (.cells #[.slice (some ⟨g, 0, none⟩) 32 32] 22)) fun e w' => e = .returned .nilIface ∧ ∃ v, Own W3 w' q2 v first 0 (outB key ++ D)) := Lib.hid fun W3 W4 g q2 v2 hk hb ho => by
    have hrd : Rd W3 (some ⟨g, 0, none⟩) 32 (vb D) := Rd.of_blk hb (by rw [vb_length, hDl])
    refine (own_write1 W3 (hGr.keep hk (fun _ h => h.elim)) W4 q2 v2 first 0 (outB key) ho (some ⟨g, 0, none⟩) 32 32 D hDl (hrd.keep ho.2.1 (no_out _ _)) (ho.out hrd) hDb (Nat.le_refl _) (by omega) (by rw [outB_length]; omega)).mono ?_
    rintro e w' ⟨he, v', ho', _, _⟩
    exact ⟨he, v', ho'⟩
  have HS2 : Hid (∀ (W3 W5 : World) (q2 : Nat) (v3 : Value), Keeps (fun _ => False) wr W3 → Own W3 W5 q2 v3 first 0 (outB key ++ D) → Calls Tryd.prog 47 #[.pointer (some ⟨q2, 0, none⟩)] W5 fun e w' => e = .returned (.agg (vb (macF key msg)).toArray) ∧ Keeps (fun _ => False) W3 w') := Lib.hid fun W3 W5 q2 v3 hk ho => by
    refine (sum_any W5 (hGr.keep (hk.trans ho.2.1 (fun _ _ h => h)) (fun _ h => h.elim)) q2 v3 first 0 _ ho.1 (by rw [List.length_append, outB_length, hDl]; omega)).mono fun e w' ⟨he, hk'⟩ => ⟨?_, ho.2.1.trans hk' (fun _ _ h => h)⟩
    rw [he, hD]
    rfl
  rw [← hD] at HS1
  have c0 : ∀ W, Keeps (fun _ => False) wr W → W.cell? ⟨p, 0, none⟩ = some (.pointer (some ⟨q, 0, none⟩)) := fun W hk => by rw [(hk.blk h.blk (fun h => h)).cell]; rfl
  have hl0 : ∀ W, Keeps (fun _ => False) wr W → Lies W p 2 (vb (keyB key)) := fun W hk => Lies.of_blk (hk.blk h.blk (fun h => h)) (by simp [mcells])
  have c0w := c0 wr (Keeps.refl _ _)
  have hplt : p < wr.heap.size := h.blk.lt
  have C0 := Lib.hid c0
  have hz := Blk.new wr 41 (List.replicate 32 (Value.int .u8 0))
  have HKL : Hid ((vb (keyB key)).length = 64) := Lib.hid (by rw [vb_length, keyB_length])
  have HML : Hid ((vb (macF key msg)).length = 32) := Lib.hid (by rw [vb_length, macF_length])
  obtain ⟨KB, hKB⟩ : ∃ KB, KB = vb (keyB key) := ⟨_, rfl⟩
  obtain ⟨MV, hMV⟩ : ∃ MV, MV = vb (macF key msg) := ⟨_, rfl⟩
  obtain ⟨DV, hDV⟩ : ∃ DV, DV = vb D := ⟨_, rfl⟩
  have HM1 : Hid (∀ u ∈ MV, u.oneCell' = true) := Lib.hid (by rw [hMV]; exact vb_one _)
  have HD1 : Hid (∀ u ∈ DV, u.oneCell' = true) := Lib.hid (by rw [hDV]; exact vb_one _)
  have HDL : Hid (DV.length = 32) := Lib.hid (by rw [hDV, vb_length, hDl])
  rw [← hKB] at HKL HBG
  simp only [← hKB] at hl0
  rw [← hMV] at HML HS2 ⊢
  rw [← hDV] at HS1 HWR
  have HL0 := Lib.hid hl0
  have HZ := Lib.hid hz
  clear hKB hMV hDV hD hDl hDb c0 hl0 hz hGr h hG hkb
  have tok1 : True := trivial
  go_enter Tryd.func34, Tryd.ntmps34
  go_wp2_with (first
    | (go_at_call 47; have _t := tok1; clear tok1; refine (HS1.out _ ((Keeps.refl _ wr).alloc _)).mono ?_; rintro e w1 ⟨rfl, hk1⟩; have hk2 := (((Keeps.refl (fun _ => False) wr).alloc (.cells (List.replicate 32 (Value.int .u8 0)).toArray 41)).trans hk1 (fun _ _ h => h)); have HK2 := Lib.hid hk2; have HK1 := Lib.hid hk1; have HZ1 := Lib.hid (Blk.new w1 41 (List.replicate 32 (Value.int .u8 0))); clear hk1 hk2)
    | ((with_reducible show wpList _ _ _ (⟨none, Op.store 41 (.tmp 3) _, _, _, _, _⟩ :: _) _ _); refine wpList_store_whole rfl 41 _ _ rfl DV rfl rfl HZ1.out (by rw [HDL.out]; simp) (by rw [HDL.out]; exact info32) HD1.out ?_; have hb3 := HZ1.out.setRow DV; have hk3 := (HK2.out.alloc (.cells (List.replicate 32 (Value.int .u8 0)).toArray 41)).setRow (.inr HK2.out.size) DV.toArray; have hz3 := ((HK1.out.blk HZ.out (fun h => h)).alloc (.cells (List.replicate 32 (Value.int .u8 0)).toArray 41)).setRow_far (show wr.heap.size ≠ w1.heap.size by have := (HK1.out.blk HZ.out (fun h => h)).lt; omega) DV.toArray; refine gen_world (fun W => Blk W w1.heap.size 41 DV ∧ Keeps (fun _ => False) wr W ∧ Blk W wr.heap.size 41 (List.replicate 32 (Value.int .u8 0))) ⟨hb3, hk3, hz3⟩ ?_; clear hb3 hk3 hz3; rintro W3 ⟨hb3, hk3, hz3⟩; have c3 : W3.cell? ⟨p, 0, none⟩ = some (.pointer (some ⟨q, 0, none⟩)) := C0.out _ hk3; have HB3 := Lib.hid hb3; have HK3 := Lib.hid hk3; have HZ3 := Lib.hid hz3; clear hb3 hk3 hz3)
    | ((with_reducible show wpList _ _ _ (⟨some _, Op.load 84 _, _, _, _, _⟩ :: _) _ _); refine wpList_load_lies rfl 84 _ rfl 2 KB _ rfl (HL0.out _ HK3.out) Tryd.underlying84 rfl (by rw [HKL.out]; exact infoB64) ?_)
    | (go_at_call 51; refine (HBG.out _ HK3.out).mono ?_; rintro e w4 ⟨q2, v2, rfl, ho4⟩; have HO4 := Lib.hid ho4; clear ho4)
    | (go_at_call 53; refine (HWR.out _ _ _ _ _ HK3.out HB3.out HO4.out).mono ?_; rintro e w5 ⟨rfl, v5, ho5⟩; have HO5 := Lib.hid ho5; clear ho5)
    | (go_at_call 47; refine (HS2.out _ _ _ _ HK3.out HO5.out).mono ?_; rintro e w6 ⟨rfl, hk6⟩; have HZ6 := Lib.hid (hk6.blk HZ3.out (fun h => h)); have HK6 := Lib.hid (HK3.out.trans hk6 (fun _ _ h => h)); clear hk6)
    | ((with_reducible show wpList _ _ _ (⟨none, Op.store 41 (.tmp 2) _, _, _, _, _⟩ :: _) _ _); refine wpList_store_whole rfl 41 _ _ rfl MV rfl rfl HZ6.out (by rw [HML.out]; simp) (by rw [HML.out]; exact info32) HM1.out ?_))
  refine bodyPost_ret (results_blk rfl _ _ rfl (HZ6.out.setRow MV) Tryd.underlying41 rfl (by rw [HML.out]; exact info32)) rfl ⟨rfl, HK6.out.setRow (.inr (Nat.le_refl _)) _⟩

/-- While parts are written to a Mac; w1: the world before it. -/
def MRel (w1 : World) (p q : Nat) (key : List Int) (pss : List (List Int)) (k : Nat) (wr : World) : Prop := ∃ v, OMac w1 wr p q v key (pss.take k).flatten

set_option maxHeartbeats 2000000 in
set_option maxRecDepth 100000 in
theorem hsum_any (w : World) (hG : Glob w) (A : Option Addr) (n c : Nat) (key : List Int) (hn : key.length = n) (hr : Rd w A n (vb key)) (hb : IsBytes key) (hc : n ≤ c) (hm : n ≤ 140737488351232)
    (B : Option Addr) (m d : Nat) (pss : List (List Int)) (hm' : pss.length = m) (hp : RdPartsO (fun _ => False) w B pss) (hml : m ≤ 140737488355328) (hfit : 64 + pss.flatten.length < 2305843009213693952) :
    Calls Tryd.prog 19 #[.slice A n c, .slice B m d] w fun e w' => e = .returned (.agg (vb (macF key pss.flatten)).toArray) ∧ Keeps (fun _ => False) w w' := by
  obtain ⟨W1, hW1⟩ : ∃ W1, W1 = w.alloc (.cells (List.replicate 32 (Value.int .u8 0)).toArray 41) := ⟨_, rfl⟩
  have hk1 : Keeps (fun _ => False) w W1 := by rw [hW1]; exact (Keeps.refl _ w).alloc _
  have hz : Blk W1 w.heap.size 41 (List.replicate 32 (Value.int .u8 0)) := by rw [hW1]; exact Blk.new _ _ _
  have hG1 := hG.keep hk1 (fun _ h => h.elim)
  have HNW := Lib.hid (mnew_any W1 hG1 A n c key hn (hr.keep hk1 (no_out _ _)) hb hc hm)
  obtain ⟨vals, hv, _, hparts⟩ := hp.keep hk1 (fun _ h => h)
  have HW : Hid (∀ (wr : World) (p q k : Nat), k < m → MRel W1 p q key pss k wr → ∃ g o A' c' n', B = some ⟨g, o, none⟩ ∧ wr.cell? ⟨g, o + k, none⟩ = some (.slice A' n' c') ∧ Calls Tryd.prog 33 #[.pointer (some ⟨p, 0, none⟩), .slice A' n' c'] wr fun e w' => e = .returned .nilIface ∧ MRel W1 p q key pss (k + 1) w') := Lib.hid fun wr p q k hlt ⟨v, hr⟩ => by
    have hv' := hv.keep hr.own.2.1 (no_out _ _)
    obtain ⟨g, o, e, hcell⟩ := hv'.2 (by omega)
    obtain ⟨bs, hbs⟩ : ∃ bs, pss[k]? = some bs := ⟨_, List.getElem?_eq_getElem (by omega)⟩
    obtain ⟨A', c', h1, h2, _, h4, h5, h6⟩ := hparts k bs hbs
    have hpl := part_le pss k bs hbs
    refine ⟨g, o, A', c', bs.length, e, (hcell k (by omega)).trans h1, ?_⟩
    refine (mwrite_any W1 hG1 wr p q v key _ hr A' bs.length c' bs rfl (h2.keep hr.own.2.1 (no_out _ _)) (hr.own.out h2) h4 h5 h6 (by omega)).mono ?_
    rintro e' w' ⟨he, v', ho, _, _⟩
    refine ⟨he, v', ?_⟩
    rw [take_flat' pss k bs hbs]
    exact ho
  have HSU : Hid (∀ (wr : World) (p q : Nat), MRel W1 p q key pss m wr → Calls Tryd.prog 34 #[.pointer (some ⟨p, 0, none⟩)] wr fun e w' => e = .returned (.agg (vb (macF key pss.flatten)).toArray) ∧ Keeps (fun _ => False) W1 w') := Lib.hid fun wr p q ⟨v, hr⟩ => by
    rw [← hm', List.take_length] at hr
    exact (msum_any W1 hG1 wr p q v key _ hr hb hfit).mono fun e w' ⟨he, hk⟩ => ⟨he, hr.own.2.1.trans hk (fun _ _ h => h)⟩
  have HM0 : Hid (∀ (wr : World) (p q : Nat) (v : Value), OMac W1 wr p q v key [] → MRel W1 p q key pss 0 wr) := Lib.hid fun wr p q v h => ⟨v, h⟩
  have HK1 := Lib.hid hk1
  have HZ := Lib.hid hz
  have HML : Hid ((vb (macF key pss.flatten)).length = 32) := Lib.hid (by rw [vb_length, macF_length])
  obtain ⟨MV, hMV⟩ : ∃ MV, MV = vb (macF key pss.flatten) := ⟨_, rfl⟩
  have HM1 : Hid (∀ u ∈ MV, u.oneCell' = true) := Lib.hid (by rw [hMV]; exact vb_one _)
  rw [← hMV] at HSU HML ⊢
  rw [hW1] at HNW HW HSU HM0 HK1 HZ
  clear hW1 hk1 hz hG1 hv hparts hMV hr hb hG hm'
  go_enter Tryd.func19, Tryd.ntmps19
  go_wp2_with (first
    | (go_at_call 31; refine HNW.out.mono ?_; rintro e w2 ⟨p, q, v, rfl, ho2⟩; have HO2 := Lib.hid (HM0.out _ _ _ _ ho2); clear ho2))
  go_loopw [7, 12] (fun _ i wr => ∃ k : Nat, k ≤ m ∧ i = .int .i64 k ∧ MRel (w.alloc (.cells (List.replicate 32 (Value.int .u8 0)).toArray 41)) p q key pss k wr) (fun _ i _ => m - (intOf i).toNat)
  case atStart => exact ⟨0, by omega, rfl, HO2.out⟩
  case round =>
    clear HO2
    obtain ⟨k, hk, rfl, hr⟩ := hrel
    by_cases hlt : k < m
    · obtain ⟨g, o, A', c', n', rfl, hcell, hcall⟩ := HW.out wr p q k hlt hr
      have HC := Lib.hid hcall
      clear hcall hr
      go_wp2_with (first
        | (go_at_call 33; refine HC.out.mono ?_; rintro e w3 ⟨rfl, hr3⟩; have HR3 := Lib.hid hr3; clear hr3))
      go_roundw
      case rel => exact ⟨k + 1, by omega, by go_num, HR3.out⟩
      case measure => simp [intOf]; omega
    · obtain rfl : k = m := by omega
      have hs := HSU.out wr p q hr
      have HS := Lib.hid hs
      clear hs hr
      go_wp2_with (first
        | (go_at_call 34; refine HS.out.mono ?_; rintro e w6 ⟨rfl, hk6⟩; have HZ6 := Lib.hid (hk6.blk HZ.out (fun h => h)); have HK6 := Lib.hid (HK1.out.trans hk6 (fun _ _ h => h)); clear hk6)
        | ((with_reducible show wpList _ _ _ (⟨none, Op.store 41 _ _, _, _, _, _⟩ :: _) _ _); refine wpList_store_whole rfl 41 _ _ rfl MV rfl rfl HZ6.out (by rw [HML.out]; simp) (by rw [HML.out]; exact info32) HM1.out ?_))
      refine bodyPost_ret (results_blk rfl _ _ rfl (HZ6.out.setRow MV) Tryd.underlying41 rfl (by rw [HML.out]; exact info32)) rfl ⟨rfl, HK6.out.setRow (.inr (Nat.le_refl _)) _⟩
end Go.Proofs.YtnlnbgjpbnjjfaaDoor
