/- Texts. -/
import Derived.Test.YtplleficmkfniaaGreatDoorS24
set_option linter.unusedSimpArgs false
set_option maxRecDepth 100000
set_option maxHeartbeats 4000000
namespace Go.Proofs.YtplleficmkfniaaGreatDoor
open Go Go.RowKit Go.Aff Go.Sha Go.Dig
attribute [local go_sem] Oper.semAt_some
theorem infoDg (DV : List Value) (h : DV.length = 32) : (Tryz.prog.info? 23).map (·.size) = some DV.length := by rw [h]; kernel_rfl
theorem group_any {fv : Value} {E : Nat → Prop} {w : World} {l : List (List Int)} (hT : Tkg (TkSt fv) E w l) (hl : l.length ≤ 1099511627776) (sort : Int) (n : Nat) (hn : n < 9223372036854775808) (row : List Int) (hrl : row.length = 32) (hrb : IsBytes row) :
  Calls Tryz.prog 73 #[fv, .int .i64 sort, .int .i64 n, .agg (vb row).toArray] w fun e w' => e = .returned (.agg (vb (grpD sort n row)).toArray) ∧ ∃ E', Took (TkSt fv) E E' w w' (l ++ [grpT sort n row]) := by
 obtain ⟨tag, htag⟩ : ∃ tag : Int, tag = if sort = 6 then 111 else 108 := ⟨_, rfl⟩
 have htb : 0 ≤ tag ∧ tag < 256 := by rw [htag]; split <;> omega
 obtain ⟨X, hX⟩ : ∃ X, X = grpT sort n row := ⟨_, rfl⟩
 have hX2 : X = tag :: (eight n ++ row) := by rw [hX, htag]; rfl
 have hgd : grpD sort n row = hsh X := by rw [hX]; rfl
 rw [hgd, ← hX]
 obtain ⟨N0, hN0⟩ : ∃ N0, N0 = w.heap.size := ⟨_, rfl⟩
 obtain ⟨RV, hRV⟩ : ∃ RV, RV = vb row := ⟨_, rfl⟩
 have HRL : RV.length = 32 := by rw [hRV]; simp [vb, hrl]
 rw [← hRV]
 have HW2 : Hid (Keeps (fun _ => False) w ((w.alloc (.cells RV.toArray 23)).alloc (.cells (List.replicate 32 (Value.int .u8 0)).toArray 23)) ∧ Blk ((w.alloc (.cells RV.toArray 23)).alloc (.cells (List.replicate 32 (Value.int .u8 0)).toArray 23)) N0 23 RV ∧ Blk ((w.alloc (.cells RV.toArray 23)).alloc (.cells (List.replicate 32 (Value.int .u8 0)).toArray 23)) (N0 + 1) 23 (List.replicate 32 (Value.int .u8 0))) := H_ ⟨((Keeps.refl _ w).alloc _).alloc _, by rw [hN0]; exact (Blk.new _ _ _).alloc _, by
  have h := Blk.new (w.alloc (.cells RV.toArray 23)) 23 (List.replicate 32 (Value.int .u8 0))
  rwa [World.size_alloc, ← hN0] at h⟩
 have HDL0 : (vb (hsh X)).length = 32 := by simp [vb, hsh_len]
 obtain ⟨DV, hDV⟩ : ∃ DV, DV = vb (hsh X) := ⟨_, rfl⟩
 have HD1 : Hid (∀ u ∈ DV, u.oneCell' = true) := H_ (by rw [hDV]; exact vb_one _)
 have HDL : Hid (DV.length = 32) := H_ (by rw [hDV]; exact HDL0)
 have HIN : Hid ((Tryz.prog.info? 23).map (·.size) = some DV.length) := H_ (infoDg DV HDL.out)
 have HEI : Hid (∀ W, Calls Tryz.prog 139 #[.int .u64 n] W fun e w' => e = .returned (.slice (some ⟨W.heap.size, 0, none⟩) 8 8) ∧ Hid (Blk w' W.heap.size 322 (vb (eight n)) ∧ Keeps (fun _ => False) W w')) := H_ fun W => (eight_any n W (by omega)).mono fun e w' h => ⟨h.1, H_ h.2⟩
 have HHA : Hid (∀ W g, Keeps (fun _ => False) w W → Blk W g 322 (vb (eight n)) → w.heap.size ≤ g → Blk W N0 23 RV → Calls Tryz.prog 138 #[fv, .int .u8 tag, .slice (some ⟨W.heap.size, 0, none⟩) 2 2] (W.alloc (.cells #[.slice (some ⟨g, 0, none⟩) 8 8, .slice (some ⟨N0, 0, none⟩) 32 32] 48)) fun e w' => e = .returned (.agg DV.toArray) ∧ ∃ E', Took (TkSt fv) E E' (W.alloc (.cells #[.slice (some ⟨g, 0, none⟩) 8 8, .slice (some ⟨N0, 0, none⟩) 32 32] 48)) w' (l ++ [X])) := H_ fun W g hW hb1 hg hb2 => by
  have hEl : ∀ i, E i → i < w.heap.size := hT.lt
  have hp := parts_two E W 48 (some ⟨g, 0, none⟩) (some ⟨N0, 0, none⟩) 8 8 32 32 (eight n) row (fun i hi => Nat.lt_of_lt_of_le (hEl i hi) hW.size) (eight_len n) (Rd.of_blk hb1 (by simp [vb, eight_len])) (fun _ a e he => by
    injection e with e
    subst e
    have h : g < w.heap.size := hEl _ he
    omega) (eight_bytes n) (by omega) (by omega) hrl (Rd.of_blk (hRV ▸ hb2) (by simp [vb, hrl])) (fun _ a e he => by
    injection e with e
    subst e
    have h : N0 < w.heap.size := hEl _ he
    omega) hrb (by omega) (by omega)
  have k1 : Keeps (fun _ => False) w (W.alloc (.cells #[.slice (some ⟨g, 0, none⟩) 8 8, .slice (some ⟨N0, 0, none⟩) 32 32] 48)) := hW.alloc _
  have h := hash_any (hT.stay (tkLasts _) k1) hl tag htb (some ⟨W.heap.size, 0, none⟩) 2 [eight n, row] hp 2 rfl (by omega) 40 (by simp [eight_len, hrl]) (by omega)
  have hf : tag :: [eight n, row].flatten = X := by rw [hX2]; simp
  rw [hf, ← hDV] at h
  exact h
 have HNE : Hid (¬ E (N0 + 1)) := H_ fun he => by have := hT.lt _ he; omega
 have HNN := H_ hN0
 have hnw : IntKind.u64.wrap (n : Int) = (n : Int) := IntWalk.u64_in _ (by omega)
 rw [← hDV]
 clear hT hrb hRV hDV HDL0 hX hX2 hgd hrl htb hN0
 have HTA := H_ htag
 clear htag
 by_cases h6 : sort = 6
 all_goals
  go_enter Tryz.func73, Tryz.ntmps73
  go_upto_region 4 with fail
  refine gen_codeF (fun W => Keeps (fun _ => False) w W ∧ Blk W N0 23 RV ∧ Blk W (N0 + 1) 23 (List.replicate 32 (Value.int .u8 0))) HW2.out ?_
  rintro w2 ⟨k2, b2, z2⟩
  have hNN := HNN.out
  rw [← hNN]
  clear hNN
  have HK2 := H_ k2
  have HB2 := H_ (And.intro b2 z2)
  clear k2 b2 z2
  have HTT := HTA.out
  first | rw [if_pos h6] at HTT | rw [if_neg h6] at HTT
  subst HTT
  refine wp_region_tail (S := (fun V => Keeps (fun _ => False) w2 V)) 7 (by kernel_rfl) (Keeps.refl _ _).drew (fun h_ => ?_)
  refine tJ 0 12 ?_
  try simp only [pu]
  refine tJ 1 13 ?_
  try simp only [pu]
  refine tJ 2 14 ?_
  try simp only [pu]
  refine tJ 3 15 ?_
  try simp only [pu]
  refine tJ 5 17 ?_
  try simp only [pu]
  refine wpAnyT_step (i := 4) (o := ⟨some 16, _, _, _, _, _⟩) (by kernel_rfl) rfl (fun K hK => ?_)
  go_simp
  refine (HEI.out _).mono ?_
  rintro e w4 ⟨rfl, HE4⟩
  have hS4 := h_.trans HE4.out.2 (fun _ _ h => h)
  refine hK.out _ _ hS4 (fun h_ => ?_)
  clear hK K
  try simp only [pu]
  refine wpAnyT_step (i := 6) (o := ⟨some 18, _, _, _, _, _⟩) (by kernel_rfl) rfl (fun K hK => ?_)
  go_simp
  refine hK.out _ _ (h_.alloc _) (fun h_ => ?_)
  clear hK K
  try simp only [pu]
  refine wpAnyT_tail (i := 7) (o := ⟨some 19, _, _, _, _, _⟩) (by kernel_rfl) (by kernel_rfl) rfl (fun K hK => ?_)
  go_simp
  refine (HHA.out w4 _ (HK2.out.trans hS4 fun _ _ h => h) HE4.out.1 (Nat.le_trans HK2.out.size ((Keeps.refl (fun _ => False) w2).drew).size) (hS4.blk HB2.out.1 fun h => h)).mono ?_
  rintro e w7 ⟨rfl, E7, hT7⟩
  have HT7 := H_ hT7
  have HZ7 := H_ (hT7.keep.blk ((hS4.blk HB2.out.2 fun h => h).alloc _) HNE.out)
  have HK7 := H_ ((HK2.out.trans hS4 fun _ _ h => h).alloc (.cells #[.slice (some ⟨w2.drew.heap.size, 0, none⟩) 8 8, .slice (some ⟨N0, 0, none⟩) 32 32] 48))
  refine hK.out _ _ ?_
  clear hK K
  try simp only [pu]
  refine wpAnyT_tail (i := 8) (o := ⟨none, _, _, _, _, _⟩) (by kernel_rfl) (by kernel_rfl) rfl (fun K hK => ?_)
  refine step_store_whole rfl 23 (.tmp 8) (.tmp 19) rfl DV rfl rfl HZ7.out (by rw [HDL.out]; simp) HIN.out HD1.out ?_
  refine hK.out _ _ ?_
  clear hK K
  try simp only [pu]
  refine wpAnyT_done (by kernel_rfl) ?_
  go_wp2
  refine bodyPost_ret (results_blk rfl _ _ rfl (HZ7.out.setRow DV) Tryz.underlying23 rfl HIN.out) rfl ⟨rfl, E7, ?_⟩
  refine (Took.begin HK7.out HT7.out).more (tkLasts _) (setRow_keep _ _ _) fun i hi => ?_
  subst hi
  refine ⟨by have := HNN.out; omega, fun he => ?_⟩
  rcases HT7.out.new _ he with h1 | h1
  ·exact HNE.out h1
  ·have h2 := (hS4.blk HB2.out.2 fun h => h).lt
   have h3 := ((Keeps.refl (fun _ => False) w4).alloc (.cells #[.slice (some ⟨w2.drew.heap.size, 0, none⟩) 8 8, .slice (some ⟨N0, 0, none⟩) 32 32] 48)).size
   omega
theorem sb_bytes (s : ByteArray) : IsBytes (Go.Json.sb s) := fun x hx => by
 obtain ⟨b, _, rfl⟩ := List.mem_map.1 hx
 have := b.toNat_lt
 omega
theorem rowF_bytes (k : List Int) (h : IsBytes k) : IsBytes (Mac.rowF [k]) := by
 rw [rowF_one]
 intro x hx
 rcases List.mem_append.1 hx with hx | hx
 ·exact lenF_bytes _ x hx
 ·rcases List.mem_cons.1 hx with rfl | hx
  ·omega
  ·rcases List.mem_append.1 hx with hx | hx
   ·exact h x hx
   ·rw [List.mem_singleton.1 hx]; omega
theorem bytesW_keep (w : World) (e : TypeId) (s : ByteArray) : Keeps (fun _ => False) w (Lib.bytesWorld w e s) := (bytesWorld_kp w e s).keeps
theorem bytesW_rd (w : World) (e : TypeId) (s : ByteArray) : Rd (Lib.bytesWorld w e s) (some ⟨w.heap.size, 0, none⟩) s.size (vb (Go.Json.sb s)) := by
 refine ⟨by unfold vb; rw [List.length_map, Go.Json.sb_len], fun h => ⟨_, _, rfl, fun j hj => ?_⟩⟩
 rw [Nat.zero_add, Lib.bytesWorld_cell w e s j hj]
 have hl : j < s.data.toList.length := by rw [Array.length_toList]; exact hj
 unfold vb Go.Json.sb
 rw [List.getElem?_map, List.getElem?_map, List.getD_eq_getElem?_getD, List.getElem?_eq_getElem hl]
 rfl
theorem member_any {fv : Value} {E : Nat → Prop} {w : World} {l : List (List Int)} (hT : Tkg (TkSt fv) E w l) (hl : l.length ≤ 1099511627776) (key : ByteArray) (hk : key.size ≤ 4194304) (d : List Int) (hrl : d.length = 32) (hrb : IsBytes d) :
  Calls Tryz.prog 72 #[fv, .string key, .agg (vb d).toArray] w fun e w' => e = .returned (.agg (vb (memD key d)).toArray) ∧ ∃ E', Took (TkSt fv) E E' w w' (l ++ [memT key d]) := by
 obtain ⟨X, hX⟩ : ∃ X, X = memT key d := ⟨_, rfl⟩
 have hX2 : X = 109 :: (Mac.rowF [Go.Json.sb key] ++ d) := by rw [hX]; rfl
 have hgd : memD key d = hsh X := by rw [hX]; rfl
 rw [hgd, ← hX]
 obtain ⟨N0, hN0⟩ : ∃ N0, N0 = w.heap.size := ⟨_, rfl⟩
 obtain ⟨RV, hRV⟩ : ∃ RV, RV = vb d := ⟨_, rfl⟩
 have HRL : RV.length = 32 := by rw [hRV]; simp [vb, hrl]
 rw [← hRV]
 have HW2 : Hid (Keeps (fun _ => False) w ((w.alloc (.cells RV.toArray 23)).alloc (.cells (List.replicate 32 (Value.int .u8 0)).toArray 23)) ∧ Blk ((w.alloc (.cells RV.toArray 23)).alloc (.cells (List.replicate 32 (Value.int .u8 0)).toArray 23)) N0 23 RV ∧ Blk ((w.alloc (.cells RV.toArray 23)).alloc (.cells (List.replicate 32 (Value.int .u8 0)).toArray 23)) (N0 + 1) 23 (List.replicate 32 (Value.int .u8 0))) := H_ ⟨((Keeps.refl _ w).alloc _).alloc _, by rw [hN0]; exact (Blk.new _ _ _).alloc _, by
  have h := Blk.new (w.alloc (.cells RV.toArray 23)) 23 (List.replicate 32 (Value.int .u8 0))
  rwa [World.size_alloc, ← hN0] at h⟩
 have HDL0 : (vb (hsh X)).length = 32 := by simp [vb, hsh_len]
 obtain ⟨DV, hDV⟩ : ∃ DV, DV = vb (hsh X) := ⟨_, rfl⟩
 have HD1 : Hid (∀ u ∈ DV, u.oneCell' = true) := H_ (by rw [hDV]; exact vb_one _)
 have HDL : Hid (DV.length = 32) := H_ (by rw [hDV]; exact HDL0)
 have HIN : Hid ((Tryz.prog.info? 23).map (·.size) = some DV.length) := H_ (infoDg DV HDL.out)
 obtain ⟨N, hN⟩ : ∃ N, N = (Mac.rowF [Go.Json.sb key]).length := ⟨_, rfl⟩
 have hNb : N ≤ 16777216 ∧ 0 < N := by
  have h1 := Mac.rowF_le [Go.Json.sb key]
  simp only [List.flatten_cons, List.flatten_nil, List.append_nil, List.length_cons, List.length_nil, Go.Json.sb_len] at h1
  refine ⟨by omega, ?_⟩
  rw [hN, rowF_one]
  simp only [List.length_append, List.length_cons]
  omega
 have hcv : ∀ W, (convert 9 48 (.string key)).run Tryz.prog W = .ok (.slice (some ⟨W.heap.size, 0, none⟩) key.size (grownCap W key.size 0 5)) (Lib.bytesWorld W 5 key) := fun W => Lib.run_convert_string_bytes W _ _ 5 key Tryz.underlying9 Tryz.underlying48 Tryz.underlying5
 have HRO : Hid (∀ W g c, Keeps (fun _ => False) w W → Rd W (some ⟨g, 0, none⟩) key.size (vb (Go.Json.sb key)) → key.size ≤ c → Calls Tryz.prog 144 #[.slice (some ⟨W.heap.size, 0, none⟩) 1 1] (W.alloc (.cells #[.slice (some ⟨g, 0, none⟩) key.size c] 48)) fun e w' => ∃ g' c', e = .returned (.slice (some ⟨g', 0, none⟩) N c') ∧ Hid (Mine (W.alloc (.cells #[.slice (some ⟨g, 0, none⟩) key.size c] 48)) w' 5 (some ⟨g', 0, none⟩) N c' (vb (Mac.rowF [Go.Json.sb key])))) := H_ fun W g c hW hr hc => by
  have hp := parts_one (fun _ => False) W 48 (some ⟨g, 0, none⟩) key.size c (Go.Json.sb key) (fun _ h => h.elim) (Go.Json.sb_len _) hr (no_out _ _) (sb_bytes _) hc (by omega)
  refine (hrow_any _ (hT.glob.stay (hW.alloc _)).tab _ 1 1 [Go.Json.sb key] N rfl hp (by omega) hN.symm hNb.1).mono fun e w' ⟨A', c', he, hm⟩ => ?_
  obtain ⟨g', hA, _⟩ := mine_some hm hNb.2
  subst hA
  exact ⟨g', c', he, H_ hm⟩
 have HHA : Hid (∀ W g c V, Keeps (fun _ => False) w V → Mine V W 5 (some ⟨g, 0, none⟩) N c (vb (Mac.rowF [Go.Json.sb key])) → Blk W N0 23 RV → Calls Tryz.prog 138 #[fv, .int .u8 109, .slice (some ⟨W.heap.size, 0, none⟩) 2 2] (W.alloc (.cells #[.slice (some ⟨g, 0, none⟩) N c, .slice (some ⟨N0, 0, none⟩) 32 32] 48)) fun e w' => e = .returned (.agg DV.toArray) ∧ ∃ E', Took (TkSt fv) E E' (W.alloc (.cells #[.slice (some ⟨g, 0, none⟩) N c, .slice (some ⟨N0, 0, none⟩) 32 32] 48)) w' (l ++ [X])) := H_ fun W g c V hV hm hb2 => by
  have hEl : ∀ i, E i → i < w.heap.size := hT.lt
  have hW : Keeps (fun _ => False) w W := hV.trans hm.2.1 fun _ _ h => h
  have hg : w.heap.size ≤ g := Nat.le_trans hV.size (hm.2.2 g rfl)
  have hp := parts_two E W 48 (some ⟨g, 0, none⟩) (some ⟨N0, 0, none⟩) N c 32 32 (Mac.rowF [Go.Json.sb key]) d (fun i hi => Nat.lt_of_lt_of_le (hEl i hi) hW.size) hN.symm hm.rd (fun _ a e he => by
    injection e with e
    subst e
    have h : g < w.heap.size := hEl _ he
    omega) (rowF_bytes _ (sb_bytes _)) (own_cap hm.1) (by omega) hrl (Rd.of_blk (hRV ▸ hb2) (by simp [vb, hrl])) (fun _ a e he => by
    injection e with e
    subst e
    have h : N0 < w.heap.size := hEl _ he
    omega) hrb (by omega) (by omega)
  have k1 : Keeps (fun _ => False) w (W.alloc (.cells #[.slice (some ⟨g, 0, none⟩) N c, .slice (some ⟨N0, 0, none⟩) 32 32] 48)) := hW.alloc _
  have h := hash_any (hT.stay (tkLasts _) k1) hl 109 (by omega) (some ⟨W.heap.size, 0, none⟩) 2 [Mac.rowF [Go.Json.sb key], d] hp 2 rfl (by omega) (N + 32) (by simp [hrl, hN]) (by omega)
  have hf : (109 : Int) :: [Mac.rowF [Go.Json.sb key], d].flatten = X := by rw [hX2]; simp
  rw [hf, ← hDV] at h
  exact h
 have HNE : Hid (¬ E (N0 + 1)) := H_ fun he => by have := hT.lt _ he; omega
 have HNN := H_ hN0
 have HKB := H_ (bytesW_rd (e := 5) (s := key))
 have HGC := H_ fun W => grownCap_ge W key.size 0 5
 rw [← hDV]
 clear hT hrb hRV hDV HDL0 hX hX2 hgd hrl hN0 hN hNb hk
 go_enter Tryz.func72, Tryz.ntmps72
 go_upto_region 1 with fail
 refine gen_codeF (fun W => Keeps (fun _ => False) w W ∧ Blk W N0 23 RV ∧ Blk W (N0 + 1) 23 (List.replicate 32 (Value.int .u8 0))) HW2.out ?_
 rintro w2 ⟨k2, b2, z2⟩
 have hNN := HNN.out
 rw [← hNN]
 clear hNN
 have HK2 := H_ k2
 have HB2 := H_ (And.intro b2 z2)
 clear k2 b2 z2
 refine wp_region_tail (S := (fun V => Keeps (fun _ => False) w2 V)) 7 (by kernel_rfl) (Keeps.refl _ _).drew (fun h_ => ?_)
 refine tJ 0 7 ?_
 try simp only [pu]
 refine tJ 1 8 ?_
 try simp only [pu]
 refine tJ 5 12 ?_
 try simp only [pu]
 refine wpAnyT_step (i := 2) (o := ⟨some 9, _, _, _, _, _⟩) (by kernel_rfl) rfl (fun K hK => ?_)
 go_simp
 have hS2 := h_.trans (bytesW_keep w2.drew 5 key) (fun _ _ h => h)
 refine hK.out _ _ hS2 (fun h_ => ?_)
 clear hK K
 try simp only [pu]
 refine wpAnyT_step (i := 3) (o := ⟨some 10, _, _, _, _, _⟩) (by kernel_rfl) rfl (fun K hK => ?_)
 go_simp
 refine hK.out _ _ (h_.alloc _) (fun h_ => ?_)
 clear hK K
 try simp only [pu]
 refine wpAnyT_step (i := 4) (o := ⟨some 11, _, _, _, _, _⟩) (by kernel_rfl) rfl (fun K hK => ?_)
 go_simp
 refine (HRO.out (Lib.bytesWorld w2.drew 5 key) _ _ (HK2.out.trans hS2 fun _ _ h => h) (HKB.out w2.drew) (HGC.out _)).mono ?_
 rintro e w4 ⟨g4, c4, rfl, HM4⟩
 have hS4 := h_.trans HM4.out.2.1 (fun _ _ h => h)
 have hV4 := HK2.out.trans h_ (fun _ _ h => h)
 refine hK.out _ _ hS4 (fun h_ => ?_)
 clear hK K
 try simp only [pu]
 refine wpAnyT_step (i := 6) (o := ⟨some 13, _, _, _, _, _⟩) (by kernel_rfl) rfl (fun K hK => ?_)
 go_simp
 refine hK.out _ _ (h_.alloc _) (fun h_ => ?_)
 clear hK K
 try simp only [pu]
 refine wpAnyT_tail (i := 7) (o := ⟨some 14, _, _, _, _, _⟩) (by kernel_rfl) (by kernel_rfl) rfl (fun K hK => ?_)
 go_simp
 refine (HHA.out w4 g4 c4 _ hV4 HM4.out (hS4.blk HB2.out.1 fun h => h)).mono ?_
 rintro e w7 ⟨rfl, E7, hT7⟩
 have HT7 := H_ hT7
 have HZ7 := H_ (hT7.keep.blk ((hS4.blk HB2.out.2 fun h => h).alloc _) HNE.out)
 have HK7 := H_ ((HK2.out.trans hS4 fun _ _ h => h).alloc (.cells #[.slice (some ⟨g4, 0, none⟩) N c4, .slice (some ⟨N0, 0, none⟩) 32 32] 48))
 refine hK.out _ _ ?_
 clear hK K
 try simp only [pu]
 refine wpAnyT_tail (i := 8) (o := ⟨none, _, _, _, _, _⟩) (by kernel_rfl) (by kernel_rfl) rfl (fun K hK => ?_)
 refine step_store_whole rfl 23 (.tmp 6) (.tmp 14) rfl DV rfl rfl HZ7.out (by rw [HDL.out]; simp) HIN.out HD1.out ?_
 refine hK.out _ _ ?_
 clear hK K
 try simp only [pu]
 refine wpAnyT_done (by kernel_rfl) ?_
 go_wp2
 refine bodyPost_ret (results_blk rfl _ _ rfl (HZ7.out.setRow DV) Tryz.underlying23 rfl HIN.out) rfl ⟨rfl, E7, ?_⟩
 refine (Took.begin HK7.out HT7.out).more (tkLasts _) (setRow_keep _ _ _) fun i hi => ?_
 subst hi
 refine ⟨by have := HNN.out; omega, fun he => ?_⟩
 rcases HT7.out.new _ he with h1 | h1
 ·exact HNE.out h1
 ·have h2 := (hS4.blk HB2.out.2 fun h => h).lt
  have h3 := ((Keeps.refl (fun _ => False) w4).alloc (.cells #[.slice (some ⟨g4, 0, none⟩) N c4, .slice (some ⟨N0, 0, none⟩) 32 32] 48)).size
  omega
end Go.Proofs.YtplleficmkfniaaGreatDoor
namespace Go.Aff
open Go Go.RowKit Go.Sha
def dg (ds : List (List Int)) : List Value := (ds.map vb).flatten
def IsDig (d : List Int) : Prop := d.length = 32 ∧ IsBytes d
def IsDigs (ds : List (List Int)) : Prop := ∀ d ∈ ds, IsDig d
theorem IsDigs.cons {d : List Int} {ds : List (List Int)} (h : IsDigs (d :: ds)) : IsDig d ∧ IsDigs ds := ⟨h d (by simp), fun x hx => h x (by simp [hx])⟩
theorem IsDigs.at_ {ds : List (List Int)} (h : IsDigs ds) {k : Nat} {d : List Int} (hk : ds[k]? = some d) : IsDig d := h d (List.mem_of_getElem? hk)
theorem IsDigs.take {ds : List (List Int)} (h : IsDigs ds) (k : Nat) : IsDigs (ds.take k) := fun d hd => h d (List.mem_of_mem_take hd)
theorem IsDigs.drop {ds : List (List Int)} (h : IsDigs ds) (k : Nat) : IsDigs (ds.drop k) := fun d hd => h d (List.mem_of_mem_drop hd)
theorem IsDigs.app {ds es : List (List Int)} (h : IsDigs ds) (h' : IsDigs es) : IsDigs (ds ++ es) := fun d hd => by
 rcases List.mem_append.1 hd with hd | hd
 ·exact h d hd
 ·exact h' d hd
theorem IsDig.one {d : List Int} (h : IsDig d) : IsDigs [d] := fun x hx => by rw [List.mem_singleton.1 hx]; exact h
theorem vb_length (d : List Int) : (vb d).length = d.length := by simp [vb]
theorem dg_nil : dg [] = [] := rfl
theorem dg_cons (d : List Int) (ds : List (List Int)) : dg (d :: ds) = vb d ++ dg ds := rfl
theorem dg_app (ds es : List (List Int)) : dg (ds ++ es) = dg ds ++ dg es := by simp [dg]
theorem dg_one (d : List Int) : dg [d] = vb d := by simp [dg]
theorem dg_length : ∀ {ds : List (List Int)}, IsDigs ds → (dg ds).length = ds.length * 32
 | [], _ => rfl
 | d :: ds, h => by
  have h2 := h.cons
  rw [dg_cons, List.length_append, vb_length, h2.1.1, dg_length h2.2, List.length_cons]
  omega
theorem dg_drop : ∀ {ds : List (List Int)} (k : Nat), IsDigs ds → (dg ds).drop (k * 32) = dg (ds.drop k)
 | _, 0, _ => by simp
 | [], k + 1, _ => by simp [dg]
 | d :: ds, k + 1, h => by
  have h2 := h.cons
  rw [dg_cons, List.drop_succ_cons, ← dg_drop k h2.2]
  have e : (k + 1) * 32 = (vb d).length + k * 32 := by rw [vb_length, h2.1.1]; omega
  rw [e, List.drop_append]
  simp
theorem dg_take : ∀ {ds : List (List Int)} (k : Nat), IsDigs ds → (dg ds).take (k * 32) = dg (ds.take k)
 | _, 0, _ => by simp [dg]
 | [], k + 1, _ => by simp [dg]
 | d :: ds, k + 1, h => by
  have h2 := h.cons
  rw [dg_cons, List.take_succ_cons, dg_cons, ← dg_take k h2.2]
  have e : (k + 1) * 32 = (vb d).length + k * 32 := by rw [vb_length, h2.1.1]; omega
  rw [e, List.take_length_add_append]
theorem dg_one_cell (ds : List (List Int)) : ∀ u ∈ dg ds, u.oneCell' = true := by
 intro u hu
 simp only [dg, List.mem_flatten, List.mem_map] at hu
 obtain ⟨l, ⟨d, _, rfl⟩, hu⟩ := hu
 simp only [vb, List.mem_map] at hu
 obtain ⟨x, _, rfl⟩ := hu
 rfl
theorem fold_zip (vs : List Value) : ∀ (k : Nat) (cs : Array Value), k + vs.length ≤ cs.size → List.foldl (fun (cs : Array Value) (x : Value × Nat) => cs.setIfInBounds x.snd x.fst) cs (vs.zipIdx k) = (cs.toList.take k ++ vs ++ cs.toList.drop (k + vs.length)).toArray := by
 induction vs with
 | nil => intro k cs h; simp
 | cons v vs ih =>
  intro k cs h
  simp only [List.length_cons] at h
  rw [List.zipIdx_cons, List.foldl_cons, ih (k + 1) _ (by simp; omega)]
  have hk : k < cs.toList.length := by simp; omega
  simp only [Array.toList_setIfInBounds]
  congr 1
  have e1 : (cs.toList.set k v).take (k + 1) = cs.toList.take k ++ [v] := by
   rw [List.take_add_one, List.getElem?_set_self hk, List.take_set_of_le (Nat.le_refl k)]
   rfl
  have e2 : (cs.toList.set k v).drop (k + 1 + vs.length) = cs.toList.drop (k + (vs.length + 1)) := by
   rw [List.drop_set_of_lt (by omega)]
   congr 1
   omega
  rw [e1, e2]
  simp
theorem fold_zip0 (vs : List Value) (cs : Array Value) (h : cs.size = vs.length) : List.foldl (fun (cs : Array Value) (x : Value × Nat) => cs.setIfInBounds x.snd x.fst) cs vs.zipIdx = vs.toArray := by
 have := fold_zip vs 0 cs (by omega)
 rw [this, List.drop_eq_nil_of_le (by simp; omega)]
 simp
def RdD (w : World) (A : Option Addr) (n : Nat) (ds : List (List Int)) : Prop := ds.length = n ∧ IsDigs ds ∧ Rd w A (n * 32) (dg ds)
section
variable {w w' : World} {A : Option Addr} {n : Nat} {ds : List (List Int)} {F : Nat → Prop}
theorem RdD.nil (w : World) (A : Option Addr) : RdD w A 0 [] := ⟨rfl, fun _ h => by simp at h, Rd.nil w A⟩
theorem RdD.keep (h : RdD w A n ds) (hk : Keeps F w w') (ho : Out F A n) : RdD w' A n ds := ⟨h.1, h.2.1, h.2.2.keep hk (fun hn ad e => ho (by omega) ad e)⟩
theorem RdD.alloc (h : RdD w A n ds) (o : Obj) : RdD (w.alloc o) A n ds := ⟨h.1, h.2.1, h.2.2.alloc o⟩
theorem RdD.lies (h : RdD w A n ds) {k : Nat} (hk : k < n) : ∃ g o d, A = some ⟨g, o, none⟩ ∧ ds[k]? = some d ∧ Lies w g (o + k * 32) (vb d) := by
 obtain ⟨hl, hd, hr⟩ := h
 obtain ⟨g, o, rfl, hc⟩ := hr.2 (by omega)
 obtain ⟨d, hdk⟩ : ∃ d, ds[k]? = some d := ⟨_, List.getElem?_eq_getElem (by omega)⟩
 refine ⟨g, o, d, rfl, hdk, fun j hj => ?_⟩
 have h32 := (hd.at_ hdk).1
 rw [vb_length, h32] at hj
 rw [Nat.add_assoc, hc (k * 32 + j) (by omega), ← List.getElem?_drop, dg_drop k hd]
 have e : ds.drop k = d :: ds.drop (k + 1) := by
  have hk' : k < ds.length := by omega
  rw [List.drop_eq_getElem_cons hk']
  rw [List.getElem?_eq_getElem hk'] at hdk
  injection hdk with hdk
  rw [hdk]
 rw [e, dg_cons, List.getElem?_append_left (by rw [vb_length, h32]; exact hj)]
theorem RdD.take (h : RdD w A n ds) {k : Nat} (hk : k ≤ n) : RdD w A k (ds.take k) := by
 have h2 := h.2.2.take (k := k * 32) (by omega)
 rw [dg_take k h.2.1] at h2
 exact ⟨by rw [List.length_take, h.1]; omega, h.2.1.take k, h2⟩
def cutD (A : Option Addr) (c k : Nat) : Option Addr := if c = k then A else A.map (·.add (k * 32))
theorem RdD.cut (h : RdD w A n ds) {k c : Nat} (hk : k ≤ n) (hc : n ≤ c) : RdD w (cutD A c k) (n - k) (ds.drop k) := by
 have h2 := h.2.2.cut (k := k * 32) (cap := c * 32) (by omega) (by omega)
 rw [dg_drop k h.2.1] at h2
 refine ⟨by rw [List.length_drop, h.1], h.2.1.drop k, ?_⟩
 have e : cutD A c k = if c * 32 = k * 32 then A else A.map (·.add (k * 32)) := by
  unfold cutD
  by_cases hck : c = k
  ·rw [if_pos hck, if_pos (by omega)]
  ·rw [if_neg hck, if_neg (by omega)]
 rw [e, show (n - k) * 32 = n * 32 - k * 32 by omega]
 exact h2
theorem RdD.of_own {base : Nat} {e : TypeId} {c : Nat} (h : w.ownsRow base e 32 (.slice A n c) n (dg ds)) (hd : IsDigs ds) (hn : ds.length = n) : RdD w A n ds := by
 refine ⟨hn, hd, ?_, fun hpos => ?_⟩
 ·rw [dg_length hd, hn]
 ·rcases h.2 with ⟨_, hn0⟩ | ⟨g, cap, cur, hv, _, _, _, _⟩
  ·omega
  ·injection hv with e1 e2 e3
   subst e1
   refine ⟨g, 0, rfl, fun j hj => ?_⟩
   have hj' : j < (dg ds).length := by rw [dg_length hd]; omega
   have := h.cells (g := g) rfl j _ (List.getElem?_eq_getElem hj')
   rw [List.getElem?_eq_getElem hj', Nat.zero_add]
   rw [add_at, Nat.zero_add] at this
   exact this
end
def MineD (w wr : World) (e : TypeId) (A : Option Addr) (m c : Nat) (ds : List (List Int)) : Prop :=
 wr.ownsRow 0 e 32 (.slice A m c) m (dg ds) ∧ IsDigs ds ∧ ds.length = m ∧ Keeps (fun _ => False) w wr ∧ ∀ g, (Value.slice A m c).ownBlock = some g → w.heap.size ≤ g
theorem MineD.nil (w : World) (e : TypeId) : MineD w w e none 0 0 [] := ⟨World.ownsRow_nil w 0 e 32, fun _ h => by simp at h, rfl, Keeps.refl _ w, fun g h => by simp [Value.ownBlock] at h⟩
theorem MineD.rd {w wr : World} {e : TypeId} {A : Option Addr} {m c : Nat} {ds : List (List Int)} (h : MineD w wr e A m c ds) : RdD wr A m ds := RdD.of_own h.1 h.2.1 h.2.2.1
theorem MineD.keep {w wr w' : World} {e : TypeId} {A : Option Addr} {m c : Nat} {ds : List (List Int)} (h : MineD w wr e A m c ds) (hk : Keeps (fun _ => False) wr w') : MineD w w' e A m c ds :=
 ⟨hk.own h.1 (fun _ _ h => h), h.2.1, h.2.2.1, h.2.2.2.1.trans hk (fun _ _ h => h), h.2.2.2.2⟩
theorem wpList_append_dig {P : Program} (w0 w : World) {ops : Array Oper} {rest : List Oper} {o : Oper} {a : Act} {Q : Exit → Act → World → Prop} (hgd : o.guard = none) (s x : Operand) (t : TypeId)
  (ho : o.op = .call { callee := .builtin .append, args := #[s, x], argTypes := #[t, t] })
  (e : TypeId) (z : Value) (ht : P.underlying t = some (.slice e)) (hinfo : (P.info? e).map (fun i => (i.zero, i.size, i.bytes)) = some (some z, 32, 32)) (hzs : z.cells.size = 32)
  (A0 : Option Addr) (n c0 : Nat) (ds : List (List Int)) (hs : a.eval s = .slice A0 n c0) (hown : MineD w0 w e A0 n c0 ds)
  (A : Option Addr) (m c : Nat) (news : List (List Int)) (hx : a.eval x = .slice A m c) (hr : RdD w A m news)
  (hbytes : n + m ≤ 4398046511103)
  (h : ∀ A' c' w', MineD w0 w' e A' (n + m) c' (ds ++ news) → w.grownBy w' (Value.slice A0 n c0).ownBlock → ((Value.slice A' (n + m) c').ownBlock = (Value.slice A0 n c0).ownBlock ∨ (Value.slice A' (n + m) c').ownBlock = some w.heap.size) → wpList P ops Q rest (a.put o.dst (.slice A' (n + m) c')) w') :
  wpList P ops Q (o :: rest) a w := by
 obtain ⟨i, hi, hzi⟩ := Option.map_eq_some_iff.1 hinfo
 simp only [Prod.mk.injEq] at hzi
 obtain ⟨hz, hsz, hby⟩ := hzi
 obtain ⟨ho1, ho2, ho3, ho4, ho5⟩ := hown
 have fin : ∀ A' c' w', w'.ownsRow 0 e 32 (.slice A' (n + m) c') (n + m) (dg ds ++ dg news) → w.grownBy w' (Value.slice A0 n c0).ownBlock → ((Value.slice A' (n + m) c').ownBlock = (Value.slice A0 n c0).ownBlock ∨ (Value.slice A' (n + m) c').ownBlock = some w.heap.size) → wpList P ops Q rest (a.put o.dst (.slice A' (n + m) c')) w' := by
  intro A' c' w' k1 k2 k3
  refine h A' c' w' ⟨by rw [dg_app]; exact k1, ho2.app hr.2.1, by rw [List.length_append, ho3, hr.1], ?_, ?_⟩ k2 k3
  ·refine ho4.trans (Keeps.of_grown k2) (fun g hg hb => ?_)
   have := ho5 g hb
   omega
  ·intro g hg
   rcases k3 with k3 | k3
   ·exact ho5 g (k3 ▸ hg)
   ·rw [k3] at hg
    injection hg with hg
    have := ho4.size
    omega
 rcases A with _ | ad
 ·have hm : m = 0 := by
   rcases Nat.eq_zero_or_pos m with h0 | h0
   ·exact h0
   ·obtain ⟨g, o, e1, _⟩ := hr.2.2.2 (by omega)
    cases e1
  subst hm
  have hn : news = [] := List.eq_nil_of_length_eq_zero hr.1
  subst hn
  refine wpList_plain hgd fun K hK => ?_
  have hrun : (Builtin.append_ #[t, t] o.type #[.slice A0 n c0, .slice none 0 c]).run P w = .ok (.slice A0 n c0) w := by
   rcases ho1.2 with ⟨hv, hn0⟩ | ⟨g, cap, cur, hv, _, _, hnc, _⟩
   ·injection hv with e1 e2 e3
    subst e1 e2 e3
    simp [Builtin.append_, run_underlying ht, sizeOf, typeInfo, hi, Builtin.lenOf, Builtin.firstCells]
   ·injection hv with e1 e2 e3
    subst e1 e3
    simp [Builtin.append_, run_underlying ht, sizeOf, typeInfo, hi, Builtin.lenOf, Builtin.firstCells, hnc, storeCells]
  unfold Oper.wp execOp
  simp only [ho, resolve, invoke, builtin, Sem.run_bind, Sem.run_pure, Result.andThen_ok, List.map_toArray, List.map_cons, List.map_nil, hs, hx, hrun]
  have := fin A0 c0 w (by simpa [dg_nil] using ho1) (World.grownBy.refl w _) (.inl rfl)
  exact hK _ _ this
 ·have hcells : ∀ j u, (dg news)[j]? = some u → w.cell? (ad.add j) = some u := by
   intro j u hu
   have hj : j < (dg news).length := (List.getElem?_eq_some_iff.1 hu).1
   have hl := dg_length hr.2.1
   have hl2 := hr.1
   obtain ⟨g, o, e1, hc⟩ := hr.2.2.2 (by omega)
   injection e1 with e1
   subst e1
   rw [add_at, hc j (by omega), hu]
  refine wpList_append_own_at w hgd s x t ho 0 e i z 32 32 ht hi hz hsz hby hzs (by omega) (.slice A0 n c0) n (dg ds) hs ho1 ad m c (dg news) hx (by rw [dg_length hr.2.1, hr.1]) hcells (dg_one_cell news) (by simp only [maxLen]; omega) (by omega) (by omega) fun v' w' h2 h3 _ h5 => ?_
  obtain ⟨A', c', rfl⟩ := own_shape h2
  exact fin A' c' w' h2 h3 h5
section
variable {P : Program} {T e : TypeId}
theorem size_dig (hu : P.underlying T = some (.slice e)) (hz : (P.info? e).map (·.size) = some 32) (w : World) : (sizeOf (P.elem T)).run P w = .ok 32 w := by
 rw [elem_of hu]
 obtain ⟨i, hi, hs⟩ := Option.map_eq_some_iff.1 hz
 simp [sizeOf, typeInfo, hi, hs]
theorem cutD_l (hu : P.underlying T = some (.slice e)) (hz : (P.info? e).map (·.size) = some 32) (A : Option Addr) (n c l : Nat) (li : Int) (hli : li = l) (h1 : l ≤ n) (w : World) :
  (Instr.sliceAt T (.slice A n c) (some (.int .i64 li)) none none).run P w = .ok (.slice (cutD A c l) (n - l) (c - l)) w := by
 subst hli
 have hu' : P.underlying T = some (.slice (P.elem T)) := by rw [elem_of hu]; exact hu
 rw [run_sliceAt_slice w T _ _ _ _ hu', run_slice_l w T A n c hu' .i64 l (by omega) (by omega), size_dig hu hz]
 simp [sliced, cutD]
theorem cutD_h (hu : P.underlying T = some (.slice e)) (hz : (P.info? e).map (·.size) = some 32) (A : Option Addr) (n c h : Nat) (hi : Int) (hhi : hi = h) (h2 : h ≤ c) (w : World) :
  (Instr.sliceAt T (.slice A n c) none (some (.int .i64 hi)) none).run P w = .ok (.slice (cutD A c 0) h c) w := by
 subst hhi
 have hu' : P.underlying T = some (.slice (P.elem T)) := by rw [elem_of hu]; exact hu
 rw [run_sliceAt_slice w T _ _ _ _ hu', run_slice_h w T A n c hu' .i64 h (by omega) (by omega), size_dig hu hz]
 simp [sliced, cutD]
end
end Go.Aff
namespace Go.Aff
open Go
section
variable {P : Program} {ops : Array Oper} {Q : Exit → Act → World → Prop} {md : Region.Mode}
def actsOf (a : Act) (D : List Nat) (f : Nat → Value) : Act := match D with
 | [] => a
 | d :: D => (actsOf a D f).put (some d) (f d)
def updV (f : Nat → Value) (o : Option Nat) (v : Value) : Nat → Value := match o with
 | none => f
 | some d => fun k => if k = d then v else f k
theorem updV_at {f : Nat → Value} {d : Nat} {v : Value} : updV f (some d) v d = v := if_pos rfl
theorem updV_ne {f : Nat → Value} {d k : Nat} {v : Value} (h : k ≠ d) : updV f (some d) v k = f k := if_neg h
theorem put_put (a : Act) (d : Nat) (v u : Value) : (a.put (some d) v).put (some d) u = a.put (some d) u := by
 simp only [Act.put, Array.setIfInBounds_setIfInBounds]
theorem actsOf_congr (a : Act) {f g : Nat → Value} : ∀ {D : List Nat}, (∀ d ∈ D, f d = g d) → actsOf a D f = actsOf a D g
 | [], _ => rfl
 | d :: D, h => by
  show (actsOf a D f).put (some d) (f d) = (actsOf a D g).put (some d) (g d)
  rw [actsOf_congr a fun e he => h e (List.mem_cons_of_mem _ he), h d (List.mem_cons_self ..)]
theorem actsOf_put (a : Act) (f : Nat → Value) (v : Value) (d : Nat) : ∀ {D : List Nat}, d ∈ D → D.Nodup → (actsOf a D f).put (some d) v = actsOf a D (updV f (some d) v)
 | e :: D, h, hn => by
  show ((actsOf a D f).put (some e) (f e)).put (some d) v = (actsOf a D (updV f (some d) v)).put (some e) (updV f (some d) v e)
  have hn' := List.nodup_cons.1 hn
  by_cases hde : d = e
  ·subst hde
   rw [put_put, updV_at, actsOf_congr a (f := f) (g := updV f (some d) v) fun k hk => (updV_ne fun e => by subst e; exact hn'.1 hk).symm]
  ·have hm : d ∈ D := (List.mem_cons.1 h).resolve_left hde
   rw [Act.put_comm _ _ _ (fun k hk e => by injection hk with hk; injection e with e; exact hde (e.trans hk.symm)), actsOf_put a f v d hm hn'.2, updV_ne (fun e => hde e.symm)]
theorem actsOf_self (a : Act) : ∀ (D : List Nat), actsOf a D (fun d => a.tmps.getD d undef) = a
 | [] => rfl
 | d :: D => by
  show (actsOf a D _).put (some d) _ = a
  rw [actsOf_self a D]
  unfold Act.put
  show { a with tmps := a.tmps.setIfInBounds d (a.tmps.getD d undef) } = a
  have : a.tmps.setIfInBounds d (a.tmps.getD d undef) = a.tmps := by
   apply Array.ext
   ·simp
   ·intro i h1 h2
    simp only [Array.getElem_setIfInBounds h2]
    split
    ·rename_i hd; subst hd; simp [Array.getD, h2]
    ·rfl
  rw [this]
def edgeB (md : Region.Mode) (ops : Array Oper) (k j : Nat) : Bool := match ops[k]? with
 | some o => o.after.any fun e => Region.binds md e && (e.on == j)
 | none => false
def AllStepsI (P : Program) (md : Region.Mode) (ops : Array Oper) (Q : Exit → Act → World → Prop) (a0 : Act) (D : List Nat) (J : (Nat → Prop) → (Nat → Value) → World → Prop) (rs : List Nat) : Prop :=
 ∀ i ∈ rs, ∀ (done : Nat → Prop) f w, J done f w → ¬ done i → (∀ o, ops[i]? = some o → ∀ e ∈ o.after, Region.binds md e = true → done e.on) → (∀ k j, edgeB md ops k j = true → done k → done j) → wpOp P ops Q i (fun a' w' => ∃ f', a' = actsOf a0 D f' ∧ J (fun k => done k ∨ k = i) f' w') (actsOf a0 D f) w
theorem AllStepsI.nil {a0 : Act} {D : List Nat} {J : (Nat → Prop) → (Nat → Value) → World → Prop} : AllStepsI P md ops Q a0 D J [] := fun _ h => by cases h
theorem AllStepsI.cons {a0 : Act} {D : List Nat} {J : (Nat → Prop) → (Nat → Value) → World → Prop} {i : Nat} {o : Oper} {rs : List Nat} (pre : List Nat) (hD : D.Nodup) (ho : ops[i]? = some o) (hdd : (match o.dst with | some d => D.contains d | none => true) = true) (hp : (pre.all fun k => o.after.any fun e => Region.binds md e && (e.on == k)) = true)
  (h : ∀ (done : Nat → Prop) f w, J done f w → ¬ done i → (∀ k ∈ pre, done k) → (∀ k j, edgeB md ops k j = true → done k → done j) → ∀ a, a = actsOf a0 D f → ∀ K' : Act → World → Prop, Shut (∀ v w', J (fun k => done k ∨ k = i) (updV f o.dst v) w' → K' (a.put o.dst v) w') → if Region.wanted o (yielded ops a.tmps) = true then Oper.wp P o a w K' Q else K' (a.put o.dst undef) w)
  (hs : AllStepsI P md ops Q a0 D J rs) : AllStepsI P md ops Q a0 D J (i :: rs) := fun j hj done f w hJ hn hpre hcl => by
 rcases List.mem_cons.1 hj with rfl | hj
 ·refine wpOp_step ho fun K' hK => h done f w hJ hn (fun k hk => ?_) hcl _ rfl K' fun v w' hJ' => hK _ _ ⟨updV f o.dst v, ?_, hJ'⟩
  ·have h1 := List.all_eq_true.1 hp k hk
   obtain ⟨e, he, h2⟩ := Array.any_eq_true'.1 h1
   simp only [Bool.and_eq_true, beq_iff_eq] at h2
   rw [← h2.2]
   exact hpre o ho e he h2.1
  ·cases hd : o.dst with
   | none => rfl
   | some d =>
    rw [hd] at hdd
    exact actsOf_put a0 f v d (by simpa using hdd) hD
 ·exact hs j hj done f w hJ hn hpre hcl
theorem count_set_list : ∀ (l : List Bool) (i : Nat), l[i]? = some false → (l.set i true).count false + 1 ≤ l.count false
 | [], i, h => by simp at h
 | b :: l, 0, h => by simp at h; subst h; simp
 | b :: l, i + 1, h => by
  have := count_set_list l i (by simpa using h)
  simp only [List.set_cons_succ, List.count_cons]
  omega
theorem getD_lt {L : Array Bool} {i : Nat} {b : Bool} (h : i < L.size) : L.getD i b = L[i] := by simp [Array.getD, h]
theorem count_set {L : Array Bool} {i : Nat} (h : L.getD i true = false) : (L.setIfInBounds i true).toList.count false + 1 ≤ L.toList.count false := by
 have hi : i < L.size := by
  by_cases hi : i < L.size
  ·exact hi
  ·simp [Array.getD, hi] at h
 rw [Array.toList_setIfInBounds]
 refine count_set_list _ _ ?_
 rw [getD_lt hi] at h
 rw [Array.getElem?_toList, Array.getElem?_eq_getElem hi, h]
theorem wpAnyH_inv0 {S : World → Prop} {a0 : Act} {D : List Nat} {J : (Nat → Prop) → (Nat → Value) → World → Prop} (is : List Nat) (hord : ((List.range ops.size).all fun i => match ops[i]? with | some o => o.after.all fun e => !(Region.binds md e) || decide (e.on < i) | none => true) = true)
  (hJS : ∀ done f w, J done f w → S w) (hsteps : AllStepsI P md ops Q a0 D J is) (hend : ∀ (done : Nat → Prop) f w, J done f w → (∀ k, k < ops.size → done k) → Q .normal (actsOf a0 D f) w) :
  ∀ (fuel : Nat) (L : Array Bool), L.size = ops.size → (∀ j, j < ops.size → j ∉ is → L.getD j true = true) → (∀ k j, edgeB md ops k j = true → L.getD k false = true → L.getD j false = true) → ∀ f w, J (fun k => L.getD k false = true) f w → L.toList.count false ≤ fuel → wpAnyH P md ops Q S fuel L (actsOf a0 D f) w := by
 have hall : ∀ (L : Array Bool), L.size = ops.size → Region.ready md ops L = [] → ∀ k, k < ops.size → L.getD k false = true := fun L hsz hr k => by
  induction k using Nat.strongRecOn with
  | _ k ih =>
   intro hk
   have hkL : k < L.size := by rw [hsz]; exact hk
   rw [getD_lt hkL]
   cases hb : L[k] with
   | true => rfl
   | false =>
    have hin : k ∈ Region.ready md ops L := mem_ready.2 ⟨by rw [getD_lt hkL]; exact hb, ops[k], Array.getElem?_eq_getElem hk, fun e he hb => by
     have h1 := List.all_eq_true.1 hord k (List.mem_range.2 hk)
     simp only [Array.getElem?_eq_getElem hk] at h1
     have h3 := Array.all_eq_true'.1 h1 e he
     rw [hb] at h3
     have h2 : e.on < k := by simpa using h3
     exact ih e.on h2 (by omega)⟩
    rw [hr] at hin
    cases hin
 intro fuel
 induction fuel with
 | zero =>
  intro L hsz hL hcl f w hJ hc
  have hr : Region.ready md ops L = [] := by
   cases hr : Region.ready md ops L with
   | nil => rfl
   | cons i rs =>
    have hi : i ∈ Region.ready md ops L := by rw [hr]; exact List.mem_cons_self ..
    have := count_set (mem_ready.1 hi).1
    omega
  exact ⟨hr, hend _ f w hJ (hall L hsz hr)⟩
 | succ fuel ih =>
  intro L hsz hL hcl f w hJ hc
  refine ⟨fun hr => hend _ f w hJ (hall L hsz hr), fun i hi => ?_⟩
  obtain ⟨h1, o, ho, h2⟩ := mem_ready.1 hi
  have hio : i < ops.size := (Array.getElem?_eq_some_iff.1 ho).1
  have hiL : i < L.size := by rw [hsz]; exact hio
  have hii : i ∈ is := Classical.byContradiction fun h => by rw [hL i hio h] at h1; cases h1
  have hnd : ¬ (L.getD i false = true) := by rw [getD_lt hiL]; rw [getD_lt hiL] at h1; rw [h1]; decide
  refine wpOp_mono (fun a' w' h => ?_) (hsteps i hii (fun k => L.getD k false = true) f w hJ hnd (fun o' ho' e he hb => by
   rw [ho] at ho'; injection ho' with ho'; subst ho'
   exact h2 e he hb) hcl)
  obtain ⟨f', rfl, hJ'⟩ := h
  refine ⟨hJS _ _ _ hJ', ih _ (by simp [hsz]) (fun j hj hn => ?_) ?_ f' w' ?_ (by have := count_set h1; omega)⟩
  ·have := hL j hj hn
   have hjL : j < (L.setIfInBounds i true).size := by simp [hsz]; exact hj
   rw [getD_lt hjL, Array.getElem_setIfInBounds (by rw [hsz]; exact hj)]
   split
   ·rfl
   ·rw [getD_lt (by rw [hsz]; exact hj)] at this; exact this
  ·intro k j hkj hk
   have hgr : ∀ q, L.getD q false = true → (L.setIfInBounds i true).getD q false = true := fun q hq => by
    by_cases hqs : q < L.size
    ·rw [getD_lt (by simp; exact hqs), Array.getElem_setIfInBounds hqs]
     split
     ·rfl
     ·rw [getD_lt hqs] at hq; exact hq
    ·simp [Array.getD, hqs] at hq
   by_cases hki : k = i
   ·subst hki
    unfold edgeB at hkj
    rw [ho] at hkj
    obtain ⟨e, he, h3⟩ := Array.any_eq_true'.1 hkj
    simp only [Bool.and_eq_true, beq_iff_eq] at h3
    have h4 := h2 e he h3.1
    rw [h3.2] at h4
    exact hgr j h4
   ·refine hgr j (hcl k j hkj ?_)
    by_cases hks : k < L.size
    ·rw [getD_lt (by simp; exact hks), Array.getElem_setIfInBounds hks, if_neg (fun e => hki e.symm)] at hk
     rw [getD_lt hks]; exact hk
    ·simp [Array.getD, hks] at hk
  ·have he : (fun k => (L.setIfInBounds i true).getD k false = true) = fun k => L.getD k false = true ∨ k = i := by
    funext k
    apply propext
    by_cases hk : k < L.size
    ·rw [getD_lt (by simp; exact hk), getD_lt hk, Array.getElem_setIfInBounds hk]
     split
     ·rename_i e; subst e; simp
     ·rename_i e
      exact ⟨.inl, fun h => h.resolve_right fun h => e h.symm⟩
    ·have h3 : (L.setIfInBounds i true).getD k false = false := by simp [Array.getD, hk]
     have h4 : L.getD k false = false := by simp [Array.getD, hk]
     rw [h3, h4]
     refine ⟨fun h => (by cases h), fun h => ?_⟩
     rcases h with h | h
     ·cases h
     ·subst h; exact absurd hiL hk
   rw [he]
   exact hJ'
theorem wpAnyH_inv {S : World → Prop} {fuel : Nat} {L : Array Bool} {a : Act} {w : World} (D : List Nat) (J : (Nat → Prop) → (Nat → Value) → World → Prop) (is : List Nat) (hord : ((List.range ops.size).all fun i => match ops[i]? with | some o => o.after.all fun e => !(Region.binds md e) || decide (e.on < i) | none => true) = true)
  (hsz : L.size = ops.size) (hL : ((List.range ops.size).all fun j => is.contains j || L.getD j true) = true) (hc : L.toList.count false ≤ fuel) (hJS : ∀ done f w, J done f w → S w)
  (hL0 : (is.all fun k => !(L.getD k false)) = true) (hcl : ((List.range ops.size).all fun k => !(L.getD k false) || (match ops[k]? with | some o => o.after.all fun e => !(Region.binds md e) || L.getD e.on false | none => true)) = true) (h0 : ∀ (done : Nat → Prop) f, (∀ k ∈ is, ¬ done k) → J done f w) (hend : ∀ (done : Nat → Prop) f w, J done f w → (∀ k, k < ops.size → done k) → Q .normal (actsOf a D f) w) (hsteps : AllStepsI P md ops Q a D J is) : wpAnyH P md ops Q S fuel L a w := by
 have h := wpAnyH_inv0 (P := P) (ops := ops) (Q := Q) (md := md) is hord hJS hsteps hend fuel L hsz (fun j hj hn => by
  have h1 := List.all_eq_true.1 hL j (List.mem_range.2 hj)
  rcases Bool.or_eq_true_iff.1 h1 with h1 | h1
  ·exact absurd (by simpa using h1) hn
  ·exact h1) (fun k j hkj hk => by
  unfold edgeB at hkj
  cases ho : ops[k]? with
  | none => rw [ho] at hkj; cases hkj
  | some o =>
   rw [ho] at hkj
   have hks := (Array.getElem?_eq_some_iff.1 ho).1
   have h1 := List.all_eq_true.1 hcl k (List.mem_range.2 hks)
   rw [hk, ho] at h1
   have h1 : (o.after.all fun e => !(Region.binds md e) || L.getD e.on false) = true := h1
   obtain ⟨e, he, h3⟩ := Array.any_eq_true'.1 hkj
   simp only [Bool.and_eq_true, beq_iff_eq] at h3
   have h4 := Array.all_eq_true'.1 h1 e he
   rw [h3.1, h3.2] at h4
   simpa using h4) (fun d => a.tmps.getD d undef) w (h0 _ _ fun k hk e => by
  have h1 := List.all_eq_true.1 hL0 k hk
  rw [e] at h1
  cases h1) hc
 rw [actsOf_self] at h
 exact h
end
end Go.Aff
