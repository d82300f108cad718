/- Texts. -/
import Derived.Test.YtplleficmkfniaaGreatDoorQ32
import Derived.Test.YtplleficmkfniaaGreatDoorQ18
set_option linter.unusedSimpArgs false
set_option maxRecDepth 100000
set_option maxHeartbeats 4000000
namespace Go.Proofs.YtplleficmkfniaaGreatDoor
open Go Go.RowKit Go.Aff Go.Sha Go.Dig Go.Book
attribute [local go_sem] Oper.semAt_some
structure RRowIn (p : Nat) (E : Nat → Prop) (w : World) (l : List (List Int)) (A : Option Addr) (n c : Nat) (ds : List (List Int)) : Prop where
 st : Tkg (RgSt p) E w l
 room : l.length + 2 * n + 1 ≤ 1099511627776
 rd : RdD w A n ds
 out : Out E A n
 cap : n ≤ c
 few : n ≤ 1099511627776
def RRowPost (p : Nat) (E : Nat → Prop) (w : World) (l : List (List Int)) (ds : List (List Int)) (e : Ending) (w' : World) : Prop := e = .returned (.agg (vb (rowD ds)).toArray) ∧ ∃ E', Took (RgSt p) E E' w w' (l ++ allTx ds)
theorem rhash_byte {p : Nat} {E : Nat → Prop} {w w1 : World} {l : List (List Int)} (hT : Tkg (RgSt p) E w l) (hl : l.length ≤ 1099511627776) (k : Keeps (fun _ => False) w w1) (b : Int) (h0 : 0 ≤ b ∧ b < 256) {DV : List Value} (hDV : DV = vb (hsh [b])) :
  Calls Tryz.prog 127 #[.pointer (some ⟨p, 0, none⟩), .slice (some ⟨w1.heap.size, 0, none⟩) 1 1] (w1.alloc (.cells #[.int .u8 b] 5)) fun e w' => e = .returned (.agg DV.toArray) ∧ ∃ E', Took (RgSt p) E E' w1 w' (l ++ [[b]]) :=
 rhash_mine hT hl k hDV rfl (by omega) (mine_byte w1 b) (fun x hx => by rw [List.mem_singleton.1 hx]; exact h0)
theorem rrow_none {p : Nat} {E : Nat → Prop} {w : World} {l : List (List Int)} {A : Option Addr} {c : Nat} {ds : List (List Int)} (h : RRowIn p E w l A 0 c ds) :
  Calls Tryz.prog 130 #[.pointer (some ⟨p, 0, none⟩), .slice A 0 c] w (RRowPost p E w l ds) := by
 have h0 : ds = [] := List.eq_nil_of_length_eq_zero h.rd.1
 subst h0
 unfold RRowPost
 rw [rowD_nil, show allTx [] = [[101]] from if_pos rfl]
 obtain ⟨N0, hN0⟩ : ∃ N0, N0 = w.heap.size := ⟨_, rfl⟩
 obtain ⟨DV, hDV⟩ : ∃ DV, DV = vb (hsh [101]) := ⟨_, rfl⟩
 have HD1 : Hid (∀ u ∈ DV, u.oneCell' = true) := H_ (by rw [hDV]; exact vb_one _)
 have HDL : Hid (DV.length = 32) := H_ (by rw [hDV]; simp [vb, hsh_len])
 have HIN : Hid ((Tryz.prog.info? 144).map (·.size) = some DV.length) := H_ (infoRD DV HDL.out)
 have HW1 : Hid (Keeps (fun _ => False) w (w.alloc (.cells (List.replicate 32 (Value.int .u8 0)).toArray 144)) ∧ Blk (w.alloc (.cells (List.replicate 32 (Value.int .u8 0)).toArray 144)) N0 144 (List.replicate 32 (Value.int .u8 0))) := H_ ⟨(Keeps.refl _ w).alloc _, by rw [hN0]; exact Blk.new _ _ _⟩
 have HNE : Hid (¬ E N0) := H_ fun he => by have := h.st.lt _ he; omega
 have HNN := H_ hN0
 have HH := H_ h
 have HDV := H_ hDV
 rw [← hDV]
 clear h hDV hN0
 go_enter Tryz.func130, Tryz.ntmps130
 go_upto_region 3 with fail
 refine gen_codeF (fun W => Keeps (fun _ => False) w W ∧ Blk W N0 144 (List.replicate 32 (Value.int .u8 0))) HW1.out ?_
 rintro w1 ⟨k1, z1⟩
 have hNN := HNN.out
 rw [← hNN]
 clear hNN
 have HK1 := H_ k1
 have HZ1 := H_ z1
 have HHA := H_ (rhash_byte HH.out.st (by have := HH.out.room; omega) k1 101 (by omega) HDV.out)
 clear k1 z1
 go_wp2_with (first
  | (go_at_call 127; refine HHA.out.mono ?_; rintro e w6 ⟨rfl, E6, hT6⟩; have HT6 := H_ hT6; have HZ6 := H_ (hT6.keep.blk HZ1.out HNE.out); clear hT6)
  | ((with_reducible show wpList _ _ _ (⟨none, Op.store 144 _ _, _, _, _, _⟩ :: _) _ _); refine wpList_store_whole rfl 144 _ _ rfl DV rfl rfl HZ6.out (by rw [HDL.out]; simp) HIN.out HD1.out ?_))
 refine bodyPost_ret (results_blk rfl _ _ rfl (HZ6.out.setRow DV) Tryz.underlying144 rfl HIN.out) rfl ⟨rfl, E6, ?_⟩
 exact rfin HT6.out HK1.out HZ1.out HNE.out (by have := HNN.out; omega) _
theorem rrow_one {p : Nat} {E : Nat → Prop} {w : World} {l : List (List Int)} {A : Option Addr} {c : Nat} {d : List Int} (h : RRowIn p E w l A 1 c [d]) :
  Calls Tryz.prog 130 #[.pointer (some ⟨p, 0, none⟩), .slice A 1 c] w (RRowPost p E w l [d]) := by
 unfold RRowPost
 rw [rowD_one, allTx_ne (by simp), rowTx_one]
 obtain ⟨g, o, hA, hr, hdg⟩ := h.rd.first
 subst hA
 obtain ⟨X, hX⟩ : ∃ X, X = leafT d := ⟨_, rfl⟩
 rw [← hX]
 have hX2 : X = 0 :: (d ++ []) := by rw [hX, List.append_nil]; rfl
 have hXB : IsBytes X := by
  rw [hX]
  intro x hx
  rcases List.mem_cons.1 hx with rfl | hx
  ·omega
  ·exact hdg.2 x hx
 have hXl : X.length = 33 := by rw [hX2]; simp [hdg.1]
 obtain ⟨N0, hN0⟩ : ∃ N0, N0 = w.heap.size := ⟨_, rfl⟩
 obtain ⟨RV, hRV⟩ : ∃ RV, RV = vb d := ⟨_, rfl⟩
 have hrl : RV.length = 32 := by rw [hRV]; simp [vb, hdg.1]
 have HRL := H_ hrl
 obtain ⟨DV, hDV⟩ : ∃ DV, DV = vb (hsh X) := ⟨_, rfl⟩
 have HD1 : Hid (∀ u ∈ DV, u.oneCell' = true) := H_ (by rw [hDV]; exact vb_one _)
 have HDL : Hid (DV.length = 32) := H_ (by rw [hDV]; simp [vb, hsh_len])
 have HIN : Hid ((Tryz.prog.info? 144).map (·.size) = some DV.length) := H_ (infoRD DV HDL.out)
 have HIR : Hid ((Tryz.prog.info? 144).map (·.size) = some RV.length) := H_ (infoRD RV HRL.out)
 have HRG : Hid (∀ W, Keeps (fun _ => False) w W → Lies W g o RV) := H_ fun W hW => by
  obtain ⟨g', o', e', hl'⟩ := (hr.keep hW (no_out _ _)).2 (by omega)
  injection e' with e'
  injection e' with e1 e2
  subst e1 e2
  rw [hRV]
  intro j hj
  rw [hl' j (by simpa [vb, hdg.1] using hj)]
 have HLI : Hid (∀ W, Calls Tryz.prog 179 #[.agg RV.toArray] W fun e w' => ∃ A c', e = .returned (.slice A 32 c') ∧ Hid (Mine W w' 5 A 32 c' (vb d))) := H_ fun W => by rw [hRV]; exact rlist_any W d hdg.1
 have HJO : Hid (∀ W A c, Rd W A 32 (vb d) → Calls Tryz.prog 128 #[.int .u8 0, .slice A 32 c, .slice none 0 0] W fun e w' => ∃ g c', e = .returned (.slice (some ⟨g, 0, none⟩) 33 c') ∧ Hid (Mine W w' 5 (some ⟨g, 0, none⟩) 33 c' (vb X))) := H_ fun W A c h1 => (rjoined_any W 0 A 32 c d hdg.1 h1 (by omega) none 0 0 [] rfl (Rd.nil _ _) (by omega)).mono fun e w' ⟨g, c', h3, h4⟩ => ⟨g, c', h3, H_ (by rw [hX2]; exact h4)⟩
 have HHA : Hid (∀ w6 w7 g c, Keeps (fun _ => False) w w6 → Mine w6 w7 5 (some ⟨g, 0, none⟩) 33 c (vb X) → Calls Tryz.prog 127 #[.pointer (some ⟨p, 0, none⟩), .slice (some ⟨g, 0, none⟩) 33 c] w7 fun e w' => e = .returned (.agg DV.toArray) ∧ ∃ E', Took (RgSt p) E E' w6 w' (l ++ [X])) := H_ fun w6 w7 g c h1 h2 => rhash_mine h.st (by have := h.room; omega) h1 hDV hXl (by omega) h2 hXB
 have HW1 : Hid (Keeps (fun _ => False) w (w.alloc (.cells (List.replicate 32 (Value.int .u8 0)).toArray 144)) ∧ Blk (w.alloc (.cells (List.replicate 32 (Value.int .u8 0)).toArray 144)) N0 144 (List.replicate 32 (Value.int .u8 0))) := H_ ⟨(Keeps.refl _ w).alloc _, by rw [hN0]; exact Blk.new _ _ _⟩
 have HNE : Hid (¬ E N0) := H_ fun he => by have := h.st.lt _ he; omega
 have HNN := H_ hN0
 rw [← hDV]
 clear h hDV hN0 hr hdg hX hX2 hXB hXl hRV hrl
 go_enter Tryz.func130, Tryz.ntmps130
 go_upto_region 5 with fail
 refine gen_codeF (fun W => Keeps (fun _ => False) w W ∧ Blk W N0 144 (List.replicate 32 (Value.int .u8 0))) HW1.out ?_
 rintro w1 ⟨k1, z1⟩
 have hNN := HNN.out
 rw [← hNN]
 clear hNN
 have HK1 := H_ k1
 have HZ1 := H_ z1
 clear k1 z1
 go_wp2_with (first
  | ((with_reducible show wpList _ _ _ (⟨some 20, Op.load 144 _, _, _, _, _⟩ :: _) _ _); refine wpList_load_lies rfl 144 _ rfl _ RV _ rfl (HRG.out _ HK1.out) Tryz.underlying144 rfl HIR.out ?_)
  | (go_at_call 179; refine (HLI.out _).mono ?_; rintro e w3 ⟨A3, c3, rfl, HL3⟩; have HK3 := H_ (HK1.out.trans HL3.out.2.1 fun _ _ h => h))
  | (go_at_call 128; refine (HJO.out _ A3 c3 (Rd.of_own HL3.out.1)).mono ?_; rintro e w4 ⟨g4, c4, rfl, HM4⟩)
  | (go_at_call 127; refine (HHA.out w3 w4 g4 c4 HK3.out HM4.out).mono ?_; rintro e w6 ⟨rfl, E6, hT6⟩; have HT6 := H_ hT6; have HZ3 := H_ (HL3.out.2.1.blk HZ1.out fun h => h); have HZ6 := H_ (hT6.keep.blk HZ3.out HNE.out); clear hT6)
  | ((with_reducible show wpList _ _ _ (⟨none, Op.store 144 _ _, _, _, _, _⟩ :: _) _ _); refine wpList_store_whole rfl 144 _ _ rfl DV rfl rfl HZ6.out (by rw [HDL.out]; simp) HIN.out HD1.out ?_))
 refine bodyPost_ret (results_blk rfl _ _ rfl (HZ6.out.setRow DV) Tryz.underlying144 rfl HIN.out) rfl ⟨rfl, E6, ?_⟩
 exact rfin HT6.out HK3.out HZ3.out HNE.out (by have := HNN.out; omega) _
theorem rrow_more {p : Nat} (n : Nat) (ih : ∀ m, m < n → ∀ (E : Nat → Prop) (w : World) (l : List (List Int)) (A : Option Addr) (c : Nat) (ds : List (List Int)), RRowIn p E w l A m c ds → Calls Tryz.prog 130 #[.pointer (some ⟨p, 0, none⟩), .slice A m c] w (RRowPost p E w l ds))
  (h2 : 2 ≤ n) {E : Nat → Prop} {w : World} {l : List (List Int)} {A : Option Addr} {c : Nat} {ds : List (List Int)} (h : RRowIn p E w l A n c ds) :
  Calls Tryz.prog 130 #[.pointer (some ⟨p, 0, none⟩), .slice A n c] w (RRowPost p E w l ds) := by
 have hdl : ds.length = n := h.rd.1
 have hs0 := spl_pos n
 have hs1 := spl_lt h2
 unfold RRowPost
 rw [rowD_two (by omega), allTx_ne (by rintro rfl; simp at hdl; omega), rowTx_two (by omega), hdl]
 obtain ⟨k, hk⟩ : ∃ k, k = spl n := ⟨_, rfl⟩
 rw [← hk] at hs0 hs1 ⊢
 obtain ⟨DA, hDA⟩ : ∃ DA, DA = rowD (ds.take k) := ⟨_, rfl⟩
 obtain ⟨DB, hDB⟩ : ∃ DB, DB = rowD (ds.drop k) := ⟨_, rfl⟩
 obtain ⟨LA, hLA⟩ : ∃ LA, LA = rowTx (ds.take k) := ⟨_, rfl⟩
 obtain ⟨LB, hLB⟩ : ∃ LB, LB = rowTx (ds.drop k) := ⟨_, rfl⟩
 have hea : allTx (ds.take k) = LA := by rw [hLA]; exact allTx_ne (by intro e; have := congrArg List.length e; rw [List.length_take, hdl] at this; simp at this; omega)
 have heb : allTx (ds.drop k) = LB := by rw [hLB]; exact allTx_ne (by intro e; have := congrArg List.length e; rw [List.length_drop, hdl] at this; simp at this; omega)
 have HDA : Hid (DA.length = 32 ∧ IsBytes DA) := H_ (by rw [hDA]; exact ⟨rowD_len _, rowD_bytes _⟩)
 have HDB : Hid (DB.length = 32 ∧ IsBytes DB) := H_ (by rw [hDB]; exact ⟨rowD_len _, rowD_bytes _⟩)
 have hla : LA.length ≤ 2 * k - 1 := by rw [hLA]; exact (rowTx_len k _ (by rw [List.length_take, hdl]; omega)).2 (by omega)
 have hlb : LB.length ≤ 2 * (n - k) - 1 := by rw [hLB]; exact (rowTx_len (n - k) _ (by rw [List.length_drop, hdl])).2 (by omega)
 rw [← hDA, ← hDB, ← hLA, ← hLB]
 obtain ⟨X, hX⟩ : ∃ X, X = nodeT DA DB := ⟨_, rfl⟩
 have hX2 : X = 1 :: (DA ++ DB) := by rw [hX]; rfl
 have hpd : pairD DA DB = hsh X := by rw [hX]; rfl
 have hXB : IsBytes X := by
  rw [hX2]
  intro x hx
  rcases List.mem_cons.1 hx with rfl | hx
  ·omega
  ·exact (List.mem_append.1 hx).elim (HDA.out.2 x) (HDB.out.2 x)
 have hXl : X.length = 65 := by rw [hX2]; simp [HDA.out.1, HDB.out.1]
 rw [hpd, ← hX, ← List.append_assoc, ← List.append_assoc]
 obtain ⟨DV, hDV⟩ : ∃ DV, DV = vb (hsh X) := ⟨_, rfl⟩
 have HD1 : Hid (∀ u ∈ DV, u.oneCell' = true) := H_ (by rw [hDV]; exact vb_one _)
 have HDL : Hid (DV.length = 32) := H_ (by rw [hDV]; simp [vb, hsh_len])
 have HIN : Hid ((Tryz.prog.info? 144).map (·.size) = some DV.length) := H_ (infoRD DV HDL.out)
 obtain ⟨AV, hAV⟩ : ∃ AV, AV = vb DA := ⟨_, rfl⟩
 obtain ⟨BV, hBV⟩ : ∃ BV, BV = vb DB := ⟨_, rfl⟩
 have HAL : Hid (AV.length = 32) := H_ (by rw [hAV, vb_length]; exact HDA.out.1)
 have HBL : Hid (BV.length = 32) := H_ (by rw [hBV, vb_length]; exact HDB.out.1)
 have HA1 : Hid (∀ u ∈ AV, u.oneCell' = true) := H_ (by rw [hAV]; exact vb_one _)
 have HB1 : Hid (∀ u ∈ BV, u.oneCell' = true) := H_ (by rw [hBV]; exact vb_one _)
 have HAI : Hid ((Tryz.prog.info? 144).map (·.size) = some AV.length) := H_ (infoRD AV HAL.out)
 have HBI : Hid ((Tryz.prog.info? 144).map (·.size) = some BV.length) := H_ (infoRD BV HBL.out)
 have hcu1 := fun W => cutD_h (P := Tryz.prog) (T := 147) (e := 144) Tryz.underlying147 (by kernel_rfl) A n c k (k : Int) rfl (by have := h.cap; omega) W
 have hcu2 := fun W => cutD_l (P := Tryz.prog) (T := 147) (e := 144) Tryz.underlying147 (by kernel_rfl) A n c k (k : Int) rfl (by omega) W
 have HC1 : Hid (∀ w1, Keeps (fun _ => False) w w1 → Calls Tryz.prog 130 #[.pointer (some ⟨p, 0, none⟩), .slice (cutD A c 0) k c] w1 fun e w' => e = .returned (.agg AV.toArray) ∧ ∃ E', Took (RgSt p) E E' w1 w' (l ++ LA)) := H_ fun w1 k1 => by
  have hr1 : RdD w1 (cutD A c 0) k (ds.take k) := by
   have := (h.rd.keep k1 (no_out _ _)).take (k := k) (by omega)
   have := this.cut (k := 0) (c := c) (by omega) (by have := h.cap; omega)
   simpa using this
  have ho1 : Out E (cutD A c 0) k := by
   have := (h.out.cutD (k := 0) (c := c) (by omega))
   exact fun hn => this (by omega)
  have := ih k hs1 E w1 l (cutD A c 0) c (ds.take k) ⟨h.st.stay (rgLasts p) k1, by have := h.room; omega, hr1, ho1, by have := h.cap; omega, by have := h.few; omega⟩
  unfold RRowPost at this
  rwa [← hDA, hea, ← hAV] at this
 have HC2 : Hid (∀ w1 w2 w3 E1, Keeps (fun _ => False) w w1 → Took (RgSt p) E E1 w1 w2 (l ++ LA) → Keeps (fun _ => False) w2 w3 → Calls Tryz.prog 130 #[.pointer (some ⟨p, 0, none⟩), .slice (cutD A c k) (n - k) (c - k)] w3 fun e w' => e = .returned (.agg BV.toArray) ∧ ∃ E', Took (RgSt p) E1 E' w3 w' (l ++ LA ++ LB)) := H_ fun w1 w2 w3 E1 k1 ht k3 => by
  have hst := ((h.st.stay (rgLasts p) k1).next ht).stay (rgLasts p) k3
  have hr1 : RdD w3 (cutD A c k) (n - k) (ds.drop k) := (((h.rd.keep k1 (no_out _ _)).keep ht.keep h.out).keep k3 (no_out _ _)).cut (by omega) h.cap
  have ho1 : Out E1 (cutD A c k) (n - k) := by
   have h3 : Out E1 A n := fun hn ad e he => by
    obtain ⟨_, _, e4, hlt⟩ := h.rd.2.2.lt (by omega)
    rw [e] at e4
    injection e4 with e4
    subst e4
    exact (ht.new _ he).elim (h.out hn _ e) fun h5 => by have := k1.size; have : _ < w.heap.size := hlt; simp only at h5; omega
   exact h3.cutD (by omega)
  have := ih (n - k) (by omega) E1 w3 (l ++ LA) (cutD A c k) (c - k) (ds.drop k) ⟨hst, by rw [List.length_append]; have := h.room; omega, hr1, ho1, by have := h.cap; omega, by have := h.few; omega⟩
  unfold RRowPost at this
  rwa [← hDB, heb, ← hBV] at this
 have HHL : Hid (∀ W, Calls Tryz.prog 154 #[.int .i64 n] W fun e w' => e = .returned (.int .i64 (k : Nat)) ∧ w' = W) := H_ fun W => by rw [hk]; exact rhalf_any n W h2 (by have := h.few; omega)
 have HLA : Hid (∀ W, Calls Tryz.prog 179 #[.agg AV.toArray] W fun e w' => ∃ A c', e = .returned (.slice A 32 c') ∧ Hid (Mine W w' 5 A 32 c' (vb DA))) := H_ fun W => by rw [hAV]; exact rlist_any W DA HDA.out.1
 have HLB : Hid (∀ W, Calls Tryz.prog 179 #[.agg BV.toArray] W fun e w' => ∃ A c', e = .returned (.slice A 32 c') ∧ Hid (Mine W w' 5 A 32 c' (vb DB))) := H_ fun W => by rw [hBV]; exact rlist_any W DB HDB.out.1
 have HJO : Hid (∀ W A c B d, Rd W A 32 (vb DA) → Rd W B 32 (vb DB) → Calls Tryz.prog 128 #[.int .u8 1, .slice A 32 c, .slice B 32 d] W fun e w' => ∃ g c', e = .returned (.slice (some ⟨g, 0, none⟩) 65 c') ∧ Hid (Mine W w' 5 (some ⟨g, 0, none⟩) 65 c' (vb X))) := H_ fun W A c B d h1 h2 => (rjoined_any W 1 A 32 c DA HDA.out.1 h1 (by omega) B 32 d DB HDB.out.1 h2 (by omega)).mono fun e w' ⟨g, c', h3, h4⟩ => ⟨g, c', h3, H_ (by rw [hX2]; exact h4)⟩
 have HHA : Hid (∀ E2 w5 w6 w7 g c, Tkg (RgSt p) E2 w5 (l ++ LA ++ LB) → Keeps (fun _ => False) w5 w6 → Mine w6 w7 5 (some ⟨g, 0, none⟩) 65 c (vb X) → Calls Tryz.prog 127 #[.pointer (some ⟨p, 0, none⟩), .slice (some ⟨g, 0, none⟩) 65 c] w7 fun e w' => e = .returned (.agg DV.toArray) ∧ ∃ E', Took (RgSt p) E2 E' w6 w' (l ++ LA ++ LB ++ [X])) := H_ fun E2 w5 w6 w7 g c h0 h1 h2 => rhash_mine h0 (by rw [List.length_append, List.length_append]; have := h.room; omega) h1 hDV hXl (by omega) h2 hXB
 have hn0 : ((n : Int) == 0) = false := by simp; omega
 have hn1 : ((n : Int) == 1) = false := by simp; omega
 obtain ⟨N0, hN0⟩ : ∃ N0, N0 = w.heap.size := ⟨_, rfl⟩
 have HNE : Hid (∀ i, N0 ≤ i → ¬ E i) := H_ fun i hi he => by have := h.st.lt _ he; omega
 have HW1 : Hid (Keeps (fun _ => False) w (w.alloc (.cells (List.replicate 32 (Value.int .u8 0)).toArray 144)) ∧ Blk (w.alloc (.cells (List.replicate 32 (Value.int .u8 0)).toArray 144)) N0 144 (List.replicate 32 (Value.int .u8 0))) := H_ ⟨(Keeps.refl _ w).alloc _, by rw [hN0]; exact Blk.new _ _ _⟩
 have HNN := H_ hN0
 have HST := H_ h.st
 rw [← hDV]
 clear h hX hX2 hXB hXl hDV hN0 hla hlb hpd hDA hDB hLA hLB hdl ih hk hea heb hAV hBV
 go_enter Tryz.func130, Tryz.ntmps130
 go_upto_region 6 with fail
 refine gen_codeF (fun W => Keeps (fun _ => False) w W ∧ Blk W N0 144 (List.replicate 32 (Value.int .u8 0))) HW1.out ?_
 rintro w1 ⟨k1, z1⟩
 have hNN := HNN.out
 rw [← hNN]
 clear hNN
 have HK1 := H_ k1
 have HZ1 := H_ z1
 clear k1 z1
 go_upto_region 7 with (first
  | (go_at_call 154; refine (HHL.out _).mono ?_; rintro e w9 ⟨rfl, hw9⟩; have hw8 := hw9.symm; clear hw9; subst hw8)
  | (go_at_call 130; refine (HC1.out _ HK1.out).mono ?_; rintro e w3 ⟨rfl, E3, hT3⟩; have HT3 := H_ hT3; have HZ3 := H_ (Blk.new w3 144 (List.replicate 32 (Value.int .u8 0))); clear hT3)
  | ((with_reducible show wpList _ _ _ (⟨none, Op.store 144 _ _, _, _, _, _⟩ :: _) _ _); refine wpList_store_whole rfl 144 _ _ rfl AV rfl rfl HZ3.out (by rw [HAL.out]; simp) HAI.out HA1.out ?_))
 obtain ⟨P3, hP3⟩ : ∃ P3, P3 = w3.heap.size := ⟨_, rfl⟩
 have HW4 : Hid (Keeps (fun _ => False) w3 ((w3.alloc (.cells (List.replicate 32 (Value.int .u8 0)).toArray 144)).setRow w3.heap.size AV.toArray) ∧ Blk ((w3.alloc (.cells (List.replicate 32 (Value.int .u8 0)).toArray 144)).setRow w3.heap.size AV.toArray) P3 144 AV) := H_ ⟨((Keeps.refl (fun _ => False) w3).alloc _).setRow (.inr (Nat.le_refl _)) _, by rw [hP3]; exact HZ3.out.setRow AV⟩
 rw [← hP3] at HW4 ⊢
 have HP3 := H_ hP3
 clear hP3
 refine gen_codeF (fun W => Keeps (fun _ => False) w3 W ∧ Blk W P3 144 AV) HW4.out ?_
 rintro w4 ⟨k4, b4⟩
 have HK4 := H_ k4
 have HB4 := H_ b4
 clear k4 b4 HW4
 go_upto_region 8 with (first
  | (go_at_call 154; refine (HHL.out _).mono ?_; rintro e w9 ⟨rfl, hw9⟩; have hw8 := hw9.symm; clear hw9; subst hw8)
  | (go_at_call 130; refine (HC2.out w1 w3 w4 E3 HK1.out HT3.out HK4.out).mono ?_; rintro e w5 ⟨rfl, E5, hT5⟩; have HT5 := H_ hT5; have HZ5 := H_ (Blk.new w5 144 (List.replicate 32 (Value.int .u8 0))); clear hT5)
  | ((with_reducible show wpList _ _ _ (⟨none, Op.store 144 _ _, _, _, _, _⟩ :: _) _ _); refine wpList_store_whole rfl 144 _ _ rfl BV rfl rfl HZ5.out (by rw [HBL.out]; simp) HBI.out HB1.out ?_))
 obtain ⟨P5, hP5⟩ : ∃ P5, P5 = w5.heap.size := ⟨_, rfl⟩
 have HW6 : Hid (Keeps (fun _ => False) w5 ((w5.alloc (.cells (List.replicate 32 (Value.int .u8 0)).toArray 144)).setRow w5.heap.size BV.toArray) ∧ Blk ((w5.alloc (.cells (List.replicate 32 (Value.int .u8 0)).toArray 144)).setRow w5.heap.size BV.toArray) P5 144 BV) := H_ ⟨((Keeps.refl (fun _ => False) w5).alloc _).setRow (.inr (Nat.le_refl _)) _, by rw [hP5]; exact HZ5.out.setRow BV⟩
 rw [← hP5] at HW6 ⊢
 clear hP5
 refine gen_codeF (fun W => Keeps (fun _ => False) w5 W ∧ Blk W P5 144 BV) HW6.out ?_
 rintro w6 ⟨k6, b6⟩
 have HN3 : Hid (¬ E3 P3 ∧ ¬ E3 N0) := H_ ⟨fun he => by have := HT3.out.lt _ he; have := HP3.out; omega, fun he => (HT3.out.new _ he).elim (HNE.out _ (Nat.le_refl _)) fun h5 => by have := HZ1.out.lt; omega⟩
 have HN5 : Hid (¬ E5 N0) := H_ fun he => (HT5.out.new _ he).elim HN3.out.2 fun h5 => by have := HZ1.out.lt; have := HT3.out.keep.size; have := HK4.out.size; omega
 have HB6 : Hid (Blk w6 P3 144 AV ∧ Blk w6 P5 144 BV ∧ Blk w6 N0 144 (List.replicate 32 (Value.int .u8 0))) := H_ ⟨k6.blk (HT5.out.keep.blk HB4.out HN3.out.1) fun h => h, b6, k6.blk (HT5.out.keep.blk (HK4.out.blk (HT3.out.keep.blk HZ1.out (HNE.out _ (Nat.le_refl _))) fun h => h) HN3.out.2) fun h => h⟩
 have HG6 : Hid (Tkg (RgSt p) E5 w6 (l ++ LA ++ LB)) := H_ ((((HST.out.stay (rgLasts p) HK1.out).next HT3.out).stay (rgLasts p) HK4.out |>.next HT5.out).stay (rgLasts p) k6)
 have HK6 := H_ k6
 clear k6 b6 HW6
 refine wp_region_tail (S := (fun V => Keeps (fun _ => False) w6 V)) 5 (by kernel_rfl) (Keeps.refl _ _).drew (fun h_ => ?_)
 refine tJ 0 36 ?_
 try simp only [pu]
 refine tT [1, 2, 5] (i := 1) (oi := ⟨some 37, _, _, _, _, _⟩) (v := _) rfl (yieldsIf_load_mid (by rfl) _ _ rfl _ _ rfl AV _ (fun w' h => rdg_rng (h.blk HB6.out.1 fun h => h)) Tryz.underlying144 rfl HAI.out) h_ ?_
 try simp only [pu]
 refine tT [3, 4, 5] (i := 3) (oi := ⟨some 39, _, _, _, _, _⟩) (v := _) rfl (yieldsIf_load_mid (by rfl) _ _ rfl _ _ rfl BV _ (fun w' h => rdg_rng (h.blk HB6.out.2.1 fun h => h)) Tryz.underlying144 rfl HBI.out) h_ ?_
 try simp only [pu]
 refine wpAnyT_step (i := 2) (o := ⟨some 38, _, _, _, _, _⟩) (by kernel_rfl) rfl (fun K hK => ?_)
 go_simp
 refine (HLA.out _).mono ?_
 rintro e w7 ⟨A7, c7, rfl, HE7⟩
 have hS7 := h_.trans HE7.out.2.1 (fun _ _ h => h)
 refine hK.out _ _ hS7 (fun h_ => ?_)
 clear hK K
 try simp only [pu]
 refine wpAnyT_step (i := 4) (o := ⟨some 40, _, _, _, _, _⟩) (by kernel_rfl) rfl (fun K hK => ?_)
 go_simp
 refine (HLB.out _).mono ?_
 rintro e w8 ⟨A8, c8, rfl, HE8⟩
 have hS8 := h_.trans HE8.out.2.1 (fun _ _ h => h)
 refine hK.out _ _ hS8 (fun h_ => ?_)
 clear hK K
 try simp only [pu]
 refine wpAnyT_tail (i := 5) (o := ⟨some 41, _, _, _, _, _⟩) (by kernel_rfl) (by kernel_rfl) rfl (fun K hK => ?_)
 go_simp
 refine (HJO.out w8 A7 c7 A8 c8 ((Rd.of_own HE7.out.1).keep HE8.out.2.1 (no_out _ _)) (Rd.of_own HE8.out.1)).mono ?_
 rintro e w9 ⟨g9, c9, rfl, HM9⟩
 refine hK.out _ _ ?_
 clear hK K
 try simp only [pu]
 refine wpAnyT_tail (i := 6) (o := ⟨some 42, _, _, _, _, _⟩) (by kernel_rfl) (by kernel_rfl) rfl (fun K hK => ?_)
 go_simp
 refine (HHA.out E5 w6 w8 w9 g9 c9 HG6.out hS8 HM9.out).mono ?_
 rintro e w10 ⟨rfl, E10, hT10⟩
 have HT10 := H_ hT10; have HZ10 := H_ (hT10.keep.blk (hS8.blk HB6.out.2.2 fun h => h) HN5.out)
 refine hK.out _ _ ?_
 clear hK K
 try simp only [pu]
 refine wpAnyT_tail (i := 7) (o := ⟨none, _, _, _, _, _⟩) (by kernel_rfl) (by kernel_rfl) rfl (fun K hK => ?_)
 refine step_store_whole rfl 144 (.tmp 4) (.tmp 42) rfl DV rfl rfl HZ10.out (by rw [HDL.out]; simp) HIN.out HD1.out ?_
 refine hK.out _ _ ?_
 clear hK K
 try simp only [pu]
 refine wpAnyT_done (by kernel_rfl) ?_
 go_wp2
 refine bodyPost_ret (results_blk rfl _ _ rfl (HZ10.out.setRow DV) Tryz.underlying144 rfl HIN.out) rfl ⟨rfl, E10, ?_⟩
 have ht : Took (RgSt p) E E5 w w8 (l ++ LA ++ LB) := Took.begin HK1.out ((((HT3.out.stay (rgLasts p) HK4.out).trans HT5.out).stay (rgLasts p) HK6.out).stay (rgLasts p) hS8)
 refine (ht.trans HT10.out).more (rgLasts p) (setRow_keep _ _ _) fun i hi => ?_
 subst hi
 refine ⟨by have := HNN.out; omega, fun he => ?_⟩
 rcases HT10.out.new _ he with h1 | h1
 ·exact HN5.out h1
 ·have h2 := (hS8.blk HB6.out.2.2 fun h => h).lt
  omega
theorem rlrow_any {p : Nat} : ∀ (n : Nat) (E : Nat → Prop) (w : World) (l : List (List Int)) (A : Option Addr) (c : Nat) (ds : List (List Int)), RRowIn p E w l A n c ds → Calls Tryz.prog 130 #[.pointer (some ⟨p, 0, none⟩), .slice A n c] w (RRowPost p E w l ds) := by
 intro n
 induction n using Nat.strongRecOn with
 | _ n ih =>
  intro E w l A c ds h
  by_cases h0 : n = 0
  ·subst h0
   exact rrow_none h
  ·by_cases h1 : n = 1
   ·subst h1
    match ds, h with
    | [d], h => exact rrow_one h
    | [], h => have := h.rd.1; simp at this
    | _ :: _ :: _, h => have := h.rd.1; simp at this
   ·exact rrow_more n ih (by omega) h
end Go.Proofs.YtplleficmkfniaaGreatDoor
