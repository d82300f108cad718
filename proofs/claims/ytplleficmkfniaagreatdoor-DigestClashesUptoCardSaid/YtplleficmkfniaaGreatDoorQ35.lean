/- Texts. -/
import Derived.Test.YtplleficmkfniaaGreatDoorQ34
import Derived.Test.YtplleficmkfniaaGreatDoorQ29
set_option linter.unusedSimpArgs false
set_option maxRecDepth 100000
set_option maxHeartbeats 4000000
namespace Go.Proofs.YtplleficmkfniaaGreatDoor
open Go Go.RowKit Go.Aff Go.Json Go.Sha Go.Dig Go.Book
attribute [local go_sem] Oper.semAt_some
structure RBox2 (w : World) (N : Nat) (SV : List Value) (W : World) : Prop where
 keep : Keeps (fun _ => False) w W
 blk : Blk W N 80 SV
 zero : Blk W (N + 1) 144 (List.replicate 32 (Value.int .u8 0))
theorem RBox2.made (w : World) (SV : List Value) : RBox2 w w.heap.size SV ((w.alloc (.cells SV.toArray 80)).alloc (.cells (List.replicate 32 (Value.int .u8 0)).toArray 144)) := by
 refine ⟨((Keeps.refl _ w).alloc _).alloc _, (Blk.new _ _ _).alloc _, ?_⟩
 have h := Blk.new (w.alloc (.cells SV.toArray 80)) 144 (List.replicate 32 (Value.int .u8 0))
 rwa [World.size_alloc] at h
theorem RBox2.stay {w W W' : World} {N : Nat} {SV : List Value} (h : RBox2 w N SV W) (k : Keeps (fun _ => False) W W') : RBox2 w N SV W' := ⟨h.keep.trans k fun _ _ h => h, k.blk h.blk fun h => h, k.blk h.zero fun h => h⟩
theorem rof_null {p : Nat} {D E : Nat → Prop} {w : World} {l : List (List Int)} {v : List Value} (h : RvIn p D E w l v (JV.null)) :
  Calls Tryz.prog 61 #[.pointer (some ⟨p, 0, none⟩), .agg v.toArray] w (ROfPost p E w l (JV.null)) := by
 obtain ⟨A, c, B, d, cs, rfl, hA, oA, hB, oB, hI⟩ := h.at_.form
 unfold ROfPost
 obtain ⟨N, hN⟩ : ∃ N, N = w.heap.size := ⟨_, rfl⟩
 obtain ⟨SV, hSV⟩ : ∃ SV, SV = refC (JV.null) A c B d := ⟨_, rfl⟩
 have HC : Hid (SV[0]? = some (.int .i64 1) ∧ SV[1]? = some (.bool false)) := H_ (by rw [hSV]; exact ⟨rfl, rfl⟩)
 obtain ⟨X, hX⟩ : ∃ X : List Int, X = [110] := ⟨_, rfl⟩
 have hdg : ((JV.null)).dg = hsh X := by rw [JV.dg, hX]; first | done | rfl
 have htx : ((JV.null)).tx = [X] := by rw [JV.tx, hX]; first | done | rfl
 obtain ⟨DV, hDV⟩ : ∃ DV, DV = vb (hsh X) := ⟨_, rfl⟩
 have HD1 : Hid (∀ u ∈ DV, u.oneCell' = true) := H_ (by rw [hDV]; exact vb_one _)
 have HDL : Hid (DV.length = 32) := H_ (by rw [hDV, vb_length]; exact hsh_len _)
 have HIN : Hid ((Tryz.prog.info? 144).map (·.size) = some DV.length) := H_ (infoRD DV HDL.out)
 have HBX := H_ (RBox2.made w SV)
 rw [← hN] at HBX
 have HNE : Hid (∀ i, N ≤ i → ¬ E i) := H_ fun i hi he => by have := h.st.lt _ he; omega
 have HNN := H_ hN
 have HST := H_ h.st
 have HL : Hid (l.length ≤ 1099511627776) := H_ (by have := h.room; omega)
 rw [hdg, htx, ← hDV, ← hSV]
 subst hX
 have HDV := H_ hDV
 clear hDV
 clear h hA oA hB oB hI hdg htx hN hSV
 go_enter Tryz.func61, Tryz.ntmps61
 go_upto_region 1 with fail
 refine gen_codeF (fun W => RBox2 w N SV W) (by have hh := HBX.out; have := HNN.out; subst this; exact hh) ?_
 intro w1 hb1
 have hNN := HNN.out
 rw [← hNN]
 clear hNN
 have c0 := (hb1.blk.cell 0).trans HC.out.1
 have c1 := (hb1.blk.cell 1).trans HC.out.2
 have HB1 := H_ hb1
 clear hb1
 have HHA := H_ (fun W (hW : Keeps (fun _ => False) w W) => rhash_byte HST.out HL.out hW 110 (by omega) HDV.out)
 go_wp2_with (first
  | (go_at_call 127; refine (HHA.out _ HB1.out.keep).mono ?_; rintro e w6 ⟨rfl, E6, hT6⟩; have HT6 := H_ hT6; have HZ6 := H_ (hT6.keep.blk HB1.out.zero (HNE.out _ (by omega))); clear hT6)
  | ((with_reducible show wpList _ _ _ (⟨none, Op.store 144 _ _, _, _, _, _⟩ :: _) _ _); refine wpList_store_whole rfl 144 _ _ rfl DV rfl rfl HZ6.out (by rw [HDL.out]; simp) HIN.out HD1.out ?_))
 refine bodyPost_ret (results_blk rfl _ _ rfl (HZ6.out.setRow DV) Tryz.underlying144 rfl HIN.out) rfl ⟨rfl, E6, ?_⟩
 exact rfin HT6.out HB1.out.keep HB1.out.zero (HNE.out _ (by omega)) (by have := HNN.out; omega) _
theorem rof_yes {p : Nat} {D E : Nat → Prop} {w : World} {l : List (List Int)} {v : List Value} (h : RvIn p D E w l v (JV.flag true)) :
  Calls Tryz.prog 61 #[.pointer (some ⟨p, 0, none⟩), .agg v.toArray] w (ROfPost p E w l (JV.flag true)) := by
 obtain ⟨A, c, B, d, cs, rfl, hA, oA, hB, oB, hI⟩ := h.at_.form
 unfold ROfPost
 obtain ⟨N, hN⟩ : ∃ N, N = w.heap.size := ⟨_, rfl⟩
 obtain ⟨SV, hSV⟩ : ∃ SV, SV = refC (JV.flag true) A c B d := ⟨_, rfl⟩
 have HC : Hid (SV[0]? = some (.int .i64 2) ∧ SV[1]? = some (.bool true)) := H_ (by rw [hSV]; exact ⟨rfl, rfl⟩)
 obtain ⟨X, hX⟩ : ∃ X : List Int, X = [116] := ⟨_, rfl⟩
 have hdg : ((JV.flag true)).dg = hsh X := by rw [JV.dg, hX]; first | done | rfl
 have htx : ((JV.flag true)).tx = [X] := by rw [JV.tx, hX]; first | done | rfl
 obtain ⟨DV, hDV⟩ : ∃ DV, DV = vb (hsh X) := ⟨_, rfl⟩
 have HD1 : Hid (∀ u ∈ DV, u.oneCell' = true) := H_ (by rw [hDV]; exact vb_one _)
 have HDL : Hid (DV.length = 32) := H_ (by rw [hDV, vb_length]; exact hsh_len _)
 have HIN : Hid ((Tryz.prog.info? 144).map (·.size) = some DV.length) := H_ (infoRD DV HDL.out)
 have HBX := H_ (RBox2.made w SV)
 rw [← hN] at HBX
 have HNE : Hid (∀ i, N ≤ i → ¬ E i) := H_ fun i hi he => by have := h.st.lt _ he; omega
 have HNN := H_ hN
 have HST := H_ h.st
 have HL : Hid (l.length ≤ 1099511627776) := H_ (by have := h.room; omega)
 rw [hdg, htx, ← hDV, ← hSV]
 subst hX
 have HDV := H_ hDV
 clear hDV
 clear h hA oA hB oB hI hdg htx hN hSV
 go_enter Tryz.func61, Tryz.ntmps61
 go_upto_region 1 with fail
 refine gen_codeF (fun W => RBox2 w N SV W) (by have hh := HBX.out; have := HNN.out; subst this; exact hh) ?_
 intro w1 hb1
 have hNN := HNN.out
 rw [← hNN]
 clear hNN
 have c0 := (hb1.blk.cell 0).trans HC.out.1
 have c1 := (hb1.blk.cell 1).trans HC.out.2
 have HB1 := H_ hb1
 clear hb1
 have HHA := H_ (fun W (hW : Keeps (fun _ => False) w W) => rhash_byte HST.out HL.out hW 116 (by omega) HDV.out)
 go_wp2_with (first
  | (go_at_call 127; refine (HHA.out _ HB1.out.keep).mono ?_; rintro e w6 ⟨rfl, E6, hT6⟩; have HT6 := H_ hT6; have HZ6 := H_ (hT6.keep.blk HB1.out.zero (HNE.out _ (by omega))); clear hT6)
  | ((with_reducible show wpList _ _ _ (⟨none, Op.store 144 _ _, _, _, _, _⟩ :: _) _ _); refine wpList_store_whole rfl 144 _ _ rfl DV rfl rfl HZ6.out (by rw [HDL.out]; simp) HIN.out HD1.out ?_))
 refine bodyPost_ret (results_blk rfl _ _ rfl (HZ6.out.setRow DV) Tryz.underlying144 rfl HIN.out) rfl ⟨rfl, E6, ?_⟩
 exact rfin HT6.out HB1.out.keep HB1.out.zero (HNE.out _ (by omega)) (by have := HNN.out; omega) _
theorem rof_no {p : Nat} {D E : Nat → Prop} {w : World} {l : List (List Int)} {v : List Value} (h : RvIn p D E w l v (JV.flag false)) :
  Calls Tryz.prog 61 #[.pointer (some ⟨p, 0, none⟩), .agg v.toArray] w (ROfPost p E w l (JV.flag false)) := by
 obtain ⟨A, c, B, d, cs, rfl, hA, oA, hB, oB, hI⟩ := h.at_.form
 unfold ROfPost
 obtain ⟨N, hN⟩ : ∃ N, N = w.heap.size := ⟨_, rfl⟩
 obtain ⟨SV, hSV⟩ : ∃ SV, SV = refC (JV.flag false) A c B d := ⟨_, rfl⟩
 have HC : Hid (SV[0]? = some (.int .i64 2) ∧ SV[1]? = some (.bool false)) := H_ (by rw [hSV]; exact ⟨rfl, rfl⟩)
 obtain ⟨X, hX⟩ : ∃ X : List Int, X = [102] := ⟨_, rfl⟩
 have hdg : ((JV.flag false)).dg = hsh X := by rw [JV.dg, hX]; first | done | rfl
 have htx : ((JV.flag false)).tx = [X] := by rw [JV.tx, hX]; first | done | rfl
 obtain ⟨DV, hDV⟩ : ∃ DV, DV = vb (hsh X) := ⟨_, rfl⟩
 have HD1 : Hid (∀ u ∈ DV, u.oneCell' = true) := H_ (by rw [hDV]; exact vb_one _)
 have HDL : Hid (DV.length = 32) := H_ (by rw [hDV, vb_length]; exact hsh_len _)
 have HIN : Hid ((Tryz.prog.info? 144).map (·.size) = some DV.length) := H_ (infoRD DV HDL.out)
 have HBX := H_ (RBox2.made w SV)
 rw [← hN] at HBX
 have HNE : Hid (∀ i, N ≤ i → ¬ E i) := H_ fun i hi he => by have := h.st.lt _ he; omega
 have HNN := H_ hN
 have HST := H_ h.st
 have HL : Hid (l.length ≤ 1099511627776) := H_ (by have := h.room; omega)
 rw [hdg, htx, ← hDV, ← hSV]
 subst hX
 have HDV := H_ hDV
 clear hDV
 clear h hA oA hB oB hI hdg htx hN hSV
 go_enter Tryz.func61, Tryz.ntmps61
 go_upto_region 1 with fail
 refine gen_codeF (fun W => RBox2 w N SV W) (by have hh := HBX.out; have := HNN.out; subst this; exact hh) ?_
 intro w1 hb1
 have hNN := HNN.out
 rw [← hNN]
 clear hNN
 have c0 := (hb1.blk.cell 0).trans HC.out.1
 have c1 := (hb1.blk.cell 1).trans HC.out.2
 have HB1 := H_ hb1
 clear hb1
 have HHA := H_ (fun W (hW : Keeps (fun _ => False) w W) => rhash_byte HST.out HL.out hW 102 (by omega) HDV.out)
 go_wp2_with (first
  | (go_at_call 127; refine (HHA.out _ HB1.out.keep).mono ?_; rintro e w6 ⟨rfl, E6, hT6⟩; have HT6 := H_ hT6; have HZ6 := H_ (hT6.keep.blk HB1.out.zero (HNE.out _ (by omega))); clear hT6)
  | ((with_reducible show wpList _ _ _ (⟨none, Op.store 144 _ _, _, _, _, _⟩ :: _) _ _); refine wpList_store_whole rfl 144 _ _ rfl DV rfl rfl HZ6.out (by rw [HDL.out]; simp) HIN.out HD1.out ?_))
 refine bodyPost_ret (results_blk rfl _ _ rfl (HZ6.out.setRow DV) Tryz.underlying144 rfl HIN.out) rfl ⟨rfl, E6, ?_⟩
 exact rfin HT6.out HB1.out.keep HB1.out.zero (HNE.out _ (by omega)) (by have := HNN.out; omega) _
theorem rof_num {p : Nat} {D E : Nat → Prop} {w : World} {l : List (List Int)} {v : List Value} {b : Nat} (hb : b < 18446744073709551616) (h : RvIn p D E w l v (JV.num b)) :
  Calls Tryz.prog 61 #[.pointer (some ⟨p, 0, none⟩), .agg v.toArray] w (ROfPost p E w l (JV.num b)) := by
 obtain ⟨A, c, B, d, cs, rfl, hA, oA, hB, oB, hI⟩ := h.at_.form
 unfold ROfPost
 obtain ⟨N, hN⟩ : ∃ N, N = w.heap.size := ⟨_, rfl⟩
 obtain ⟨SV, hSV⟩ : ∃ SV, SV = refC (JV.num b) A c B d := ⟨_, rfl⟩
 have HC : Hid (SV[0]? = some (.int .i64 3) ∧ SV[2]? = some (.int .u64 b)) := H_ (by rw [hSV]; exact ⟨rfl, rfl⟩)
 obtain ⟨X, hX⟩ : ∃ X : List Int, X = 100 :: eight b := ⟨_, rfl⟩
 have hdg : ((JV.num b)).dg = hsh X := by rw [JV.dg, hX]; first | done | rfl
 have htx : ((JV.num b)).tx = [X] := by rw [JV.tx, hX]; first | done | rfl
 obtain ⟨DV, hDV⟩ : ∃ DV, DV = vb (hsh X) := ⟨_, rfl⟩
 have HD1 : Hid (∀ u ∈ DV, u.oneCell' = true) := H_ (by rw [hDV]; exact vb_one _)
 have HDL : Hid (DV.length = 32) := H_ (by rw [hDV, vb_length]; exact hsh_len _)
 have HIN : Hid ((Tryz.prog.info? 144).map (·.size) = some DV.length) := H_ (infoRD DV HDL.out)
 have HBX := H_ (RBox2.made w SV)
 rw [← hN] at HBX
 have HNE : Hid (∀ i, N ≤ i → ¬ E i) := H_ fun i hi he => by have := h.st.lt _ he; omega
 have HNN := H_ hN
 have HST := H_ h.st
 have HL : Hid (l.length ≤ 1099511627776) := H_ (by have := h.room; omega)
 rw [hdg, htx, ← hDV, ← hSV]
 have hXB : IsBytes X := by
  rw [hX]
  intro x hx
  rcases List.mem_cons.1 hx with rfl | hx
  ·omega
  ·exact eight_bytes b x hx
 have hXl : X.length = 8 + 1 := by rw [hX, List.length_cons, eight_len]
 have HJO : Hid (∀ W A c, Rd W A 8 (vb (eight b)) → Calls Tryz.prog 128 #[.int .u8 100, .slice A 8 c, .slice none 0 0] W fun e w' => ∃ g c', e = .returned (.slice (some ⟨g, 0, none⟩) (8 + 1) c') ∧ Hid (Mine W w' 5 (some ⟨g, 0, none⟩) (8 + 1) c' (vb X))) := H_ fun W A c h1 => (rjoined_any W 100 A 8 c (eight b) (eight_len b) h1 (by omega) none 0 0 [] rfl (Rd.nil _ _) (by omega)).mono fun e w' ⟨g, c', h3, h4⟩ => ⟨g, c', by rw [Nat.add_comm 8 1]; exact h3, H_ (by rw [hX, Nat.add_comm 8 1]; rw [List.append_nil] at h4; exact h4)⟩
 have HHA : Hid (∀ w6 w7 g c, Keeps (fun _ => False) w w6 → Mine w6 w7 5 (some ⟨g, 0, none⟩) (8 + 1) c (vb X) → Calls Tryz.prog 127 #[.pointer (some ⟨p, 0, none⟩), .slice (some ⟨g, 0, none⟩) (8 + 1) c] w7 fun e w' => e = .returned (.agg DV.toArray) ∧ ∃ E', Took (RgSt p) E E' w6 w' (l ++ [X])) := H_ fun w6 w7 g c h1 h2 => rhash_mine HST.out HL.out h1 hDV hXl (by omega) h2 hXB
 clear hXB hXl hX hDV
 have HEI := H_ (fun W => reight_any b W hb)
 clear h hA oA hB oB hI hdg htx hN hSV
 go_enter Tryz.func61, Tryz.ntmps61
 go_upto_region 1 with fail
 refine gen_codeF (fun W => RBox2 w N SV W) (by have hh := HBX.out; have := HNN.out; subst this; exact hh) ?_
 intro w1 hb1
 have hNN := HNN.out
 rw [← hNN]
 clear hNN
 have c0 := (hb1.blk.cell 0).trans HC.out.1
 have c2 := (hb1.blk.cell 2).trans HC.out.2
 have HB1 := H_ hb1
 clear hb1
 go_wp2_with (first
  | (go_at_call 129; refine (HEI.out _).mono ?_; rintro e w3 ⟨A3, c3, rfl, HL3⟩; have HK3 := H_ (HB1.out.stay HL3.out.2.1))
  | (go_at_call 128; refine (HJO.out _ A3 c3 (Rd.of_own HL3.out.1)).mono ?_; rintro e w4 ⟨g4, c4, rfl, HM4⟩)
  | (go_at_call 127; refine (HHA.out w3 w4 g4 c4 HK3.out.keep HM4.out).mono ?_; rintro e w6 ⟨rfl, E6, hT6⟩; have HT6 := H_ hT6; have HZ6 := H_ (hT6.keep.blk HK3.out.zero (HNE.out _ (by omega))); clear hT6)
  | ((with_reducible show wpList _ _ _ (⟨none, Op.store 144 _ _, _, _, _, _⟩ :: _) _ _); refine wpList_store_whole rfl 144 _ _ rfl DV rfl rfl HZ6.out (by rw [HDL.out]; simp) HIN.out HD1.out ?_))
 refine bodyPost_ret (results_blk rfl _ _ rfl (HZ6.out.setRow DV) Tryz.underlying144 rfl HIN.out) rfl ⟨rfl, E6, ?_⟩
 exact rfin HT6.out HK3.out.keep HK3.out.zero (HNE.out _ (by omega)) (by have := HNN.out; omega) _
theorem rof_text {p : Nat} {D E : Nat → Prop} {w : World} {l : List (List Int)} {v : List Value} {s : ByteArray} (hb : s.size ≤ 1099511627000) (h : RvIn p D E w l v (JV.text s)) :
  Calls Tryz.prog 61 #[.pointer (some ⟨p, 0, none⟩), .agg v.toArray] w (ROfPost p E w l (JV.text s)) := by
 obtain ⟨A, c, B, d, cs, rfl, hA, oA, hB, oB, hI⟩ := h.at_.form
 unfold ROfPost
 obtain ⟨N, hN⟩ : ∃ N, N = w.heap.size := ⟨_, rfl⟩
 obtain ⟨SV, hSV⟩ : ∃ SV, SV = refC (JV.text s) A c B d := ⟨_, rfl⟩
 have HC : Hid (SV[0]? = some (.int .i64 4) ∧ SV[3]? = some (.string s)) := H_ (by rw [hSV]; exact ⟨rfl, rfl⟩)
 obtain ⟨X, hX⟩ : ∃ X : List Int, X = 115 :: sb s := ⟨_, rfl⟩
 have hdg : ((JV.text s)).dg = hsh X := by rw [JV.dg, hX]; first | done | rfl
 have htx : ((JV.text s)).tx = [X] := by rw [JV.tx, hX]; first | done | rfl
 obtain ⟨DV, hDV⟩ : ∃ DV, DV = vb (hsh X) := ⟨_, rfl⟩
 have HD1 : Hid (∀ u ∈ DV, u.oneCell' = true) := H_ (by rw [hDV]; exact vb_one _)
 have HDL : Hid (DV.length = 32) := H_ (by rw [hDV, vb_length]; exact hsh_len _)
 have HIN : Hid ((Tryz.prog.info? 144).map (·.size) = some DV.length) := H_ (infoRD DV HDL.out)
 have HBX := H_ (RBox2.made w SV)
 rw [← hN] at HBX
 have HNE : Hid (∀ i, N ≤ i → ¬ E i) := H_ fun i hi he => by have := h.st.lt _ he; omega
 have HNN := H_ hN
 have HST := H_ h.st
 have HL : Hid (l.length ≤ 1099511627776) := H_ (by have := h.room; omega)
 rw [hdg, htx, ← hDV, ← hSV]
 have hXB : IsBytes X := by
  rw [hX]
  intro x hx
  rcases List.mem_cons.1 hx with rfl | hx
  ·omega
  ·exact sb_bytes s x hx
 have hXl : X.length = s.size + 1 := by rw [hX, List.length_cons, sb_len]
 have HJO : Hid (∀ W A c, Rd W A s.size (vb (sb s)) → Calls Tryz.prog 128 #[.int .u8 115, .slice A s.size c, .slice none 0 0] W fun e w' => ∃ g c', e = .returned (.slice (some ⟨g, 0, none⟩) (s.size + 1) c') ∧ Hid (Mine W w' 5 (some ⟨g, 0, none⟩) (s.size + 1) c' (vb X))) := H_ fun W A c h1 => (rjoined_any W 115 A s.size c (sb s) (sb_len s) h1 (by omega) none 0 0 [] rfl (Rd.nil _ _) (by omega)).mono fun e w' ⟨g, c', h3, h4⟩ => ⟨g, c', by rw [Nat.add_comm s.size 1]; exact h3, H_ (by rw [hX, Nat.add_comm s.size 1]; rw [List.append_nil] at h4; exact h4)⟩
 have HHA : Hid (∀ w6 w7 g c, Keeps (fun _ => False) w w6 → Mine w6 w7 5 (some ⟨g, 0, none⟩) (s.size + 1) c (vb X) → Calls Tryz.prog 127 #[.pointer (some ⟨p, 0, none⟩), .slice (some ⟨g, 0, none⟩) (s.size + 1) c] w7 fun e w' => e = .returned (.agg DV.toArray) ∧ ∃ E', Took (RgSt p) E E' w6 w' (l ++ [X])) := H_ fun w6 w7 g c h1 h2 => rhash_mine HST.out HL.out h1 hDV hXl (by omega) h2 hXB
 clear hXB hXl hX hDV
 have hcv : ∀ W, (convert 9 48 (.string s)).run Tryz.prog W = .ok (.slice (some ⟨W.heap.size, 0, none⟩) s.size (grownCap W s.size 0 5)) (Lib.bytesWorld W 5 s) := fun W => Lib.run_convert_string_bytes W _ _ 5 s Tryz.underlying9 Tryz.underlying48 Tryz.underlying5
 clear h hA oA hB oB hI hdg htx hN hSV
 go_enter Tryz.func61, Tryz.ntmps61
 go_upto_region 1 with fail
 refine gen_codeF (fun W => RBox2 w N SV W) (by have hh := HBX.out; have := HNN.out; subst this; exact hh) ?_
 intro w1 hb1
 have hNN := HNN.out
 rw [← hNN]
 clear hNN
 have c0 := (hb1.blk.cell 0).trans HC.out.1
 have c3 := (hb1.blk.cell 3).trans HC.out.2
 have HB1 := H_ hb1
 clear hb1
 have HK3 := H_ (HB1.out.stay (bytesW_keep w1 5 s))
 go_wp2_with (first
  | (go_at_call 128; refine (HJO.out (Lib.bytesWorld w1 5 s) _ _ (bytesW_rd w1 5 s)).mono ?_; rintro e w4 ⟨g4, c4, rfl, HM4⟩)
  | (go_at_call 127; refine (HHA.out (Lib.bytesWorld w1 5 s) w4 g4 c4 HK3.out.keep HM4.out).mono ?_; rintro e w6 ⟨rfl, E6, hT6⟩; have HT6 := H_ hT6; have HZ6 := H_ (hT6.keep.blk HK3.out.zero (HNE.out _ (by omega))); clear hT6)
  | ((with_reducible show wpList _ _ _ (⟨none, Op.store 144 _ _, _, _, _, _⟩ :: _) _ _); refine wpList_store_whole rfl 144 _ _ rfl DV rfl rfl HZ6.out (by rw [HDL.out]; simp) HIN.out HD1.out ?_))
 refine bodyPost_ret (results_blk rfl _ _ rfl (HZ6.out.setRow DV) Tryz.underlying144 rfl HIN.out) rfl ⟨rfl, E6, ?_⟩
 exact rfin HT6.out HK3.out.keep HK3.out.zero (HNE.out _ (by omega)) (by have := HNN.out; omega) _
theorem rof_group {p : Nat} {D E : Nat → Prop} {w : World} {l : List (List Int)} {v : List Value} {j : JV} (h : RvIn p D E w l v j) (hs : j.sort = 5 ∨ j.sort = 6) (hkl : j.sort = 6 → j.keys.length = j.items.length) (hky : ∀ k ∈ j.keys, k.size ≤ 4194304) (ih : ROfAll p j) :
  Calls Tryz.prog 61 #[.pointer (some ⟨p, 0, none⟩), .agg v.toArray] w (ROfPost p E w l j) := by
 have hv6 := h.at_.len
 have HSI : Hid ((Tryz.prog.info? 80).map (·.size) = some v.length) := H_ (by rw [hv6]; kernel_rfl)
 obtain ⟨N, hN⟩ : ∃ N, N = w.heap.size := ⟨_, rfl⟩
 obtain ⟨n, hn⟩ : ∃ n, n = j.items.length := ⟨_, rfl⟩
 have hroom := h.room
 have hnn := items_nodes j
 have hC : ∃ A c, v[0]? = some (.int .i64 j.sort) ∧ v[4]? = some (.slice A n c) := by
  obtain ⟨A, c, B, d, cs, rfl, _⟩ := h.at_.form
  rw [hn]
  exact ⟨A, c, rfl, rfl⟩
 obtain ⟨A, c, hc0, hc4⟩ := hC
 have HC := H_ (And.intro hc0 hc4)
 obtain ⟨DR, hDR⟩ : ∃ DR, DR = rowD (rowOf j) := ⟨_, rfl⟩
 have hDRl : DR.length = 32 ∧ IsBytes DR := by rw [hDR]; exact ⟨rowD_len _, rowD_bytes _⟩
 obtain ⟨DV, hDV⟩ : ∃ DV, DV = vb j.dg := ⟨_, rfl⟩
 have HD1 : Hid (∀ u ∈ DV, u.oneCell' = true) := H_ (by rw [hDV]; exact vb_one _)
 have HDL : Hid (DV.length = 32) := H_ (by rw [hDV, vb_length]; exact dg_len _)
 have HIN : Hid ((Tryz.prog.info? 144).map (·.size) = some DV.length) := H_ (infoRD DV HDL.out)
 obtain ⟨RV, hRV⟩ : ∃ RV, RV = vb DR := ⟨_, rfl⟩
 have HR1 : Hid (∀ u ∈ RV, u.oneCell' = true) := H_ (by rw [hRV]; exact vb_one _)
 have HRL : Hid (RV.length = 32) := H_ (by rw [hRV, vb_length]; exact hDRl.1)
 have HIR : Hid ((Tryz.prog.info? 144).map (·.size) = some RV.length) := H_ (infoRD RV HRL.out)
 have htx := tx_with hs hkl
 have hdg := dg_with hs
 rw [← hn, ← hDR] at htx hdg
 have hwa := withN_all j
 rw [← hn] at hwa
 have hal := allTx_len (rowOf j)
 rw [row_len hs hkl, ← hn] at hal
 obtain ⟨LL, hLL⟩ : ∃ LL, LL = l ++ j.tx := ⟨_, rfl⟩
 have HWI : Hid (∀ W, Keeps (fun _ => False) w W → Calls Tryz.prog 99 #[.pointer (some ⟨p, 0, none⟩), .agg v.toArray] W fun e w' => ∃ A c E', e = .returned (.slice A n c) ∧ Hid (Took (RgSt p) E E' W w' (l ++ withN j n) ∧ RdD w' A n (rowOf j) ∧ Out E' A n ∧ n ≤ c)) := H_ fun W hW => by
  refine (rlwithin_any (D := D) (E := E) (l := l) ⟨h.st.stay (rgLasts p) hW, h.at_.stay hW, h.off, h.room⟩ hs hkl hky ih).mono ?_
  rintro e w' ⟨A, c, E', he, h1, h2, h3, h4⟩
  rw [← hn] at he h1 h2 h3 h4
  exact ⟨A, c, E', he, H_ ⟨h1, h2, h3, h4⟩⟩
 have HRO : Hid (∀ W E1 w1 A c, Keeps (fun _ => False) w W → Took (RgSt p) E E1 W w1 (l ++ withN j n) → RdD w1 A n (rowOf j) → Out E1 A n → n ≤ c → Calls Tryz.prog 130 #[.pointer (some ⟨p, 0, none⟩), .slice A n c] w1 fun e w' => e = .returned (.agg RV.toArray) ∧ ∃ E', Took (RgSt p) E1 E' w1 w' (l ++ withN j n ++ allTx (rowOf j))) := H_ fun W E1 w1 A c hW ht h2 h3 h4 => by
  have h5 := rlrow_any n E1 w1 (l ++ withN j n) A c (rowOf j) ⟨(h.st.stay (rgLasts p) hW).next ht, by rw [List.length_append]; omega, h2, h3, h4, by omega⟩
  unfold RRowPost at h5
  rw [← hDR, ← hRV] at h5
  exact h5
 have HGR : Hid (∀ E1 w1, Tkg (RgSt p) E1 w1 (l ++ withN j n ++ allTx (rowOf j)) → Calls Tryz.prog 125 #[.pointer (some ⟨p, 0, none⟩), .int .i64 j.sort, .int .i64 n, .agg RV.toArray] w1 fun e w' => e = .returned (.agg DV.toArray) ∧ ∃ E', Took (RgSt p) E1 E' w1 w' LL) := H_ fun E1 w1 h1 => by
  have h5 := rgroup_any h1 (by rw [List.length_append, List.length_append]; omega) j.sort n (by omega) DR hDRl.1 hDRl.2
  rw [← hdg, ← hRV, ← hDV] at h5
  rw [hLL, htx]
  simpa [List.append_assoc] using h5
 have HBX := H_ (RBox2.made w v)
 rw [← hN] at HBX
 have HNE : Hid (∀ i, N ≤ i → ¬ E i) := H_ fun i hi he => by have := h.st.lt _ he; omega
 have HNN := H_ hN
 have HST := H_ h.st
 unfold ROfPost
 rw [← hDV, ← hLL]
 have HS := H_ hs
 clear h hs hkl hky ih hv6 hN hn hroom hnn hc0 hc4 hDR hDRl hDV hRV htx hdg hwa hal hLL
 obtain ⟨sq, hsq⟩ : ∃ sq, sq = j.sort := ⟨_, rfl⟩
 rw [← hsq] at HC HGR HS
 clear hsq
 have hs1 : (sq == 1) = false := by have := HS.out; simp; omega
 have hs2 : (sq == 2) = false := by have := HS.out; simp; omega
 have hs3 : (sq == 3) = false := by have := HS.out; simp; omega
 have hs4 : (sq == 4) = false := by have := HS.out; simp; omega
 go_enter Tryz.func61, Tryz.ntmps61
 go_upto_region 1 with fail
 refine gen_codeF (fun W => RBox2 w N v W) (by have hh := HBX.out; have := HNN.out; subst this; exact hh) ?_
 intro w1 hb1
 have hNN := HNN.out
 rw [← hNN]
 clear hNN
 have c0 := (hb1.blk.cell 0).trans HC.out.1
 have HB1 := H_ hb1
 clear hb1
 go_upto_region 12 with fail
 go_upto_region 13 with (first
  | ((with_reducible show wpList _ _ _ (⟨some 41, Op.load 80 _, _, _, _, _⟩ :: _) _ _); refine wpList_load_whole rfl 80 _ rfl _ rfl HB1.out.blk Tryz.underlying80 rfl HSI.out ?_)
  | (go_at_call 99; refine (HWI.out _ HB1.out.keep).mono ?_; rintro e w2 ⟨A2, c2, E2, rfl, H2⟩)
  | (go_at_call 130; refine (HRO.out w1 E2 w2 A2 c2 HB1.out.keep H2.out.1 H2.out.2.1 H2.out.2.2.1 H2.out.2.2.2).mono ?_; rintro e w3 ⟨rfl, E3, hT3⟩; have HT3 := H_ hT3; have HZ3 := H_ (Blk.new w3 144 (List.replicate 32 (Value.int .u8 0))); clear hT3)
  | ((with_reducible show wpList _ _ _ (⟨none, Op.store 144 _ _, _, _, _, _⟩ :: _) _ _); refine wpList_store_whole rfl 144 _ _ rfl RV rfl rfl HZ3.out (by rw [HRL.out]; simp) HIR.out HR1.out ?_))
 obtain ⟨P, hP⟩ : ∃ P, P = w3.heap.size := ⟨_, rfl⟩
 have HW4 : Hid (Keeps (fun _ => False) w3 ((w3.alloc (.cells (List.replicate 32 (Value.int .u8 0)).toArray 144)).setRow w3.heap.size RV.toArray) ∧ Blk ((w3.alloc (.cells (List.replicate 32 (Value.int .u8 0)).toArray 144)).setRow w3.heap.size RV.toArray) P 144 RV) := H_ ⟨((Keeps.refl (fun _ => False) w3).alloc _).setRow (.inr (Nat.le_refl _)) _, by rw [hP]; exact HZ3.out.setRow RV⟩
 rw [← hP] at HW4 ⊢
 refine gen_codeF (fun W => Keeps (fun _ => False) w3 W ∧ Blk W P 144 RV) HW4.out ?_
 rintro w4 ⟨k4, b4⟩
 have HT13 : Hid (Took (RgSt p) E E3 w1 w4 (l ++ withN j n ++ allTx (rowOf j))) := H_ ((H2.out.1.trans HT3.out).stay (rgLasts p) k4)
 have HNS : Hid (∀ i, N ≤ i → i < w1.heap.size → ¬ E3 i) := H_ fun i h1 h2 he => (HT13.out.new i he).elim (HNE.out i h1) fun h3 => by omega
 have HB4 : Hid (Blk w4 N 80 v ∧ Blk w4 (N + 1) 144 (List.replicate 32 (Value.int .u8 0)) ∧ Blk w4 P 144 RV) := H_ ⟨HT13.out.keep.blk HB1.out.blk (HNE.out _ (Nat.le_refl _)), HT13.out.keep.blk HB1.out.zero (HNE.out _ (by omega)), b4⟩
 have d0 := (HB4.out.1.cell 0).trans HC.out.1
 have d4 := (HB4.out.1.cell 4).trans HC.out.2
 have HG4 := H_ ((HST.out.stay (rgLasts p) HB1.out.keep).next HT13.out)
 clear k4 b4 HW4 hP c0
 go_wp2_with (first
  | ((with_reducible show wpList _ _ _ (⟨some 50, _, _, _, _, _⟩ :: _) _ _); refine wpList_load_whole rfl 144 _ rfl _ rfl HB4.out.2.2 Tryz.underlying144 rfl HIR.out ?_)
  | (go_at_call 125; refine (HGR.out E3 w4 HG4.out).mono ?_; rintro e w6 ⟨rfl, E6, hT6⟩; have HT6 := H_ hT6; have HZ6 := H_ (hT6.keep.blk HB4.out.2.1 (HNS.out _ (by omega) HB1.out.zero.lt)); clear hT6)
  | ((with_reducible show wpList _ _ _ (⟨none, Op.store 144 _ _, _, _, _, _⟩ :: _) _ _); refine wpList_store_whole rfl 144 _ _ rfl DV rfl rfl HZ6.out (by rw [HDL.out]; simp) HIN.out HD1.out ?_))
 refine bodyPost_ret (results_blk rfl _ _ rfl (HZ6.out.setRow DV) Tryz.underlying144 rfl HIN.out) rfl ⟨rfl, E6, ?_⟩
 refine ((Took.begin HB1.out.keep HT13.out).trans HT6.out).more (rgLasts p) (setRow_keep _ _ _) fun i hi => ?_
 subst hi
 exact ⟨by have := HNN.out; omega, fun he => (HT6.out.new _ he).elim (HNS.out _ (by omega) HB1.out.zero.lt) fun h3 => by have := HB4.out.2.1.lt; omega⟩
theorem rlof_any (p : Nat) : ∀ (j : JV), JOk j → Fine j → j.bytes ≤ 4194304 → ∀ (D E : Nat → Prop) (w : World) (l : List (List Int)) (v : List Value), RvIn p D E w l v j → Calls Tryz.prog 61 #[.pointer (some ⟨p, 0, none⟩), .agg v.toArray] w (ROfPost p E w l j) := by
 intro j hok
 induction hok with
 | mk j h1 h2 hp hr ht h ih =>
  intro hf hb D E w l v hv
  have hall : ROfAll p j := fun x hx D' E' w' l' v' hv' => ih x hx (hf.item hx) (Nat.le_trans (item_bytes hx) hb) D' E' w' l' v' hv'
  have hky : ∀ k ∈ j.keys, k.size ≤ 4194304 := fun k hk => Nat.le_trans (key_le hk) hb
  cases j with
  | null => exact rof_null hv
  | flag b => cases b with
   | true => exact rof_yes hv
   | false => exact rof_no hv
  | num b => exact rof_num hf.num hv
  | text s => exact rof_text (by rw [JV.bytes] at hb; omega) hv
  | list l => exact rof_group hv (.inl rfl) h2 hky hall
  | obj ks l => exact rof_group hv (.inr rfl) h2 hky hall
end Go.Proofs.YtplleficmkfniaaGreatDoor
namespace Go.Aff
open Go Go.RowKit Go.Sha
structure TxRow (RT BT : TypeId) (lo : Nat) (w : World) (A : Option Addr) (c : Nat) (vals : List Value) (gs : List Nat) (l : List (List Int)) : Prop where
 row : w.ownsRow 0 RT 1 (.slice A l.length c) l.length vals
 rowlo : ∀ g, (Value.slice A l.length c).ownBlock = some g → lo ≤ g
 len : gs.length = l.length
 nd : gs.Nodup
 at_ : ∀ (i : Nat) (g : Nat) (bs : List Int), gs[i]? = some g → l[i]? = some bs → lo ≤ g ∧ ∃ ci, vals[i]? = some (.slice (some ⟨g, 0, none⟩) bs.length ci) ∧ w.ownsRow 0 BT 1 (.slice (some ⟨g, 0, none⟩) bs.length ci) bs.length (vb bs)
theorem LogAt.tx {T RT BT : TypeId} {E : Nat → Prop} {w : World} {p : Nat} {A : Option Addr} {c : Nat} {vals : List Value} {gs : List Nat} {l : List (List Int)} (h : LogAt T RT BT E w p A c vals gs l) {lo : Nat} (hE : ∀ i, E i → lo ≤ i) : TxRow RT BT lo w A c vals gs l :=
 ⟨h.row, fun g hg => hE _ (h.rowE g hg), h.len, h.nd, fun i g bs h1 h2 => ⟨hE _ (h.at_ i g bs h1 h2).1, (h.at_ i g bs h1 h2).2⟩⟩
theorem TxRow.keep {RT BT : TypeId} {lo : Nat} {w w' : World} {A : Option Addr} {c : Nat} {vals : List Value} {gs : List Nat} {l : List (List Int)} {F : Nat → Prop} (h : TxRow RT BT lo w A c vals gs l) (k : Keeps F w w') (hF : ∀ i, lo ≤ i → i < w.heap.size → ¬ F i) : TxRow RT BT lo w' A c vals gs l :=
 ⟨k.own h.row (fun g hg => hF g (h.rowlo g hg) (h.row.lt g hg).2), h.rowlo, h.len, h.nd, fun i g bs h1 h2 => by
  obtain ⟨h3, ci, h4, h5⟩ := h.at_ i g bs h1 h2
  exact ⟨h3, ci, h4, k.own h5 fun g' hg' => by have e : some g = some g' := hg'; injection e with e; subst e; exact hF g h3 (own_ltN h5)⟩⟩
end Go.Aff
namespace Go.Dig
open Go Go.Sha Go.Aff Go.Json Go.Book
end Go.Dig
namespace Go.Proofs.YtplleficmkfniaaGreatDoor
open Go Go.RowKit Go.Aff Go.Json Go.Sha Go.Dig Go.Book
attribute [local go_sem] Oper.semAt_some
theorem rlog_new {w W : World} {p : Nat} (hG : GW W) (hp : w.heap.size ≤ p) (hw : GT ≤ w.heap.size) (hb : Blk W p 143 [.slice none 0 0]) : Tkg (RgSt p) (fun i => i = p) W [] :=
 ⟨⟨none, 0, [], [], hb, rfl, World.ownsRow_nil _ _ _ _, (fun g hg => by cases hg), rfl, List.nodup_nil, fun i g bs h => by simp at h⟩, fun i hi => by subst hi; exact IsCells.blk hb, fun i hi => by subst hi; exact Nat.le_trans hw hp, hG⟩
theorem rofv_any {D : Nat → Prop} {w : World} {v : List Value} {j : JV} (hG : GW w) (hv : RAt D w v j) (hD : ∀ i, D i → i < w.heap.size) (hok : JOk j) (hf : Fine j) (hn : j.nodes ≤ 1048576) (hb : j.bytes ≤ 4194304) :
  Calls Tryz.prog 77 #[.agg v.toArray] w fun e w' => e = .returned (.agg (vb j.dg).toArray) ∧ Keeps (fun _ => False) w w' := by
 have hv6 := hv.len
 have HSI : Hid ((Tryz.prog.info? 80).map (·.size) = some v.length) := H_ (by rw [hv6]; kernel_rfl)
 obtain ⟨N, hN⟩ : ∃ N, N = w.heap.size := ⟨_, rfl⟩
 obtain ⟨DV, hDV⟩ : ∃ DV, DV = vb j.dg := ⟨_, rfl⟩
 have HD1 : Hid (∀ u ∈ DV, u.oneCell' = true) := H_ (by rw [hDV]; exact vb_one _)
 have HDL : Hid (DV.length = 32) := H_ (by rw [hDV, vb_length]; exact dg_len _)
 have HIN : Hid ((Tryz.prog.info? 144).map (·.size) = some DV.length) := H_ (infoRD DV HDL.out)
 have HBX := H_ (RBox2.made w v)
 rw [← hN] at HBX
 have HOF : Hid (∀ W, RBox2 w N v W → Calls Tryz.prog 61 #[.pointer (some ⟨W.heap.size, 0, none⟩), .agg v.toArray] (W.alloc (.cells #[.slice none 0 0] 143)) fun e w' => e = .returned (.agg DV.toArray) ∧ ∃ E' L, Took (RgSt W.heap.size) (fun i => i = W.heap.size) E' (W.alloc (.cells #[.slice none 0 0] 143)) w' L) := H_ fun W hW => by
  have k1 : Keeps (fun _ => False) w (W.alloc (.cells #[.slice none 0 0] 143)) := hW.keep.alloc _
  refine (rlof_any W.heap.size j hok hf hb D _ _ [] v ⟨rlog_new (hG.stay k1) hW.keep.size hG.top (Blk.new W 143 [.slice none 0 0]), hv.stay k1, fun i hi e => ?_, by simp; omega⟩).mono fun e w' ⟨h1, E', h2⟩ => ⟨by rw [hDV]; exact h1, E', _, h2⟩
  subst e
  have := hD _ hi
  have := hW.keep.size
  omega
 have HNN := H_ hN
 rw [← hDV]
 clear hG hv hD hok hf hn hb hv6 hN hDV
 go_enter Tryz.func77, Tryz.ntmps77
 go_upto_region 1 with fail
 refine gen_codeF (fun W => RBox2 w N v W) (by have hh := HBX.out; have := HNN.out; subst this; exact hh) ?_
 intro w1 hb1
 have hNN := HNN.out
 rw [← hNN]
 clear hNN
 have HB1 := H_ hb1
 have HB2 := H_ (hb1.stay ((Keeps.refl (fun _ => False) w1).alloc (.cells #[.slice none 0 0] 143)))
 clear hb1
 go_wp2_with (first
  | ((with_reducible show wpList _ _ _ (⟨some 7, Op.load 80 _, _, _, _, _⟩ :: _) _ _); refine wpList_load_whole rfl 80 _ rfl _ rfl HB2.out.blk Tryz.underlying80 rfl HSI.out ?_)
  | (go_at_call 61; refine (HOF.out w1 HB1.out).mono ?_; rintro e w6 ⟨rfl, E6, L6, hT6⟩; have HT6 := H_ hT6; have HZ6 := H_ (hT6.keep.blk HB2.out.zero (by have := HB1.out.zero.lt; omega)); clear hT6)
  | ((with_reducible show wpList _ _ _ (⟨none, Op.store 144 _ _, _, _, _, _⟩ :: _) _ _); refine wpList_store_whole rfl 144 _ _ rfl DV rfl rfl HZ6.out (by rw [HDL.out]; simp) HIN.out HD1.out ?_))
 refine bodyPost_ret (results_blk rfl _ _ rfl (HZ6.out.setRow DV) Tryz.underlying144 rfl HIN.out) rfl ⟨rfl, ?_⟩
 have h1 : Keeps (fun _ => False) w w6 := HB2.out.keep.trans HT6.out.keep fun i hi e => by have := HB1.out.keep.size; omega
 exact h1.setRow (.inr (by have := HNN.out; omega)) _
end Go.Proofs.YtplleficmkfniaaGreatDoor
