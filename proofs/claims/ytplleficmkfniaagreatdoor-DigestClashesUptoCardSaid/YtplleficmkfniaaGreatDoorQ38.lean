/- Texts. -/
import Derived.Test.YtplleficmkfniaaGreatDoorQ36
import Derived.Test.YtplleficmkfniaaGreatDoorQ37
set_option linter.unusedSimpArgs false
set_option maxRecDepth 100000
set_option maxHeartbeats 4000000
namespace Go.Proofs.YtplleficmkfniaaGreatDoor
open Go Go.RowKit Go.Aff Go.Json Go.Sha Go.Dig Go.Book
attribute [local go_sem] Oper.semAt_some
theorem errno_assert (v : Value) (w : World) : (Instr.typeAssert (.iface 85 v) 32 85 true).run Tryz.prog w = .ok (.tuple #[v, .bool true]) w := by kernel_rfl
theorem placed_nil (w : World) : (Instr.typeAssert .nilIface 32 234 true).run Tryz.prog w = .ok (.tuple #[.nilIface, .bool false]) w := by kernel_rfl
theorem number_errno (w : World) (k no : Int) : Calls Tryz.prog 33 #[.iface 85 (.int .i64 k), .int .i64 no] w fun e w' => e = .returned (.bool (decide (k = no))) ∧ w' = w := by
 have ha := errno_assert (.int .i64 k) w
 by_cases h : k = no
 ·subst h
  have hd : decide (k = k) = true := by simp
  rw [hd]
  go_enter Tryz.func33, Tryz.ntmps33
  go_wp2
  go_ret
  exact ⟨rfl, rfl⟩
 ·have hd : decide (k = no) = false := by simp [h]
  have hd2 : (k == no) = false := by simp [h]
  rw [hd]
  go_enter Tryz.func33, Tryz.ntmps33
  go_wp2
  go_ret
  exact ⟨rfl, rfl⟩
theorem parse_empty (w : World) : Calls Tryz.prog 56 #[.string ⟨#[]⟩] w fun e w' => e = .returned (.tuple #[.slice none 0 0, .nilIface]) ∧ Keeps (fun _ => False) w w' := by
 have hcv : ∀ W, (convert 9 48 (.string ⟨#[]⟩)).run Tryz.prog W = .ok (.slice (some ⟨W.heap.size, 0, none⟩) 0 (grownCap W 0 0 5)) (Lib.bytesWorld W 5 ⟨#[]⟩) := fun W => Lib.run_convert_string_bytes W _ _ 5 ⟨#[]⟩ Tryz.underlying9 Tryz.underlying48 Tryz.underlying5
 have HUC : Hid (∀ c, Calls Tryz.prog 117 #[.slice (some ⟨w.heap.size, 0, none⟩) 0 c] (Lib.bytesWorld w 5 ⟨#[]⟩) fun e w' => e = .returned .nilIface ∧ Keeps (fun _ => False) w w') := H_ fun c => (checkP_any (Lib.bytesWorld w 5 ⟨#[]⟩) (some ⟨w.heap.size, 0, none⟩) 0 c [] (Rd.nil _ _) (by omega)).mono fun e w' ⟨⟨v, he, hv⟩, hk⟩ => by
  have hp : Go.Utf.placeF [] [] = none := rfl
  rw [hp] at hv
  cases hv
  exact ⟨he, (bytesW_keep w 5 ⟨#[]⟩).trans hk.keeps fun _ _ h => h⟩
 have HCN : Hid (∀ W, Calls Tryz.prog 118 #[.string ⟨#[]⟩, .string ⟨#[47]⟩] W fun e w' => e = .returned (.int .i64 0) ∧ w' = W) := H_ fun W => Tryz.strings_Count_one ⟨#[]⟩ 47 W
 have hpn := placed_nil
 go_enter Tryz.func56, Tryz.ntmps56
 go_upto_block 0 with (go_at_call 117; refine (HUC.out _).mono ?_; rintro e w1 ⟨rfl, hk1⟩; have HK1 := H_ hk1; clear hk1)
 go_wp2
 go_loopw [34] (fun t wx => t = .int .i64 0 ∧ Hid (Keeps (fun _ => False) w wx)) (fun _ _ => 0)
 case atStart => exact ⟨rfl, HK1⟩
 case round =>
  obtain ⟨rfl, HK⟩ := hrel
  go_upto_block 2 with (go_at_call 118; refine (HCN.out _).mono ?_; rintro e w2 ⟨rfl, hw2⟩; subst w2)
  go_wp2
  go_loopw [0, 7] (fun s l wx => s = .string ⟨#[]⟩ ∧ l = .slice none 0 0 ∧ Hid (Keeps (fun _ => False) w wx)) (fun _ _ _ => 0)
  case atStart => exact ⟨rfl, rfl, HK⟩
  case round =>
   obtain ⟨rfl, rfl, HK2⟩ := hrel
   go_wp2
   go_ret2
   exact ⟨rfl, HK2.out⟩
theorem levels_none (w : World) : Calls Tryz.prog 57 #[.slice none 0 0, .agg #[.slice none 0 0]] w fun e w' => e = .returned .nilIface ∧ Keeps (fun _ => False) w w' := by
 have HB : Hid (Keeps (fun _ => False) w (w.alloc (.cells #[.slice none 0 0] 27)) ∧ Blk (w.alloc (.cells #[.slice none 0 0] 27)) w.heap.size 27 [.slice none 0 0]) := H_ ⟨(Keeps.refl _ w).alloc _, Blk.new _ _ _⟩
 go_enter Tryz.func57, Tryz.ntmps57
 go_upto_region 1 with fail
 obtain ⟨N, hN⟩ : ∃ N, N = w.heap.size := ⟨_, rfl⟩
 rw [← hN] at HB ⊢
 refine gen_codeF (fun W => Keeps (fun _ => False) w W ∧ Blk W N 27 [.slice none 0 0]) HB.out ?_
 rintro w1 ⟨k1, b1⟩
 have c0 := b1.cell 0
 have HB1 := H_ (And.intro k1 b1)
 clear k1 b1 HB hN
 go_upto_block 0 with fail
 go_wp2
 go_loopw [13] (fun t wx => t = .int .i64 0 ∧ Hid (wx = w1)) (fun _ _ => 0)
 case atStart => exact ⟨rfl, H_ rfl⟩
 case round =>
  obtain ⟨rfl, HW⟩ := hrel
  have c0' := c0
  rw [← HW.out] at c0'
  go_wp2
  go_ret
  exact ⟨rfl, by rw [HW.out]; exact HB1.out.1⟩
theorem lift_none (w : World) (d : List Int) (hd : d.length = 32) : Calls Tryz.prog 58 #[.agg (vb d).toArray, .slice none 0 0, .agg #[.slice none 0 0]] w fun e w' => e = .returned (.agg (vb d).toArray) ∧ Keeps (fun _ => False) w w' := by
 obtain ⟨DV, hDV⟩ : ∃ DV, DV = vb d := ⟨_, rfl⟩
 have HD1 : Hid (∀ u ∈ DV, u.oneCell' = true) := H_ (by rw [hDV]; exact vb_one _)
 have HDL : Hid (DV.length = 32) := H_ (by rw [hDV, vb_length]; exact hd)
 have HIN : Hid ((Tryz.prog.info? 23).map (·.size) = some DV.length) := H_ (infoDg DV HDL.out)
 rw [← hDV]
 clear hDV hd
 obtain ⟨N, hN⟩ : ∃ N, N = w.heap.size := ⟨_, rfl⟩
 have HB : Hid (Keeps (fun _ => False) w (((w.alloc (.cells DV.toArray 23)).alloc (.cells #[.slice none 0 0] 27)).alloc (.cells (List.replicate 32 (Value.int .u8 0)).toArray 23)) ∧ Blk (((w.alloc (.cells DV.toArray 23)).alloc (.cells #[.slice none 0 0] 27)).alloc (.cells (List.replicate 32 (Value.int .u8 0)).toArray 23)) N 23 DV ∧ Blk (((w.alloc (.cells DV.toArray 23)).alloc (.cells #[.slice none 0 0] 27)).alloc (.cells (List.replicate 32 (Value.int .u8 0)).toArray 23)) (N + 1) 27 [.slice none 0 0] ∧ Blk (((w.alloc (.cells DV.toArray 23)).alloc (.cells #[.slice none 0 0] 27)).alloc (.cells (List.replicate 32 (Value.int .u8 0)).toArray 23)) (N + 2) 23 (List.replicate 32 (Value.int .u8 0))) := H_ ⟨(((Keeps.refl _ w).alloc _).alloc _).alloc _, by rw [hN]; exact ((Blk.new _ _ _).alloc _).alloc _, by
  have h := (Blk.new (w.alloc (.cells DV.toArray 23)) 27 [.slice none 0 0]).alloc (.cells (List.replicate 32 (Value.int .u8 0)).toArray 23)
  rwa [World.size_alloc, ← hN] at h, by
  have h := Blk.new ((w.alloc (.cells DV.toArray 23)).alloc (.cells #[.slice none 0 0] 27)) 23 (List.replicate 32 (Value.int .u8 0))
  rwa [World.size_alloc, World.size_alloc, ← hN] at h⟩
 have HNN := H_ hN
 clear hN
 go_enter Tryz.func58, Tryz.ntmps58
 go_upto_region 1 with fail
 refine gen_codeF (fun W => Keeps (fun _ => False) w W ∧ Blk W N 23 DV ∧ Blk W (N + 1) 27 [.slice none 0 0] ∧ Blk W (N + 2) 23 (List.replicate 32 (Value.int .u8 0))) HB.out ?_
 rintro w1 ⟨k1, b1, p1, z1⟩
 have hNN := HNN.out
 rw [← hNN]
 clear hNN
 have c0 := p1.cell 0
 have HB1 := H_ (And.intro k1 (And.intro b1 z1))
 clear k1 b1 p1 z1 HB
 go_upto_block 0 with fail
 go_wp2
 go_loopw [13] (fun t wx => t = .int .i64 0 ∧ Hid (wx = w1)) (fun _ _ => 0)
 case atStart => exact ⟨rfl, H_ rfl⟩
 case round =>
  obtain ⟨rfl, HW⟩ := hrel
  have HB2 := HB1
  rw [← HW.out] at HB2
  go_wp2_with (first
   | ((with_reducible show wpList _ _ _ (⟨some 47, Op.load 23 _, _, _, _, _⟩ :: _) _ _); refine wpList_load_whole rfl 23 _ rfl _ rfl HB2.out.2.1 Tryz.underlying23 rfl HIN.out ?_)
   | ((with_reducible show wpList _ _ _ (⟨none, Op.store 23 _ _, _, _, _, _⟩ :: _) _ _); refine wpList_store_whole rfl 23 _ _ rfl DV rfl rfl HB2.out.2.2 (by rw [HDL.out]; simp) HIN.out HD1.out ?_))
  refine bodyPost_ret (results_blk rfl _ _ rfl (HB2.out.2.2.setRow DV) Tryz.underlying23 rfl HIN.out) rfl ⟨rfl, ?_⟩
  exact HB2.out.1.setRow (.inr (by have := HNN.out; omega)) _
structure CkBox (w : World) (N : Nat) (WV : List Value) (W : World) : Prop where
 keep : Keeps (fun _ => False) w W
 dig : Blk W N 23 WV
 prf : Blk W (N + 1) 27 [.slice none 0 0]
theorem CkBox.stay {w W W' : World} {N : Nat} {WV : List Value} (h : CkBox w N WV W) (k : Keeps (fun _ => False) W W') : CkBox w N WV W' := ⟨h.keep.trans k fun _ _ h => h, k.blk h.dig fun h => h, k.blk h.prf fun h => h⟩
theorem CkBox.made (w : World) (WV : List Value) : CkBox w w.heap.size WV ((w.alloc (.cells WV.toArray 23)).alloc (.cells #[.slice none 0 0] 27)) := by
 refine ⟨((Keeps.refl _ w).alloc _).alloc _, (Blk.new _ _ _).alloc _, ?_⟩
 have h := Blk.new (w.alloc (.cells WV.toArray 23)) 27 [.slice none 0 0]
 rwa [World.size_alloc] at h
theorem infoPf : (Tryz.prog.info? 27).map (·.size) = some ([Value.slice none 0 0]).length := by kernel_rfl
theorem check_root {D : Nat → Prop} {w : World} {q : Nat} {v : Value} {j : JV} (hG : GW w) (ht : TreeAt D w q v j) (hok : JOk j) (hn : j.nodes ≤ 1048576) (hb : j.bytes ≤ 4194304) (whole : List Int) (hw : whole.length = 32) :
  Calls Tryz.prog 15 #[.agg (vb whole).toArray, .string ⟨#[]⟩, .pointer (some ⟨q, 0, none⟩), .agg #[.slice none 0 0]] w fun e w' => e = .returned (if j.dg = whole then .nilIface else .iface 85 (.int .i64 220)) ∧ Keeps (fun _ => False) w w' := by
 obtain ⟨WV, hWV⟩ : ∃ WV, WV = vb whole := ⟨_, rfl⟩
 obtain ⟨DV, hDV⟩ : ∃ DV, DV = vb j.dg := ⟨_, rfl⟩
 have HD1 : Hid (∀ u ∈ DV, u.oneCell' = true) := H_ (by rw [hDV]; exact vb_one _)
 have HDL : Hid (DV.length = 32) := H_ (by rw [hDV, vb_length]; exact dg_len _)
 have HIN : Hid ((Tryz.prog.info? 23).map (·.size) = some DV.length) := H_ (infoDg DV HDL.out)
 have HIW : Hid ((Tryz.prog.info? 23).map (·.size) = some WV.length) := H_ (infoDg WV (by rw [hWV, vb_length]; exact hw))
 have HOF : Hid (∀ W, Keeps (fun _ => False) w W → Calls Tryz.prog 23 #[.pointer (some ⟨q, 0, none⟩)] W fun e w' => e = .returned (.tuple #[.agg DV.toArray, .nilIface]) ∧ Keeps (fun _ => False) W w') := H_ fun W hW => by rw [hDV]; exact dOf_any (hG.stay hW) (ht.stay hW) hok hn hb
 have HLI : Hid (∀ W, Calls Tryz.prog 58 #[.agg DV.toArray, .slice none 0 0, .agg #[.slice none 0 0]] W fun e w' => e = .returned (.agg DV.toArray) ∧ Keeps (fun _ => False) W w') := H_ fun W => by rw [hDV]; exact lift_none W j.dg (dg_len j)
 obtain ⟨bq, hbq⟩ : ∃ bq, bq = decide (j.dg = whole) := ⟨_, rfl⟩
 have HEQ : Hid (∀ W, (Op.equalIn 10000 23 (.agg DV.toArray) (.agg WV.toArray)).run Tryz.prog W = .ok bq W) := H_ fun W => by rw [hbq, hDV, hWV]; exact eql_in (digest_eql W _ _ (dg_len j) hw)
 obtain ⟨R, hR⟩ : ∃ R, R = if j.dg = whole then Value.nilIface else .iface 85 (.int .i64 220) := ⟨_, rfl⟩
 have HR : Hid (R = if bq then Value.nilIface else .iface 85 (.int .i64 220)) := H_ (by rw [hR, hbq]; by_cases h : j.dg = whole <;> simp [h])
 obtain ⟨N, hN⟩ : ∃ N, N = w.heap.size := ⟨_, rfl⟩
 have HBX := H_ (CkBox.made w WV)
 rw [← hN] at HBX
 have HNN := H_ hN
 rw [← hR, ← hWV]
 clear hG ht hok hn hb hw hWV hDV hbq hR hN
 go_enter Tryz.func15, Tryz.ntmps15
 go_upto_region 1 with fail
 refine gen_codeF (fun W => CkBox w N WV W) (by have hh := HBX.out; have := HNN.out; subst this; exact hh) ?_
 intro w1 hb1
 have hNN := HNN.out
 rw [← hNN]
 clear hNN
 have HB1 := H_ hb1
 clear hb1
 go_upto_region 10 with (first
  | (go_at_call 56; refine (parse_empty _).mono ?_; rintro e w2 ⟨rfl, hk2⟩; have HB2 := H_ (HB1.out.stay hk2); clear hk2)
  | ((with_reducible show wpList _ _ _ (⟨some 26, Op.load 27 _, _, _, _, _⟩ :: _) _ _); refine wpList_load_whole rfl 27 _ rfl _ rfl HB2.out.prf Tryz.underlying27 rfl infoPf ?_)
  | (go_at_call 57; refine (levels_none _).mono ?_; rintro e w3 ⟨rfl, hk3⟩; have HB3 := H_ (HB2.out.stay hk3); clear hk3)
  | (go_at_call 23; refine (HOF.out _ HB3.out.keep).mono ?_; rintro e w4 ⟨rfl, hk4⟩; have HB4 := H_ (HB3.out.stay hk4); have HZ4 := H_ (Blk.new w4 23 (List.replicate 32 (Value.int .u8 0))); clear hk4)
  | ((with_reducible show wpList _ _ _ (⟨none, Op.store 23 _ _, _, _, _, _⟩ :: _) _ _); refine wpList_store_whole rfl 23 _ _ rfl DV rfl rfl HZ4.out (by rw [HDL.out]; simp) HIN.out HD1.out ?_))
 obtain ⟨P, hP⟩ : ∃ P, P = w4.heap.size := ⟨_, rfl⟩
 have HW5 : Hid (CkBox w N WV ((w4.alloc (.cells (List.replicate 32 (Value.int .u8 0)).toArray 23)).setRow w4.heap.size DV.toArray) ∧ Blk ((w4.alloc (.cells (List.replicate 32 (Value.int .u8 0)).toArray 23)).setRow w4.heap.size DV.toArray) P 23 DV) := H_ ⟨HB4.out.stay (((Keeps.refl (fun _ => False) w4).alloc _).setRow (.inr (Nat.le_refl _)) _), by rw [hP]; exact HZ4.out.setRow DV⟩
 rw [← hP] at HW5 ⊢
 refine gen_codeF (fun W => CkBox w N WV W ∧ Blk W P 23 DV) HW5.out ?_
 rintro w5 ⟨x5, b5⟩
 have HB5 := H_ x5
 have HP5 := H_ b5
 clear x5 b5 HW5 hP
 refine wp_region_held_drew (S := (fun V => Keeps (fun _ => False) w5 V)) (by kernel_rfl) (Keeps.refl _ _).drew (fun h_ => ?_)
 refine tI 0 36 h_ ?_ (hy := (yieldsIf_load_mid (by rfl) _ _ rfl _ _ rfl DV _ (fun w' h => rdg_rng (h.blk HP5.out fun h => h)) Tryz.underlying23 rfl HIN.out))
 try simp only [pu]
 refine tI 1 37 h_ ?_
 try simp only [pu]
 refine tI 2 38 h_ ?_ (hy := (yieldsIf_load_mid (by rfl) _ _ rfl _ _ rfl [.slice none 0 0] _ (fun w' h => rdg_rng (h.blk HB5.out.prf fun h => h)) Tryz.underlying27 rfl infoPf))
 try simp only [pu]
 refine tI 4 40 h_ ?_ (hy := (yieldsIf_load_mid (by rfl) _ _ rfl _ _ rfl WV _ (fun w' h => rdg_rng (h.blk HB5.out.dig fun h => h)) Tryz.underlying23 rfl HIW.out))
 try simp only [pu]
 refine rH 3 (some 39) fun K hK => ?_
 go_simp
 refine (HLI.out _).mono ?_
 rintro e w6 ⟨rfl, hk6⟩
 have hS6 := h_.trans hk6 (fun _ _ h => h)
 refine hK.out _ _ hS6 (fun h_ => ?_)
 clear hK K
 try simp only [pu]
 refine tI 5 41 h_ ?_ (hy := .inl ⟨by rfl, by intro w' hSw; have cv := HEQ.out w'; go_simp; first | done | rfl⟩)
 try simp only [pu]
 refine wpAnyH_done (by kernel_rfl) ?_ _
 have HKF := H_ (HB5.out.keep.trans h_ fun _ _ h => h)
 cases bq with
 | true =>
  go_wp2
  go_ret
  exact ⟨by rw [HR.out]; rfl, HKF.out⟩
 | false =>
  go_wp2
  go_ret
  exact ⟨by rw [HR.out]; rfl, HKF.out⟩
theorem null_ok : JOk .null := .mk .null (by decide) (fun h => by simp [JV.sort] at h) (by simp [JV.keys]) (fun k h => by simp [JV.keys] at h) (by decide) (fun x h => by simp [JV.items] at h)
theorem null_fine : Fine .null := .mk .null (fun b h => by cases h) (fun h => by simp [JV.sort] at h) (by simp [JV.items]) (fun x h => by simp [JV.items] at h)
theorem null_at (D : Nat → Prop) (w : World) : RAt D w [.int .i64 1, .bool false, .int .u64 0, .string ⟨#[]⟩, .slice none 0 0, .slice none 0 0] .null := RAt.leaf .null rfl rfl
theorem null_dg : JV.null.dg ≠ zeroD := by
 have h : hsh [110] ≠ zeroD := by decide +kernel
 rw [JV.dg]
 exact h
theorem lof_any {D : Nat → Prop} {w : World} {v : List Value} {j : JV} (hG : GW w) (hv : RAt D w v j) (hD : ∀ i, D i → i < w.heap.size) (hok : JOk j) (hf : Fine j) (hn : j.nodes ≤ 1048576) (hb : j.bytes ≤ 4194304) :
  Calls Tryz.prog 35 #[.agg v.toArray] w fun e w' => e = .returned (.agg (vb j.dg).toArray) ∧ Keeps (fun _ => False) w w' := by
 have hv6 := hv.len
 have HSI : Hid ((Tryz.prog.info? 80).map (·.size) = some v.length) := H_ (by rw [hv6]; kernel_rfl)
 obtain ⟨N, hN⟩ : ∃ N, N = w.heap.size := ⟨_, rfl⟩
 obtain ⟨DV, hDV⟩ : ∃ DV, DV = vb j.dg := ⟨_, rfl⟩
 have HD1 : Hid (∀ u ∈ DV, u.oneCell' = true) := H_ (by rw [hDV]; exact vb_one _)
 have HDL : Hid (DV.length = 32) := H_ (by rw [hDV, vb_length]; exact dg_len _)
 have HIN : Hid ((Tryz.prog.info? 23).map (·.size) = some DV.length) := H_ (infoDg DV HDL.out)
 have HB : Hid (Keeps (fun _ => False) w ((w.alloc (.cells v.toArray 80)).alloc (.cells (List.replicate 32 (Value.int .u8 0)).toArray 23)) ∧ Blk ((w.alloc (.cells v.toArray 80)).alloc (.cells (List.replicate 32 (Value.int .u8 0)).toArray 23)) N 80 v ∧ Blk ((w.alloc (.cells v.toArray 80)).alloc (.cells (List.replicate 32 (Value.int .u8 0)).toArray 23)) (N + 1) 23 (List.replicate 32 (Value.int .u8 0))) := H_ ⟨((Keeps.refl _ w).alloc _).alloc _, by rw [hN]; exact (Blk.new _ _ _).alloc _, by
  have h := Blk.new (w.alloc (.cells v.toArray 80)) 23 (List.replicate 32 (Value.int .u8 0))
  rwa [World.size_alloc, ← hN] at h⟩
 have HOF : Hid (∀ W, Keeps (fun _ => False) w W → Calls Tryz.prog 77 #[.agg v.toArray] W fun e w' => e = .returned (.agg DV.toArray) ∧ Keeps (fun _ => False) W w') := H_ fun W hW => by rw [hDV]; exact rofv_any (hG.stay hW) (hv.stay hW) (fun i hi => Nat.lt_of_lt_of_le (hD i hi) hW.size) hok hf hn hb
 have HNN := H_ hN
 rw [← hDV]
 clear hG hv hD hok hf hn hb hv6 hN hDV
 go_enter Tryz.func35, Tryz.ntmps35
 go_upto_region 1 with fail
 refine gen_codeF (fun W => Keeps (fun _ => False) w W ∧ Blk W N 80 v ∧ Blk W (N + 1) 23 (List.replicate 32 (Value.int .u8 0))) HB.out ?_
 rintro w1 ⟨k1, b1, z1⟩
 have hNN := HNN.out
 rw [← hNN]
 clear hNN
 have HB1 := H_ (And.intro k1 (And.intro b1 z1))
 clear k1 b1 z1 HB
 go_wp2_with (first
  | ((with_reducible show wpList _ _ _ (⟨some 3, Op.load 80 _, _, _, _, _⟩ :: _) _ _); refine wpList_load_whole rfl 80 _ rfl _ rfl HB1.out.2.1 Tryz.underlying80 rfl HSI.out ?_)
  | (go_at_call 77; refine (HOF.out _ HB1.out.1).mono ?_; rintro e w6 ⟨rfl, hk6⟩; have HK6 := H_ (HB1.out.1.trans hk6 fun _ _ h => h); have HZ6 := H_ (hk6.blk HB1.out.2.2 fun h => h); clear hk6)
  | ((with_reducible show wpList _ _ _ (⟨none, Op.store 23 _ _, _, _, _, _⟩ :: _) _ _); refine wpList_store_whole rfl 23 _ _ rfl DV rfl rfl HZ6.out (by rw [HDL.out]; simp) HIN.out HD1.out ?_))
 refine bodyPost_ret (results_blk rfl _ _ rfl (HZ6.out.setRow DV) Tryz.underlying23 rfl HIN.out) rfl ⟨rfl, ?_⟩
 exact HK6.out.setRow (.inr (by have := HNN.out; omega)) _
theorem wakes_any (w : World) (hG : GW w) : Calls Tryz.prog 19 #[] w fun e w' => e = .returned (.bool true) ∧ Keeps (fun _ => False) w w' := by
 have HB := H_ (build_one w)
 obtain ⟨DV, hDV⟩ : ∃ DV, DV = vb JV.null.dg := ⟨_, rfl⟩
 have HD1 : Hid (∀ u ∈ DV, u.oneCell' = true) := H_ (by rw [hDV]; exact vb_one _)
 have HDL : Hid (DV.length = 32) := H_ (by rw [hDV, vb_length]; exact dg_len _)
 have HIN : Hid ((Tryz.prog.info? 23).map (·.size) = some DV.length) := H_ (infoDg DV HDL.out)
 have HN1 : Hid (JV.null.nodes ≤ 1048576 ∧ JV.null.bytes ≤ 4194304) := H_ (by simp [JV.nodes, JV.bytes])
 have HOF : Hid (∀ W q v, Keeps (fun _ => False) w W → TreeAt (fun i => w.heap.size ≤ i) W q v .null → Calls Tryz.prog 23 #[.pointer (some ⟨q, 0, none⟩)] W fun e w' => e = .returned (.tuple #[.agg DV.toArray, .nilIface]) ∧ Keeps (fun _ => False) W w') := H_ fun W q v hW ht => by rw [hDV]; exact dOf_any (hG.stay hW) ht null_ok HN1.out.1 HN1.out.2
 have HLO : Hid (∀ W, Keeps (fun _ => False) w W → Calls Tryz.prog 35 #[.agg #[.int .i64 1, .bool false, .int .u64 0, .string ⟨#[]⟩, .slice none 0 0, .slice none 0 0]] W fun e w' => e = .returned (.agg DV.toArray) ∧ Keeps (fun _ => False) W w') := H_ fun W hW => by rw [hDV]; exact lof_any (D := fun _ => False) (hG.stay hW) (null_at _ W) (fun i h => h.elim) null_ok null_fine HN1.out.1 HN1.out.2
 have HCZ : Hid (∀ W q v, Keeps (fun _ => False) w W → TreeAt (fun i => w.heap.size ≤ i) W q v .null → Calls Tryz.prog 15 #[.agg (List.replicate 32 (Value.int .u8 0)).toArray, .string ⟨#[]⟩, .pointer (some ⟨q, 0, none⟩), .agg #[.slice none 0 0]] W fun e w' => e = .returned (.iface 85 (.int .i64 220)) ∧ Keeps (fun _ => False) W w') := H_ fun W q v hW ht => by
  have h := check_root (hG.stay hW) ht null_ok HN1.out.1 HN1.out.2 zeroD (by unfold zeroD; simp)
  rw [if_neg null_dg, vb_zero] at h
  exact h
 have HCD : Hid (∀ W q v, Keeps (fun _ => False) w W → TreeAt (fun i => w.heap.size ≤ i) W q v .null → Calls Tryz.prog 15 #[.agg DV.toArray, .string ⟨#[]⟩, .pointer (some ⟨q, 0, none⟩), .agg #[.slice none 0 0]] W fun e w' => e = .returned .nilIface ∧ Keeps (fun _ => False) W w') := H_ fun W q v hW ht => by
  have h := check_root (hG.stay hW) ht null_ok HN1.out.1 HN1.out.2 JV.null.dg (dg_len _)
  rw [if_pos rfl, ← hDV] at h
  exact h
 have HEQ : Hid (∀ W, (Op.equalIn 10000 23 (.agg DV.toArray) (.agg DV.toArray)).run Tryz.prog W = .ok true W) := H_ fun W => by
  have h := digest_eql W JV.null.dg JV.null.dg (dg_len _) (dg_len _)
  rw [decide_eq_true rfl, ← hDV] at h
  exact eql_in h
 have HNU : Hid (∀ W, Calls Tryz.prog 33 #[.iface 85 (.int .i64 220), .int .i64 220] W fun e w' => e = .returned (.bool true) ∧ w' = W) := H_ fun W => number_errno W 220 220
 clear hDV hG
 go_enter Tryz.func19, Tryz.ntmps19
 go_upto_region 4 with (go_at_call 13; refine HB.out.mono ?_; rintro e w1 ⟨q, v, rfl, ht, hk⟩; have HT := H_ ht; have HK1 := H_ hk; clear ht hk)
 go_upto_region 5 with (first
  | (go_at_call 23; refine (HOF.out _ q v HK1.out HT.out).mono ?_; rintro e w2 ⟨rfl, hk2⟩; have HK2 := H_ (HK1.out.trans hk2 fun _ _ h => h); have HT2 := H_ (HT.out.stay hk2); have HZ2 := H_ (Blk.new w2 23 (List.replicate 32 (Value.int .u8 0))); clear hk2)
  | ((with_reducible show wpList _ _ _ (⟨none, Op.store 23 _ _, _, _, _, _⟩ :: _) _ _); refine wpList_store_whole rfl 23 _ _ rfl DV rfl rfl HZ2.out (by rw [HDL.out]; simp) HIN.out HD1.out ?_))
 obtain ⟨P, hP⟩ : ∃ P, P = w2.heap.size := ⟨_, rfl⟩
 have HW3 : Hid (Keeps (fun _ => False) w2 ((w2.alloc (.cells (List.replicate 32 (Value.int .u8 0)).toArray 23)).setRow w2.heap.size DV.toArray) ∧ Blk ((w2.alloc (.cells (List.replicate 32 (Value.int .u8 0)).toArray 23)).setRow w2.heap.size DV.toArray) P 23 DV) := H_ ⟨((Keeps.refl (fun _ => False) w2).alloc _).setRow (.inr (Nat.le_refl _)) _, by rw [hP]; exact HZ2.out.setRow DV⟩
 rw [← hP] at HW3 ⊢
 refine gen_codeF (fun W => Keeps (fun _ => False) w2 W ∧ Blk W P 23 DV) HW3.out ?_
 rintro w3 ⟨k3, b3⟩
 have HK3 := H_ (HK2.out.trans k3 fun _ _ h => h)
 have HT3 := H_ (HT2.out.stay k3)
 have HP3 := H_ b3
 clear k3 b3 HW3 hP
 refine wp_region_held_drew (S := (fun V => Keeps (fun _ => False) w3 V)) (by kernel_rfl) (Keeps.refl _ _).drew (fun h_ => ?_)
 refine tI 0 17 h_ ?_
 try simp only [pu]
 refine tI 1 18 h_ ?_
 try simp only [pu]
 refine tI 2 19 h_ ?_
 try simp only [pu]
 refine tI 3 20 h_ ?_ (hy := (yieldsIf_load_mid (by rfl) _ _ rfl _ _ rfl DV _ (fun w' h => rdg_rng (h.blk HP3.out fun h => h)) Tryz.underlying23 rfl HIN.out))
 try simp only [pu]
 refine tI 4 21 h_ ?_
 try simp only [pu]
 refine rH 5 (some 22) fun K hK => ?_
 go_simp
 refine (HLO.out _ (HK3.out.trans h_ fun _ _ h => h)).mono ?_
 rintro e w6 ⟨rfl, hk6⟩
 have hS6 := h_.trans hk6 (fun _ _ h => h)
 refine hK.out _ _ hS6 (fun h_ => ?_)
 clear hK K
 try simp only [pu]
 refine tI 6 23 h_ ?_ (hy := .inl ⟨by rfl, by intro w' hSw; have cv := HEQ.out w'; go_simp; first | done | rfl⟩)
 try simp only [pu]
 refine tI 7 24 h_ ?_
 try simp only [pu]
 refine tI 8 25 h_ ?_
 try simp only [pu]
 refine tI 9 26 h_ ?_
 try simp only [pu]
 refine tI 10 27 h_ ?_
 try simp only [pu]
 refine tI 11 28 h_ ?_
 try simp only [pu]
 refine rH 12 (some 29) fun K hK => ?_
 go_simp
 refine (HCZ.out _ q v (HK3.out.trans h_ fun _ _ h => h) (HT3.out.stay h_)).mono ?_
 rintro e w7 ⟨rfl, hk7⟩
 have hS7 := h_.trans hk7 (fun _ _ h => h)
 refine hK.out _ _ hS7 (fun h_ => ?_)
 clear hK K
 try simp only [pu]
 refine rH 13 (some 30) fun K hK => ?_
 go_simp
 refine (HNU.out _).mono ?_
 rintro e w8 ⟨rfl, hw8⟩
 subst hw8
 refine hK.out _ _ h_ (fun h_ => ?_)
 clear hK K
 try simp only [pu]
 refine tI 14 31 h_ ?_
 try simp only [pu]
 refine tI 15 32 h_ ?_
 try simp only [pu]
 refine tI 16 33 h_ ?_ (hy := (yieldsIf_load_mid (by rfl) _ _ rfl _ _ rfl DV _ (fun w' h => rdg_rng (h.blk HP3.out fun h => h)) Tryz.underlying23 rfl HIN.out))
 try simp only [pu]
 refine tI 17 34 h_ ?_
 try simp only [pu]
 refine tI 18 35 h_ ?_
 try simp only [pu]
 refine rH 19 (some 36) fun K hK => ?_
 go_simp
 refine (HCD.out _ q v (HK3.out.trans h_ fun _ _ h => h) (HT3.out.stay h_)).mono ?_
 rintro e w9 ⟨rfl, hk9⟩
 have hS9 := h_.trans hk9 (fun _ _ h => h)
 refine hK.out _ _ hS9 (fun h_ => ?_)
 clear hK K
 try simp only [pu]
 refine tI 20 37 h_ ?_
 try simp only [pu]
 refine tI 21 38 h_ ?_
 try simp only [pu]
 refine tI 22 0 h_ ?_
 try simp only [pu]
 refine wpAnyH_done (by kernel_rfl) ?_ _
 have HKF := H_ (HK3.out.trans h_ fun _ _ h => h)
 go_wp2
 go_ret
 exact ⟨rfl, HKF.out⟩
end Go.Proofs.YtplleficmkfniaaGreatDoor
