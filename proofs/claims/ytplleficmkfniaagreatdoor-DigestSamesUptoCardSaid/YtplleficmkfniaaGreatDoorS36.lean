/- Texts. -/
import Derived.Test.YtplleficmkfniaaGreatDoorS35
import Derived.Maps.OwnRows
import Derived.WideKeyEntry
import Derived.DeepKeys4
import Derived.Deep.QuietTactic
set_option linter.unusedSimpArgs false
set_option maxRecDepth 100000
set_option maxHeartbeats 4000000
namespace Go.Proofs.YtplleficmkfniaaGreatDoor
open Go Go.RowKit Go.Aff Go.Json Go.Sha Go.Dig Go.Book
attribute [local go_sem] Oper.semAt_some
theorem errno_assert (v : Value) (w : World) : (Instr.typeAssert (.iface 85 v) 32 85 true).run Tryz.prog w = .ok (.tuple #[v, .bool true]) w := by kernel_rfl
theorem placed_nil (w : World) : (Instr.typeAssert .nilIface 32 234 true).run Tryz.prog w = .ok (.tuple #[.nilIface, .bool false]) w := by kernel_rfl
theorem number_errno (w : World) (k no : Int) : Calls Tryz.prog 33 #[.iface 85 (.int .i64 k), .int .i64 no] w fun e w' => e = .returned (.bool (decide (k = no))) ∧ w' = w := by
 have ha := errno_assert (.int .i64 k) w
 by_cases h : k = no
 ·subst h
  have hd : decide (k = k) = true := by simp
  rw [hd]
  go_enter Tryz.func33, Tryz.ntmps33
  go_wp2
  go_ret
  exact ⟨rfl, rfl⟩
 ·have hd : decide (k = no) = false := by simp [h]
  have hd2 : (k == no) = false := by simp [h]
  rw [hd]
  go_enter Tryz.func33, Tryz.ntmps33
  go_wp2
  go_ret
  exact ⟨rfl, rfl⟩
theorem parse_empty (w : World) : Calls Tryz.prog 56 #[.string ⟨#[]⟩] w fun e w' => e = .returned (.tuple #[.slice none 0 0, .nilIface]) ∧ Keeps (fun _ => False) w w' := by
 have hcv : ∀ W, (convert 9 48 (.string ⟨#[]⟩)).run Tryz.prog W = .ok (.slice (some ⟨W.heap.size, 0, none⟩) 0 (grownCap W 0 0 5)) (Lib.bytesWorld W 5 ⟨#[]⟩) := fun W => Lib.run_convert_string_bytes W _ _ 5 ⟨#[]⟩ Tryz.underlying9 Tryz.underlying48 Tryz.underlying5
 have HUC : Hid (∀ c, Calls Tryz.prog 117 #[.slice (some ⟨w.heap.size, 0, none⟩) 0 c] (Lib.bytesWorld w 5 ⟨#[]⟩) fun e w' => e = .returned .nilIface ∧ Keeps (fun _ => False) w w') := H_ fun c => (checkP_any (Lib.bytesWorld w 5 ⟨#[]⟩) (some ⟨w.heap.size, 0, none⟩) 0 c [] (Rd.nil _ _) (by omega)).mono fun e w' ⟨⟨v, he, hv⟩, hk⟩ => by
  have hp : Go.Utf.placeF [] [] = none := rfl
  rw [hp] at hv
  cases hv
  exact ⟨he, (bytesW_keep w 5 ⟨#[]⟩).trans hk.keeps fun _ _ h => h⟩
 have HCN : Hid (∀ W, Calls Tryz.prog 118 #[.string ⟨#[]⟩, .string ⟨#[47]⟩] W fun e w' => e = .returned (.int .i64 0) ∧ w' = W) := H_ fun W => Tryz.strings_Count_one ⟨#[]⟩ 47 W
 have hpn := placed_nil
 go_enter Tryz.func56, Tryz.ntmps56
 go_upto_block 0 with (go_at_call 117; refine (HUC.out _).mono ?_; rintro e w1 ⟨rfl, hk1⟩; have HK1 := H_ hk1; clear hk1)
 go_wp2
 go_loopw [34] (fun t wx => t = .int .i64 0 ∧ Hid (Keeps (fun _ => False) w wx)) (fun _ _ => 0)
 case atStart => exact ⟨rfl, HK1⟩
 case round =>
  obtain ⟨rfl, HK⟩ := hrel
  go_upto_block 2 with (go_at_call 118; refine (HCN.out _).mono ?_; rintro e w2 ⟨rfl, hw2⟩; subst w2)
  go_wp2
  go_loopw [0, 7] (fun s l wx => s = .string ⟨#[]⟩ ∧ l = .slice none 0 0 ∧ Hid (Keeps (fun _ => False) w wx)) (fun _ _ _ => 0)
  case atStart => exact ⟨rfl, rfl, HK⟩
  case round =>
   obtain ⟨rfl, rfl, HK2⟩ := hrel
   go_wp2
   go_ret2
   exact ⟨rfl, HK2.out⟩
theorem levels_none (w : World) : Calls Tryz.prog 57 #[.slice none 0 0, .agg #[.slice none 0 0]] w fun e w' => e = .returned .nilIface ∧ Keeps (fun _ => False) w w' := by
 have HB : Hid (Keeps (fun _ => False) w (w.alloc (.cells #[.slice none 0 0] 27)) ∧ Blk (w.alloc (.cells #[.slice none 0 0] 27)) w.heap.size 27 [.slice none 0 0]) := H_ ⟨(Keeps.refl _ w).alloc _, Blk.new _ _ _⟩
 go_enter Tryz.func57, Tryz.ntmps57
 go_upto_region 1 with fail
 obtain ⟨N, hN⟩ : ∃ N, N = w.heap.size := ⟨_, rfl⟩
 rw [← hN] at HB ⊢
 refine gen_codeF (fun W => Keeps (fun _ => False) w W ∧ Blk W N 27 [.slice none 0 0]) HB.out ?_
 rintro w1 ⟨k1, b1⟩
 have c0 := b1.cell 0
 have HB1 := H_ (And.intro k1 b1)
 clear k1 b1 HB hN
 go_upto_block 0 with fail
 go_wp2
 go_loopw [13] (fun t wx => t = .int .i64 0 ∧ Hid (wx = w1)) (fun _ _ => 0)
 case atStart => exact ⟨rfl, H_ rfl⟩
 case round =>
  obtain ⟨rfl, HW⟩ := hrel
  have c0' := c0
  rw [← HW.out] at c0'
  go_wp2
  go_ret
  exact ⟨rfl, by rw [HW.out]; exact HB1.out.1⟩
theorem lift_none (w : World) (d : List Int) (hd : d.length = 32) : Calls Tryz.prog 58 #[.agg (vb d).toArray, .slice none 0 0, .agg #[.slice none 0 0]] w fun e w' => e = .returned (.agg (vb d).toArray) ∧ Keeps (fun _ => False) w w' := by
 obtain ⟨DV, hDV⟩ : ∃ DV, DV = vb d := ⟨_, rfl⟩
 have HD1 : Hid (∀ u ∈ DV, u.oneCell' = true) := H_ (by rw [hDV]; exact vb_one _)
 have HDL : Hid (DV.length = 32) := H_ (by rw [hDV, vb_length]; exact hd)
 have HIN : Hid ((Tryz.prog.info? 23).map (·.size) = some DV.length) := H_ (infoDg DV HDL.out)
 rw [← hDV]
 clear hDV hd
 obtain ⟨N, hN⟩ : ∃ N, N = w.heap.size := ⟨_, rfl⟩
 have HB : Hid (Keeps (fun _ => False) w (((w.alloc (.cells DV.toArray 23)).alloc (.cells #[.slice none 0 0] 27)).alloc (.cells (List.replicate 32 (Value.int .u8 0)).toArray 23)) ∧ Blk (((w.alloc (.cells DV.toArray 23)).alloc (.cells #[.slice none 0 0] 27)).alloc (.cells (List.replicate 32 (Value.int .u8 0)).toArray 23)) N 23 DV ∧ Blk (((w.alloc (.cells DV.toArray 23)).alloc (.cells #[.slice none 0 0] 27)).alloc (.cells (List.replicate 32 (Value.int .u8 0)).toArray 23)) (N + 1) 27 [.slice none 0 0] ∧ Blk (((w.alloc (.cells DV.toArray 23)).alloc (.cells #[.slice none 0 0] 27)).alloc (.cells (List.replicate 32 (Value.int .u8 0)).toArray 23)) (N + 2) 23 (List.replicate 32 (Value.int .u8 0))) := H_ ⟨(((Keeps.refl _ w).alloc _).alloc _).alloc _, by rw [hN]; exact ((Blk.new _ _ _).alloc _).alloc _, by
  have h := (Blk.new (w.alloc (.cells DV.toArray 23)) 27 [.slice none 0 0]).alloc (.cells (List.replicate 32 (Value.int .u8 0)).toArray 23)
  rwa [World.size_alloc, ← hN] at h, by
  have h := Blk.new ((w.alloc (.cells DV.toArray 23)).alloc (.cells #[.slice none 0 0] 27)) 23 (List.replicate 32 (Value.int .u8 0))
  rwa [World.size_alloc, World.size_alloc, ← hN] at h⟩
 have HNN := H_ hN
 clear hN
 go_enter Tryz.func58, Tryz.ntmps58
 go_upto_region 1 with fail
 refine gen_codeF (fun W => Keeps (fun _ => False) w W ∧ Blk W N 23 DV ∧ Blk W (N + 1) 27 [.slice none 0 0] ∧ Blk W (N + 2) 23 (List.replicate 32 (Value.int .u8 0))) HB.out ?_
 rintro w1 ⟨k1, b1, p1, z1⟩
 have hNN := HNN.out
 rw [← hNN]
 clear hNN
 have c0 := p1.cell 0
 have HB1 := H_ (And.intro k1 (And.intro b1 z1))
 clear k1 b1 p1 z1 HB
 go_upto_block 0 with fail
 go_wp2
 go_loopw [13] (fun t wx => t = .int .i64 0 ∧ Hid (wx = w1)) (fun _ _ => 0)
 case atStart => exact ⟨rfl, H_ rfl⟩
 case round =>
  obtain ⟨rfl, HW⟩ := hrel
  have HB2 := HB1
  rw [← HW.out] at HB2
  go_wp2_with (first
   | ((with_reducible show wpList _ _ _ (⟨some 47, Op.load 23 _, _, _, _, _⟩ :: _) _ _); refine wpList_load_whole rfl 23 _ rfl _ rfl HB2.out.2.1 Tryz.underlying23 rfl HIN.out ?_)
   | ((with_reducible show wpList _ _ _ (⟨none, Op.store 23 _ _, _, _, _, _⟩ :: _) _ _); refine wpList_store_whole rfl 23 _ _ rfl DV rfl rfl HB2.out.2.2 (by rw [HDL.out]; simp) HIN.out HD1.out ?_))
  refine bodyPost_ret (results_blk rfl _ _ rfl (HB2.out.2.2.setRow DV) Tryz.underlying23 rfl HIN.out) rfl ⟨rfl, ?_⟩
  exact HB2.out.1.setRow (.inr (by have := HNN.out; omega)) _
structure CkBox (w : World) (N : Nat) (WV : List Value) (W : World) : Prop where
 keep : Keeps (fun _ => False) w W
 dig : Blk W N 23 WV
 prf : Blk W (N + 1) 27 [.slice none 0 0]
theorem CkBox.stay {w W W' : World} {N : Nat} {WV : List Value} (h : CkBox w N WV W) (k : Keeps (fun _ => False) W W') : CkBox w N WV W' := ⟨h.keep.trans k fun _ _ h => h, k.blk h.dig fun h => h, k.blk h.prf fun h => h⟩
theorem CkBox.made (w : World) (WV : List Value) : CkBox w w.heap.size WV ((w.alloc (.cells WV.toArray 23)).alloc (.cells #[.slice none 0 0] 27)) := by
 refine ⟨((Keeps.refl _ w).alloc _).alloc _, (Blk.new _ _ _).alloc _, ?_⟩
 have h := Blk.new (w.alloc (.cells WV.toArray 23)) 27 [.slice none 0 0]
 rwa [World.size_alloc] at h
theorem infoPf : (Tryz.prog.info? 27).map (·.size) = some ([Value.slice none 0 0]).length := by kernel_rfl
theorem check_root {D : Nat → Prop} {w : World} {q : Nat} {v : Value} {j : JV} (hG : GW w) (ht : TreeAt D w q v j) (hok : JOk j) (hn : j.nodes ≤ 1048576) (hb : j.bytes ≤ 4194304) (whole : List Int) (hw : whole.length = 32) :
  Calls Tryz.prog 15 #[.agg (vb whole).toArray, .string ⟨#[]⟩, .pointer (some ⟨q, 0, none⟩), .agg #[.slice none 0 0]] w fun e w' => e = .returned (if j.dg = whole then .nilIface else .iface 85 (.int .i64 220)) ∧ Keeps (fun _ => False) w w' := by
 obtain ⟨WV, hWV⟩ : ∃ WV, WV = vb whole := ⟨_, rfl⟩
 obtain ⟨DV, hDV⟩ : ∃ DV, DV = vb j.dg := ⟨_, rfl⟩
 have HD1 : Hid (∀ u ∈ DV, u.oneCell' = true) := H_ (by rw [hDV]; exact vb_one _)
 have HDL : Hid (DV.length = 32) := H_ (by rw [hDV, vb_length]; exact dg_len _)
 have HIN : Hid ((Tryz.prog.info? 23).map (·.size) = some DV.length) := H_ (infoDg DV HDL.out)
 have HIW : Hid ((Tryz.prog.info? 23).map (·.size) = some WV.length) := H_ (infoDg WV (by rw [hWV, vb_length]; exact hw))
 have HOF : Hid (∀ W, Keeps (fun _ => False) w W → Calls Tryz.prog 23 #[.pointer (some ⟨q, 0, none⟩)] W fun e w' => e = .returned (.tuple #[.agg DV.toArray, .nilIface]) ∧ Keeps (fun _ => False) W w') := H_ fun W hW => by rw [hDV]; exact dOf_any (hG.stay hW) (ht.stay hW) hok hn hb
 have HLI : Hid (∀ W, Calls Tryz.prog 58 #[.agg DV.toArray, .slice none 0 0, .agg #[.slice none 0 0]] W fun e w' => e = .returned (.agg DV.toArray) ∧ Keeps (fun _ => False) W w') := H_ fun W => by rw [hDV]; exact lift_none W j.dg (dg_len j)
 obtain ⟨bq, hbq⟩ : ∃ bq, bq = decide (j.dg = whole) := ⟨_, rfl⟩
 have HEQ : Hid (∀ W, (Op.equalIn 10000 23 (.agg DV.toArray) (.agg WV.toArray)).run Tryz.prog W = .ok bq W) := H_ fun W => by rw [hbq, hDV, hWV]; exact eql_in (digest_eql W _ _ (dg_len j) hw)
 obtain ⟨R, hR⟩ : ∃ R, R = if j.dg = whole then Value.nilIface else .iface 85 (.int .i64 220) := ⟨_, rfl⟩
 have HR : Hid (R = if bq then Value.nilIface else .iface 85 (.int .i64 220)) := H_ (by rw [hR, hbq]; by_cases h : j.dg = whole <;> simp [h])
 obtain ⟨N, hN⟩ : ∃ N, N = w.heap.size := ⟨_, rfl⟩
 have HBX := H_ (CkBox.made w WV)
 rw [← hN] at HBX
 have HNN := H_ hN
 rw [← hR, ← hWV]
 clear hG ht hok hn hb hw hWV hDV hbq hR hN
 go_enter Tryz.func15, Tryz.ntmps15
 go_upto_region 1 with fail
 refine gen_codeF (fun W => CkBox w N WV W) (by have hh := HBX.out; have := HNN.out; subst this; exact hh) ?_
 intro w1 hb1
 have hNN := HNN.out
 rw [← hNN]
 clear hNN
 have HB1 := H_ hb1
 clear hb1
 go_upto_region 10 with (first
  | (go_at_call 56; refine (parse_empty _).mono ?_; rintro e w2 ⟨rfl, hk2⟩; have HB2 := H_ (HB1.out.stay hk2); clear hk2)
  | ((with_reducible show wpList _ _ _ (⟨some 26, Op.load 27 _, _, _, _, _⟩ :: _) _ _); refine wpList_load_whole rfl 27 _ rfl _ rfl HB2.out.prf Tryz.underlying27 rfl infoPf ?_)
  | (go_at_call 57; refine (levels_none _).mono ?_; rintro e w3 ⟨rfl, hk3⟩; have HB3 := H_ (HB2.out.stay hk3); clear hk3)
  | (go_at_call 23; refine (HOF.out _ HB3.out.keep).mono ?_; rintro e w4 ⟨rfl, hk4⟩; have HB4 := H_ (HB3.out.stay hk4); have HZ4 := H_ (Blk.new w4 23 (List.replicate 32 (Value.int .u8 0))); clear hk4)
  | ((with_reducible show wpList _ _ _ (⟨none, Op.store 23 _ _, _, _, _, _⟩ :: _) _ _); refine wpList_store_whole rfl 23 _ _ rfl DV rfl rfl HZ4.out (by rw [HDL.out]; simp) HIN.out HD1.out ?_))
 obtain ⟨P, hP⟩ : ∃ P, P = w4.heap.size := ⟨_, rfl⟩
 have HW5 : Hid (CkBox w N WV ((w4.alloc (.cells (List.replicate 32 (Value.int .u8 0)).toArray 23)).setRow w4.heap.size DV.toArray) ∧ Blk ((w4.alloc (.cells (List.replicate 32 (Value.int .u8 0)).toArray 23)).setRow w4.heap.size DV.toArray) P 23 DV) := H_ ⟨HB4.out.stay (((Keeps.refl (fun _ => False) w4).alloc _).setRow (.inr (Nat.le_refl _)) _), by rw [hP]; exact HZ4.out.setRow DV⟩
 rw [← hP] at HW5 ⊢
 refine gen_codeF (fun W => CkBox w N WV W ∧ Blk W P 23 DV) HW5.out ?_
 rintro w5 ⟨x5, b5⟩
 have HB5 := H_ x5
 have HP5 := H_ b5
 clear x5 b5 HW5 hP
 refine wp_region_held_drew (S := (fun V => Keeps (fun _ => False) w5 V)) (by kernel_rfl) (Keeps.refl _ _).drew (fun h_ => ?_)
 refine tI 0 36 h_ ?_ (hy := (yieldsIf_load_mid (by rfl) _ _ rfl _ _ rfl DV _ (fun w' h => rdg_rng (h.blk HP5.out fun h => h)) Tryz.underlying23 rfl HIN.out))
 try simp only [pu]
 refine tI 1 37 h_ ?_
 try simp only [pu]
 refine tI 2 38 h_ ?_ (hy := (yieldsIf_load_mid (by rfl) _ _ rfl _ _ rfl [.slice none 0 0] _ (fun w' h => rdg_rng (h.blk HB5.out.prf fun h => h)) Tryz.underlying27 rfl infoPf))
 try simp only [pu]
 refine tI 4 40 h_ ?_ (hy := (yieldsIf_load_mid (by rfl) _ _ rfl _ _ rfl WV _ (fun w' h => rdg_rng (h.blk HB5.out.dig fun h => h)) Tryz.underlying23 rfl HIW.out))
 try simp only [pu]
 refine rH 3 (some 39) fun K hK => ?_
 go_simp
 refine (HLI.out _).mono ?_
 rintro e w6 ⟨rfl, hk6⟩
 have hS6 := h_.trans hk6 (fun _ _ h => h)
 refine hK.out _ _ hS6 (fun h_ => ?_)
 clear hK K
 try simp only [pu]
 refine tI 5 41 h_ ?_ (hy := .inl ⟨by rfl, by intro w' hSw; have cv := HEQ.out w'; go_simp; first | done | rfl⟩)
 try simp only [pu]
 refine wpAnyH_done (by kernel_rfl) ?_ _
 have HKF := H_ (HB5.out.keep.trans h_ fun _ _ h => h)
 cases bq with
 | true =>
  go_wp2
  go_ret
  exact ⟨by rw [HR.out]; rfl, HKF.out⟩
 | false =>
  go_wp2
  go_ret
  exact ⟨by rw [HR.out]; rfl, HKF.out⟩
theorem null_ok : JOk .null := .mk .null (by decide) (fun h => by simp [JV.sort] at h) (by simp [JV.keys]) (fun k h => by simp [JV.keys] at h) (by decide) (fun x h => by simp [JV.items] at h)
theorem null_fine : Fine .null := .mk .null (fun b h => by cases h) (fun h => by simp [JV.sort] at h) (by simp [JV.items]) (fun x h => by simp [JV.items] at h)
theorem null_at (D : Nat → Prop) (w : World) : RAt D w [.int .i64 1, .bool false, .int .u64 0, .string ⟨#[]⟩, .slice none 0 0, .slice none 0 0] .null := RAt.leaf .null rfl rfl
theorem null_dg : JV.null.dg ≠ zeroD := by
 have h : hsh [110] ≠ zeroD := by decide +kernel
 rw [JV.dg]
 exact h
theorem lof_any {D : Nat → Prop} {w : World} {v : List Value} {j : JV} (hG : GW w) (hv : RAt D w v j) (hD : ∀ i, D i → i < w.heap.size) (hok : JOk j) (hf : Fine j) (hn : j.nodes ≤ 1048576) (hb : j.bytes ≤ 4194304) :
  Calls Tryz.prog 35 #[.agg v.toArray] w fun e w' => e = .returned (.agg (vb j.dg).toArray) ∧ Keeps (fun _ => False) w w' := by
 have hv6 := hv.len
 have HSI : Hid ((Tryz.prog.info? 80).map (·.size) = some v.length) := H_ (by rw [hv6]; kernel_rfl)
 obtain ⟨N, hN⟩ : ∃ N, N = w.heap.size := ⟨_, rfl⟩
 obtain ⟨DV, hDV⟩ : ∃ DV, DV = vb j.dg := ⟨_, rfl⟩
 have HD1 : Hid (∀ u ∈ DV, u.oneCell' = true) := H_ (by rw [hDV]; exact vb_one _)
 have HDL : Hid (DV.length = 32) := H_ (by rw [hDV, vb_length]; exact dg_len _)
 have HIN : Hid ((Tryz.prog.info? 23).map (·.size) = some DV.length) := H_ (infoDg DV HDL.out)
 have HB : Hid (Keeps (fun _ => False) w ((w.alloc (.cells v.toArray 80)).alloc (.cells (List.replicate 32 (Value.int .u8 0)).toArray 23)) ∧ Blk ((w.alloc (.cells v.toArray 80)).alloc (.cells (List.replicate 32 (Value.int .u8 0)).toArray 23)) N 80 v ∧ Blk ((w.alloc (.cells v.toArray 80)).alloc (.cells (List.replicate 32 (Value.int .u8 0)).toArray 23)) (N + 1) 23 (List.replicate 32 (Value.int .u8 0))) := H_ ⟨((Keeps.refl _ w).alloc _).alloc _, by rw [hN]; exact (Blk.new _ _ _).alloc _, by
  have h := Blk.new (w.alloc (.cells v.toArray 80)) 23 (List.replicate 32 (Value.int .u8 0))
  rwa [World.size_alloc, ← hN] at h⟩
 have HOF : Hid (∀ W, Keeps (fun _ => False) w W → Calls Tryz.prog 77 #[.agg v.toArray] W fun e w' => e = .returned (.agg DV.toArray) ∧ Keeps (fun _ => False) W w') := H_ fun W hW => by rw [hDV]; exact rofv_any (hG.stay hW) (hv.stay hW) (fun i hi => Nat.lt_of_lt_of_le (hD i hi) hW.size) hok hf hn hb
 have HNN := H_ hN
 rw [← hDV]
 clear hG hv hD hok hf hn hb hv6 hN hDV
 go_enter Tryz.func35, Tryz.ntmps35
 go_upto_region 1 with fail
 refine gen_codeF (fun W => Keeps (fun _ => False) w W ∧ Blk W N 80 v ∧ Blk W (N + 1) 23 (List.replicate 32 (Value.int .u8 0))) HB.out ?_
 rintro w1 ⟨k1, b1, z1⟩
 have hNN := HNN.out
 rw [← hNN]
 clear hNN
 have HB1 := H_ (And.intro k1 (And.intro b1 z1))
 clear k1 b1 z1 HB
 go_wp2_with (first
  | ((with_reducible show wpList _ _ _ (⟨some 3, Op.load 80 _, _, _, _, _⟩ :: _) _ _); refine wpList_load_whole rfl 80 _ rfl _ rfl HB1.out.2.1 Tryz.underlying80 rfl HSI.out ?_)
  | (go_at_call 77; refine (HOF.out _ HB1.out.1).mono ?_; rintro e w6 ⟨rfl, hk6⟩; have HK6 := H_ (HB1.out.1.trans hk6 fun _ _ h => h); have HZ6 := H_ (hk6.blk HB1.out.2.2 fun h => h); clear hk6)
  | ((with_reducible show wpList _ _ _ (⟨none, Op.store 23 _ _, _, _, _, _⟩ :: _) _ _); refine wpList_store_whole rfl 23 _ _ rfl DV rfl rfl HZ6.out (by rw [HDL.out]; simp) HIN.out HD1.out ?_))
 refine bodyPost_ret (results_blk rfl _ _ rfl (HZ6.out.setRow DV) Tryz.underlying23 rfl HIN.out) rfl ⟨rfl, ?_⟩
 exact HK6.out.setRow (.inr (by have := HNN.out; omega)) _
theorem wakes_any (w : World) (hG : GW w) : Calls Tryz.prog 19 #[] w fun e w' => e = .returned (.bool true) ∧ Keeps (fun _ => False) w w' := by
 have HB := H_ (build_one w)
 obtain ⟨DV, hDV⟩ : ∃ DV, DV = vb JV.null.dg := ⟨_, rfl⟩
 have HD1 : Hid (∀ u ∈ DV, u.oneCell' = true) := H_ (by rw [hDV]; exact vb_one _)
 have HDL : Hid (DV.length = 32) := H_ (by rw [hDV, vb_length]; exact dg_len _)
 have HIN : Hid ((Tryz.prog.info? 23).map (·.size) = some DV.length) := H_ (infoDg DV HDL.out)
 have HN1 : Hid (JV.null.nodes ≤ 1048576 ∧ JV.null.bytes ≤ 4194304) := H_ (by simp [JV.nodes, JV.bytes])
 have HOF : Hid (∀ W q v, Keeps (fun _ => False) w W → TreeAt (fun i => w.heap.size ≤ i) W q v .null → Calls Tryz.prog 23 #[.pointer (some ⟨q, 0, none⟩)] W fun e w' => e = .returned (.tuple #[.agg DV.toArray, .nilIface]) ∧ Keeps (fun _ => False) W w') := H_ fun W q v hW ht => by rw [hDV]; exact dOf_any (hG.stay hW) ht null_ok HN1.out.1 HN1.out.2
 have HLO : Hid (∀ W, Keeps (fun _ => False) w W → Calls Tryz.prog 35 #[.agg #[.int .i64 1, .bool false, .int .u64 0, .string ⟨#[]⟩, .slice none 0 0, .slice none 0 0]] W fun e w' => e = .returned (.agg DV.toArray) ∧ Keeps (fun _ => False) W w') := H_ fun W hW => by rw [hDV]; exact lof_any (D := fun _ => False) (hG.stay hW) (null_at _ W) (fun i h => h.elim) null_ok null_fine HN1.out.1 HN1.out.2
 have HCZ : Hid (∀ W q v, Keeps (fun _ => False) w W → TreeAt (fun i => w.heap.size ≤ i) W q v .null → Calls Tryz.prog 15 #[.agg (List.replicate 32 (Value.int .u8 0)).toArray, .string ⟨#[]⟩, .pointer (some ⟨q, 0, none⟩), .agg #[.slice none 0 0]] W fun e w' => e = .returned (.iface 85 (.int .i64 220)) ∧ Keeps (fun _ => False) W w') := H_ fun W q v hW ht => by
  have h := check_root (hG.stay hW) ht null_ok HN1.out.1 HN1.out.2 zeroD (by unfold zeroD; simp)
  rw [if_neg null_dg, vb_zero] at h
  exact h
 have HCD : Hid (∀ W q v, Keeps (fun _ => False) w W → TreeAt (fun i => w.heap.size ≤ i) W q v .null → Calls Tryz.prog 15 #[.agg DV.toArray, .string ⟨#[]⟩, .pointer (some ⟨q, 0, none⟩), .agg #[.slice none 0 0]] W fun e w' => e = .returned .nilIface ∧ Keeps (fun _ => False) W w') := H_ fun W q v hW ht => by
  have h := check_root (hG.stay hW) ht null_ok HN1.out.1 HN1.out.2 JV.null.dg (dg_len _)
  rw [if_pos rfl, ← hDV] at h
  exact h
 have HEQ : Hid (∀ W, (Op.equalIn 10000 23 (.agg DV.toArray) (.agg DV.toArray)).run Tryz.prog W = .ok true W) := H_ fun W => by
  have h := digest_eql W JV.null.dg JV.null.dg (dg_len _) (dg_len _)
  rw [decide_eq_true rfl, ← hDV] at h
  exact eql_in h
 have HNU : Hid (∀ W, Calls Tryz.prog 33 #[.iface 85 (.int .i64 220), .int .i64 220] W fun e w' => e = .returned (.bool true) ∧ w' = W) := H_ fun W => number_errno W 220 220
 clear hDV hG
 go_enter Tryz.func19, Tryz.ntmps19
 go_upto_region 4 with (go_at_call 13; refine HB.out.mono ?_; rintro e w1 ⟨q, v, rfl, ht, hk⟩; have HT := H_ ht; have HK1 := H_ hk; clear ht hk)
 go_upto_region 5 with (first
  | (go_at_call 23; refine (HOF.out _ q v HK1.out HT.out).mono ?_; rintro e w2 ⟨rfl, hk2⟩; have HK2 := H_ (HK1.out.trans hk2 fun _ _ h => h); have HT2 := H_ (HT.out.stay hk2); have HZ2 := H_ (Blk.new w2 23 (List.replicate 32 (Value.int .u8 0))); clear hk2)
  | ((with_reducible show wpList _ _ _ (⟨none, Op.store 23 _ _, _, _, _, _⟩ :: _) _ _); refine wpList_store_whole rfl 23 _ _ rfl DV rfl rfl HZ2.out (by rw [HDL.out]; simp) HIN.out HD1.out ?_))
 obtain ⟨P, hP⟩ : ∃ P, P = w2.heap.size := ⟨_, rfl⟩
 have HW3 : Hid (Keeps (fun _ => False) w2 ((w2.alloc (.cells (List.replicate 32 (Value.int .u8 0)).toArray 23)).setRow w2.heap.size DV.toArray) ∧ Blk ((w2.alloc (.cells (List.replicate 32 (Value.int .u8 0)).toArray 23)).setRow w2.heap.size DV.toArray) P 23 DV) := H_ ⟨((Keeps.refl (fun _ => False) w2).alloc _).setRow (.inr (Nat.le_refl _)) _, by rw [hP]; exact HZ2.out.setRow DV⟩
 rw [← hP] at HW3 ⊢
 refine gen_codeF (fun W => Keeps (fun _ => False) w2 W ∧ Blk W P 23 DV) HW3.out ?_
 rintro w3 ⟨k3, b3⟩
 have HK3 := H_ (HK2.out.trans k3 fun _ _ h => h)
 have HT3 := H_ (HT2.out.stay k3)
 have HP3 := H_ b3
 clear k3 b3 HW3 hP
 refine wp_region_held_drew (S := (fun V => Keeps (fun _ => False) w3 V)) (by kernel_rfl) (Keeps.refl _ _).drew (fun h_ => ?_)
 refine tI 0 17 h_ ?_
 try simp only [pu]
 refine tI 1 18 h_ ?_
 try simp only [pu]
 refine tI 2 19 h_ ?_
 try simp only [pu]
 refine tI 3 20 h_ ?_ (hy := (yieldsIf_load_mid (by rfl) _ _ rfl _ _ rfl DV _ (fun w' h => rdg_rng (h.blk HP3.out fun h => h)) Tryz.underlying23 rfl HIN.out))
 try simp only [pu]
 refine tI 4 21 h_ ?_
 try simp only [pu]
 refine rH 5 (some 22) fun K hK => ?_
 go_simp
 refine (HLO.out _ (HK3.out.trans h_ fun _ _ h => h)).mono ?_
 rintro e w6 ⟨rfl, hk6⟩
 have hS6 := h_.trans hk6 (fun _ _ h => h)
 refine hK.out _ _ hS6 (fun h_ => ?_)
 clear hK K
 try simp only [pu]
 refine tI 6 23 h_ ?_ (hy := .inl ⟨by rfl, by intro w' hSw; have cv := HEQ.out w'; go_simp; first | done | rfl⟩)
 try simp only [pu]
 refine tI 7 24 h_ ?_
 try simp only [pu]
 refine tI 8 25 h_ ?_
 try simp only [pu]
 refine tI 9 26 h_ ?_
 try simp only [pu]
 refine tI 10 27 h_ ?_
 try simp only [pu]
 refine tI 11 28 h_ ?_
 try simp only [pu]
 refine rH 12 (some 29) fun K hK => ?_
 go_simp
 refine (HCZ.out _ q v (HK3.out.trans h_ fun _ _ h => h) (HT3.out.stay h_)).mono ?_
 rintro e w7 ⟨rfl, hk7⟩
 have hS7 := h_.trans hk7 (fun _ _ h => h)
 refine hK.out _ _ hS7 (fun h_ => ?_)
 clear hK K
 try simp only [pu]
 refine rH 13 (some 30) fun K hK => ?_
 go_simp
 refine (HNU.out _).mono ?_
 rintro e w8 ⟨rfl, hw8⟩
 subst hw8
 refine hK.out _ _ h_ (fun h_ => ?_)
 clear hK K
 try simp only [pu]
 refine tI 14 31 h_ ?_
 try simp only [pu]
 refine tI 15 32 h_ ?_
 try simp only [pu]
 refine tI 16 33 h_ ?_ (hy := (yieldsIf_load_mid (by rfl) _ _ rfl _ _ rfl DV _ (fun w' h => rdg_rng (h.blk HP3.out fun h => h)) Tryz.underlying23 rfl HIN.out))
 try simp only [pu]
 refine tI 17 34 h_ ?_
 try simp only [pu]
 refine tI 18 35 h_ ?_
 try simp only [pu]
 refine rH 19 (some 36) fun K hK => ?_
 go_simp
 refine (HCD.out _ q v (HK3.out.trans h_ fun _ _ h => h) (HT3.out.stay h_)).mono ?_
 rintro e w9 ⟨rfl, hk9⟩
 have hS9 := h_.trans hk9 (fun _ _ h => h)
 refine hK.out _ _ hS9 (fun h_ => ?_)
 clear hK K
 try simp only [pu]
 refine tI 20 37 h_ ?_
 try simp only [pu]
 refine tI 21 38 h_ ?_
 try simp only [pu]
 refine tI 22 0 h_ ?_
 try simp only [pu]
 refine wpAnyH_done (by kernel_rfl) ?_ _
 have HKF := H_ (HK3.out.trans h_ fun _ _ h => h)
 go_wp2
 go_ret
 exact ⟨rfl, HKF.out⟩
end Go.Proofs.YtplleficmkfniaaGreatDoor
namespace Go.Proofs.YtplleficmkfniaaGreatDoor
open Go Go.RowKit Go.Aff Go.Json Go.Sha Go.Dig Go.Book Go.Mac
def Few (t : List Int) : Prop := IsBytes t ∧ t.length ≤ 1073741824
theorem few_cons {a : Int} {l : List Int} (h0 : 0 ≤ a ∧ a < 256) (h : IsBytes l) (hl : l.length < 1073741824) : Few (a :: l) := ⟨cons_bytes h0 h, by rw [List.length_cons]; omega⟩
theorem rowTx_few : ∀ (n : Nat) (ds : List (List Int)), ds.length = n → IsDigs ds → ds ≠ [] → ∀ t ∈ rowTx ds, Few t := by
 intro n
 induction n using Nat.strongRecOn with
 | _ n ih =>
  intro ds hn hd h0 t ht
  by_cases h2 : 2 ≤ ds.length
  ·have s1 := spl_pos ds.length
   have s2 := spl_lt h2
   rw [rowTx_two h2] at ht
   rcases List.mem_append.1 ht with ht | ht
   ·rcases List.mem_append.1 ht with ht | ht
    ·exact ih (spl ds.length) (by omega) _ (by rw [List.length_take]; omega) (hd.take _) (List.ne_nil_of_length_pos (by rw [List.length_take]; omega)) t ht
    ·exact ih (ds.length - spl ds.length) (by omega) _ (by rw [List.length_drop]) (hd.drop _) (List.ne_nil_of_length_pos (by rw [List.length_drop]; omega)) t ht
   ·rw [List.mem_singleton.1 ht]
    exact few_cons (by omega) (app_bytes (rowD_bytes _) (rowD_bytes _)) (by rw [List.length_append, rowD_len, rowD_len]; omega)
  ·match ds, h0, h2, hd with
   | [d], _, _, hd =>
    rw [rowTx_one] at ht
    rw [List.mem_singleton.1 ht]
    have := hd d (by simp)
    exact few_cons (by omega) this.2 (by rw [this.1]; omega)
   | [], h0, _, _ => exact absurd rfl h0
   | _ :: _ :: _, _, h2, _ => simp at h2
theorem allTx_few {ds : List (List Int)} (hd : IsDigs ds) : ∀ t ∈ allTx ds, Few t := fun t ht => by
 unfold allTx at ht
 split at ht
 ·rw [List.mem_singleton.1 ht]
  exact few_cons (by omega) (fun x hx => by cases hx) (by simp)
 ·rename_i h
  exact rowTx_few _ ds rfl hd h t ht
theorem grpT_few (s : Int) (n : Nat) {d : List Int} (hl : d.length = 32) (hb : IsBytes d) : Few (grpT s n d) := by
 unfold grpT
 refine few_cons (by split <;> omega) (app_bytes (eight_bytes n) hb) (by rw [List.length_append, eight_len, hl]; omega)
theorem memT_few {key : ByteArray} (hk : key.size ≤ 4194304) {d : List Int} (hl : d.length = 32) (hb : IsBytes d) : Few (memT key d) := by
 unfold memT
 have h1 := rowF_le [sb key]
 simp only [List.flatten_cons, List.flatten_nil, List.append_nil, List.length_cons, List.length_nil, sb_len] at h1
 exact few_cons (by omega) (app_bytes (rowF_bytes _ (sb_bytes _)) hb) (by rw [List.length_append, hl]; omega)
theorem tx_all : ∀ (j : JV), JOk j → j.bytes ≤ 4194304 → ∀ t ∈ j.tx, Few t := by
 intro j hok
 induction hok with
 | mk j h1 h2 hp hr ht h ih =>
  intro hb t hm
  have hit : ∀ x ∈ j.items, ∀ t ∈ x.tx, Few t := fun x hx => ih x hx (Nat.le_trans (item_bytes hx) hb)
  by_cases hs : j.sort = 5 ∨ j.sort = 6
  ·rw [tx_with hs h2] at hm
   rcases List.mem_append.1 hm with hm | hm
   ·rcases List.mem_append.1 hm with hm | hm
    ·unfold withN at hm
     obtain ⟨l, hl, hm⟩ := List.mem_flatten.1 hm
     obtain ⟨i, hi, rfl⟩ := List.mem_map.1 hl
     cases hx : j.items[i]? with
     | none => rw [hx] at hm; cases hm
     | some x =>
      rw [hx] at hm
      have hxm := List.mem_of_getElem? hx
      unfold txEl at hm
      rcases List.mem_append.1 hm with hm | hm
      ·exact hit x hxm t hm
      ·split at hm
       ·rename_i h6
        rw [List.mem_singleton.1 hm]
        refine memT_few ?_ (dg_len _) (dgv_bytes _)
        have hi2 : i < j.keys.length := by rw [h2 h6]; exact (List.getElem?_eq_some_iff.1 hx).1
        have hky : keyAt j i ∈ j.keys := by
         unfold keyAt
         rw [List.getD_eq_getElem?_getD, List.getElem?_eq_getElem hi2]
         exact List.getElem_mem hi2
        exact Nat.le_trans (key_le hky) hb
       ·cases hm
    ·exact allTx_few row_digs t hm
   ·rw [List.mem_singleton.1 hm]
    exact grpT_few _ _ (rowD_len _) (rowD_bytes _)
  ·cases j with
   | null =>
    rw [JV.tx] at hm
    rw [List.mem_singleton.1 hm]
    exact few_cons (by omega) (fun x hx => by cases hx) (by simp)
   | flag b =>
    rw [JV.tx] at hm
    rw [List.mem_singleton.1 hm]
    exact few_cons (by split <;> omega) (fun x hx => by cases hx) (by simp)
   | num b =>
    rw [JV.tx] at hm
    rw [List.mem_singleton.1 hm]
    exact few_cons (by omega) (eight_bytes b) (by rw [eight_len]; omega)
   | text s =>
    rw [JV.tx] at hm
    rw [List.mem_singleton.1 hm]
    refine few_cons (by omega) (sb_bytes s) ?_
    rw [sb_len]
    rw [JV.bytes] at hb
    omega
   | list l => exact absurd (.inl rfl) hs
   | obj ks l => exact absurd (.inr rfl) hs
theorem clash_cl {a b : List (List Int)} : (∃ i k, ClashAt a b i k) ↔ Cl a b := by
 constructor
 ·rintro ⟨i, k, x, y, h1, h2, h3⟩
  exact ⟨x, List.mem_of_getElem? h1, y, List.mem_of_getElem? h2, h3⟩
 ·rintro ⟨x, h1, y, h2, h3⟩
  obtain ⟨i, hi⟩ := List.mem_iff_getElem?.1 h1
  obtain ⟨k, hk⟩ := List.mem_iff_getElem?.1 h2
  exact ⟨i, k, x, y, hi, hk, h3⟩
theorem JAt.fine {D : Nat → Prop} {w : World} : ∀ {v : Value} {j : JV}, JAt D w v j → JOk j → j.nodes ≤ 1048576 → Fine j := by
 intro v j h
 induction h with
 | null => intro _ _; exact .mk _ (fun b h => by cases h) (fun h => by simp [JV.sort] at h) (by simp [JV.items]) (fun x h => by cases h)
 | flag b => intro _ _; exact .mk _ (fun b h => by cases h) (fun h => by simp [JV.sort] at h) (by simp [JV.items]) (fun x h => by cases h)
 | num b hf hz hb => intro _ _; exact .mk _ (fun c h => by injection h with h; omega) (fun h => by simp [JV.sort] at h) (by simp [JV.items]) (fun x h => by cases h)
 | text s => intro _ _; exact .mk _ (fun b h => by cases h) (fun h => by simp [JV.sort] at h) (by simp [JV.items]) (fun x h => by cases h)
 | @list b A c vs l hD hb hr ho hl ih =>
  intro hok hn
  have hnn := items_nodes (.list l)
  refine .mk _ (fun b h => by cases h) hok.form.2.1 (by omega) fun x hx => ?_
  obtain ⟨i, hi⟩ := List.mem_iff_getElem?.1 hx
  have hi' : l[i]? = some x := hi
  obtain ⟨v, hv⟩ : ∃ v, vs[i]? = some v := ⟨_, List.getElem?_eq_getElem (by rw [hr.1]; exact (List.getElem?_eq_some_iff.1 hi').1)⟩
  exact ih i v x hv hi' (hok.form.2.2.2.2.2 x hx) (Nat.le_trans (nodes_item hx) hn)
 | @obj b A B c d vs ks l hD hb hk hko hr ho hl ih =>
  intro hok hn
  have hnn := items_nodes (.obj ks l)
  refine .mk _ (fun b h => by cases h) hok.form.2.1 (by omega) fun x hx => ?_
  obtain ⟨i, hi⟩ := List.mem_iff_getElem?.1 hx
  have hi' : l[i]? = some x := hi
  obtain ⟨v, hv⟩ : ∃ v, vs[i]? = some v := ⟨_, List.getElem?_eq_getElem (by rw [hr.1]; exact (List.getElem?_eq_some_iff.1 hi').1)⟩
  exact ih i v x hv hi' (hok.form.2.2.2.2.2 x hx) (Nat.le_trans (nodes_item hx) hn)
end Go.Proofs.YtplleficmkfniaaGreatDoor
namespace Go.Aff
open Go Go.RowKit Go.Maps Go.WideElems
theorem Keeps.groups {H : Type} {P : Program} {k : TypeId} {F : Nat → Prop} {w w' : World} {base b n : Nat} {e : TypeId} {q : IntKind} {D : DataW H} (hk : Keeps F w w') (h : w.ownsGroups P k base e q b n D) (hF : ∀ i, b ≤ i → ¬ F i) : w'.ownsGroups P k base e q b n D := by
 obtain ⟨es, clock, hb, F0, hs, rfl, hbb, hlen, hap⟩ := h
 have hblt : b < w.heap.size := (Array.getElem?_eq_some_iff.1 hb).1
 have hown : ∀ v zs, w.ownsInts base e q v zs → w'.ownsInts base e q v zs := fun v zs ho => ⟨hk.own ho.1 fun g hg => hF g (by have := (ho.1.lt g hg).1; omega), ho.2⟩
 have hst : ∀ x ∈ es.toList, ∀ z, rowElem (H := H) w base e q x.val = some z → rowElem w' base e q x.val = some z := fun x _ z hz => by
  obtain ⟨zs, ho, rfl⟩ := rowElem_inv hz
  exact rowElem_mk (hown _ _ ho)
 obtain ⟨F1, hmap, _⟩ := F0.stay hst
 refine ⟨es, clock, (hk.block b hblt (hF b (Nat.le_refl _))).trans hb, F1, hs, by rw [hmap], hbb, fun x hx zs ho => ?_, hap⟩
 obtain ⟨y, hy⟩ := F0.reads x hx
 obtain ⟨z, hz, _⟩ := rd_val hy
 obtain ⟨zs0, ho0, _⟩ := rowElem_inv hz
 rw [ho.unique (hown _ _ ho0)]
 exact hlen x hx zs0 ho0
theorem key_one : ∀ {l : List MapEntry}, (l.map (·.key)).Nodup → ∀ {x y : MapEntry}, x ∈ l → y ∈ l → x.key = y.key → x = y
 | [], _, _, _, h, _, _ => by cases h
 | a :: l, h, x, y, hx, hy, e => by
  rw [List.map_cons, List.nodup_cons] at h
  rcases List.mem_cons.1 hx with rfl | hx2 <;> rcases List.mem_cons.1 hy with rfl | hy2
  ·rfl
  ·exact absurd (List.mem_map.2 ⟨y, hy2, e.symm⟩) h.1
  ·exact absurd (show y.key ∈ l.map (·.key) from List.mem_map.2 ⟨x, hx2, e⟩) h.1
  ·exact key_one h.2 hx2 hy2 e
open Go.ChangeMaps (setBlock heap_setBlock_same heap_setBlock_other) in
theorem groups_entry {H : Type} {P : Program} {t k E : TypeId} {w : World} {base b n : Nat} {e : TypeId} {q : IntKind} {D : DataW H} {key : Value} {kl : Lit} (h : w.ownsGroups P k base e q b n D) (K : Go.WideMaps.KeyLaw P k) (ht : P.underlying t = some (.map k E)) (hz : ∀ u : World, (zeroValue E).run P u = .ok (.slice none 0 0) u) (hn : n < maxLen) (hkey : keyOf P k key = some kl) :
  ∃ v zs st w1, (Instr.mapEntry t (.map (some b)) key).run P w = .ok (.tuple #[v, goInt st]) w1 ∧ w.grownBy w1 (some b) ∧ D.atKey kl .nil = rowDatum q v zs ∧ w1.ownsInts base e q v zs ∧ zs.length ≤ n ∧
   ∀ (w2 : World) (v' : Value) (zs' : List Int), w1.grownBy w2 v.ownBlock → w2.ownsInts base e q v' zs' → zs'.length ≤ n + 1 → (v'.ownBlock = v.ownBlock ∨ ∃ g, v'.ownBlock = some g ∧ w1.heap.size ≤ g) →
    ∃ w3, (Instr.entryStore t (.map (some b)) (goInt st) v').run P w2 = .ok () w3 ∧ w3.ownsGroups P k base e q b (n + 1) (D.put kl (rowDatum q v' zs')) ∧ w2.grownBy w3 (some b) := by
 have K2 := Keyed.of_law K
 obtain ⟨v, zs, hlook, hat, hvo, hzl, _⟩ := h.at K2 ht (hz w) hn hkey
 obtain ⟨es, clock, hb, F, hs, rfl, hbb, hlen, hap⟩ := h
 have hblt : b < w.heap.size := (Array.getElem?_eq_some_iff.1 hb).1
 obtain ⟨v0, st, es1, clock1, hrun, hwho0, hst⟩ := entry_then_store K ht hz hb F hkey
 have hvv : v0 = v ∧ ∀ x ∈ es.toList, x.key ≠ key → x.val.ownBlock = none ∨ x.val.ownBlock ≠ v.ownBlock := by
  rcases Maps.fit_look false K2 ht (hz w) hb F hkey with ⟨hl, hno, _⟩ | ⟨e0, y, hm0, h3, hl, _⟩
  ·rw [hlook] at hl
   obtain rfl : v = .slice none 0 0 := by simpa using hl
   rcases hwho0 with ⟨e0, hm, hk, _⟩ | ⟨_, h0⟩
   ·exact absurd hk (hno e0 hm)
   ·exact ⟨h0, fun x _ _ => by cases x.val.ownBlock <;> simp [Value.ownBlock]⟩
  ·rw [hlook] at hl
   obtain rfl : v = e0.val := by simpa using hl
   rcases hwho0 with ⟨e1, hm, hk, h0⟩ | ⟨hno, _⟩
   ·have : e1 = e0 := key_one F.stamped.2.2 hm hm0 (hk.trans h3.symm)
    subst this
    exact ⟨h0, fun x hx hne => hap x hx e1 hm (by rw [hk]; exact hne)⟩
   ·exact absurd h3 (hno e0 hm0)
 obtain ⟨rfl, hv⟩ := hvv
 have hg1 : w.grownBy (setBlock w b (.map es1 clock1)) (some b) := ⟨rfl, rfl, rfl, by simp [setBlock], fun i _ hi => heap_setBlock_other hb _ (fun e1 => hi (by rw [e1]))⟩
 have own_ne : ∀ {W : World} {u : Value} {ys : List Int}, W.ownsInts base e q u ys → u.ownBlock = none ∨ u.ownBlock ≠ some b := fun {W u ys} ho => by
  cases hu : u.ownBlock with
  | none => exact .inl rfl
  | some g =>
   refine .inr fun e1 => ?_
   have := (ho.1.lt g hu).1
   cases e1
   omega
 refine ⟨v0, zs, st, _, hrun, hg1, hat, hvo.kept hg1 (own_ne hvo), hzl, fun w2 v' zs' hg hown' hl' hloc => ?_⟩
 have hsz : (setBlock w b (.map es1 clock1)).heap.size = w.heap.size := by simp [setBlock]
 have hb1 : w2.heap[b]? = some (.map es1 clock1) := (hg.block b (by rw [hsz]; exact hblt) (fun e1 => by have := (hvo.1.lt b e1.symm).1; omega)).trans (heap_setBlock_same hb _)
 obtain ⟨es', clock', hrunS, hrunU⟩ := hst w2 v' hb1
 have owned : ∀ x ∈ es.toList, ∃ ys, w.ownsInts base e q x.val ys := fun x hx => by
  obtain ⟨y, hy⟩ := F.reads x hx
  obtain ⟨z, hz, _⟩ := rd_val hy
  obtain ⟨ys, ho, _⟩ := rowElem_inv hz
  exact ⟨ys, ho⟩
 have keptx : ∀ x ∈ es.toList, x.key ≠ key → ∀ ys, w.ownsInts base e q x.val ys → w2.ownsInts base e q x.val ys := fun x hx hne ys ho => (ho.kept hg1 (own_ne ho)).kept hg (hv x hx hne)
 have hs1 : ∀ x ∈ es.toList, x.key ≠ key → ∀ z, rowElem (H := H) w base e q x.val = some z → rowElem w2 base e q x.val = some z := fun x hx hne z hz => by
  obtain ⟨ys, ho, rfl⟩ := rowElem_inv hz
  exact rowElem_mk (keptx x hx hne ys ho)
 obtain ⟨es2, clock2, hrun2, F', hput, _, _, hwho⟩ := Maps.fit_store (R' := rowElem w2 base e q) K2 ht hb F (Nat.lt_of_le_of_lt hs hn) hs1 hkey (rowElem_mk hown')
 obtain ⟨rfl, rfl⟩ : es2 = es' ∧ clock2 = clock' := by
  rw [hrunU] at hrun2
  have h1 : setBlock w b (.map es' clock') = setBlock w b (.map es2 clock2) := by simpa using hrun2
  have h2 : (setBlock w b (.map es' clock')).heap[b]? = (setBlock w b (.map es2 clock2)).heap[b]? := by rw [h1]
  rw [heap_setBlock_same hb, heap_setBlock_same hb] at h2
  simpa using h2.symm
 have hg2 : w2.grownBy (setBlock w2 b (.map es2 clock2)) (some b) := ⟨rfl, rfl, rfl, by simp [setBlock], fun i _ hi => heap_setBlock_other hb1 _ (fun e1 => hi (by rw [e1]))⟩
 have hs2 : ∀ x ∈ es2.toList, ∀ z, rowElem (H := H) w2 base e q x.val = some z → rowElem (setBlock w2 b (.map es2 clock2)) base e q x.val = some z := fun x _ z hz => by
  obtain ⟨ys, ho, rfl⟩ := rowElem_inv hz
  exact rowElem_mk (ho.kept hg2 (own_ne ho))
 obtain ⟨F2, hmap2, _⟩ := F'.stay hs2
 have old_new : ∀ x ∈ es.toList, x.key ≠ key → x.val.ownBlock = none ∨ x.val.ownBlock ≠ v'.ownBlock := fun x hx hne => by
  rcases hloc with h1 | ⟨g, h1, h2⟩
  ·rw [h1]
   exact hv x hx hne
  ·cases hx' : x.val.ownBlock with
   | none => exact .inl rfl
   | some gx =>
    obtain ⟨ys, ho⟩ := owned x hx
    have := (ho.1.lt gx hx').2
    refine .inr fun e1 => ?_
    rw [h1] at e1
    cases e1
    omega
 refine ⟨_, hrunS, ⟨es2, clock2, heap_setBlock_same hb1 _, F2, ?_, ?_, hbb, ?_, ?_⟩, hg2⟩
 ·have e1 : es2.size = ((es2.toList.map (rg P k (rowElem (H := H) w2 base e q))).foldr DataW.insert []).length := by rw [length_sorted]; simp
  rw [e1, hput]
  unfold ChangeMaps.putKey
  rw [length_insert]
  have e2 := List.length_filter_le (ChangeMaps.notKey kl) ((es.toList.map (rg P k (rowElem (H := H) w base e q))).foldr DataW.insert [])
  rw [length_sorted] at e2
  simp at e2
  omega
 ·rw [hmap2, DataW.put_eq, hput]
 ·intro x hx ys ho
  have back : w2.ownsInts base e q x.val ys := by
   obtain ⟨y, hy⟩ := F'.reads x hx
   obtain ⟨z, hz, _⟩ := rd_val hy
   obtain ⟨ys', ho', _⟩ := rowElem_inv hz
   rw [ho.unique (ho'.kept hg2 (own_ne ho'))]
   exact ho'
  rcases hwho x hx with ⟨hx0, hne⟩ | ⟨_, hval⟩
  ·obtain ⟨ys0, ho0⟩ := owned x hx0
   have := hlen x hx0 ys0 ho0
   rw [back.unique (keptx x hx0 hne ys0 ho0)]
   omega
  ·rw [hval] at back
   rw [back.unique hown']
   exact hl'
 ·intro x hx y hy hne
  rcases hwho x hx with ⟨hx0, hxk⟩ | ⟨hxk, hxv⟩ <;> rcases hwho y hy with ⟨hy0, hyk⟩ | ⟨hyk, hyv⟩
  ·exact hap x hx0 y hy0 hne
  ·rw [hyv]
   exact old_new x hx0 hxk
  ·rw [hxv]
   cases hv' : v'.ownBlock with
   | none => exact .inl rfl
   | some g =>
    refine .inr fun e1 => ?_
    rcases old_new y hy0 hyk with h | h
    ·rw [h] at e1
     cases e1
    ·exact h (by rw [hv', e1])
  ·exact absurd (hxk.trans hyk.symm) hne
end Go.Aff
namespace Go.Proofs.YtplleficmkfniaaGreatDoor
open Go Go.RowKit Go.Sha Go.Aff Go.Dig Go.ChangeShapes
theorem key_wide : (match Tryz.prog.underlying 23 with | some (.array _ _) | some (.struct _) => true | _ => false) = true := by kernel_rfl
theorem key_deep : Tryz.prog.keyTypeAt 2 23 = true := by kernel_rfl
theorem key_deep2 : Tryz.prog.keyType 23 = true := by kernel_rfl
theorem laidOutK : laidOutB Tryz.prog = true := by kernel_rfl
theorem key_row : decide (23 < Tryz.prog.types.size) = true := by kernel_rfl
theorem key_low : Go.WideMaps.KeyLaw Tryz.prog 23 := deep_law_laid laidOutK (m := 2) (by omega) (of_decide_eq_true key_row) key_deep key_wide
theorem key_law : Maps.Keyed Tryz.prog 23 := Maps.Keyed.of_law key_low
theorem mapM_some {α β : Type} (f : α → Option β) : ∀ l : List α, (∀ x ∈ l, ∃ y, f x = some y) → ∃ r, l.mapM f = some r
 | [], _ => ⟨[], rfl⟩
 | x :: l, h => by
  obtain ⟨y, hy⟩ := h x (by simp)
  obtain ⟨r, hr⟩ := mapM_some f l (fun z hz => h z (by simp [hz]))
  exact ⟨y :: r, by simp [hy, hr]⟩
theorem cells_dig : Tryz.prog.cellsOf 23 = 32 := by kernel_rfl
theorem cells_u8 : Tryz.prog.cellsOf 5 = 1 := by kernel_rfl
theorem key_dig (d : List Int) (hd : IsDig d) : ∃ kl, keyOf Tryz.prog 23 (.agg (vb d).toArray) = some kl := by
 have hl : (vb d).length = 32 := by rw [vb_length]; exact hd.1
 have hf : (Value.agg (vb d).toArray).formed Tryz.prog 23 = true := by
  simp only [Value.formed, Tryz.underlying23, cells_dig, List.size_toArray, hl]
  rfl
 obtain ⟨T, hT⟩ : ∃ T, Tryz.prog.types.size = T + 1 := ⟨Tryz.prog.types.size - 1, by have := of_decide_eq_true key_row; omega⟩
 have hk : ∃ ls, Tryz.prog.keyLits (Tryz.prog.types.size + 1) 23 (vb d) = some ls := by
  rw [hT]
  unfold Program.keyLits
  simp only [Tryz.underlying23, cells_dig, cells_u8, hl, if_true]
  obtain ⟨r, hr⟩ := mapM_some (fun i => Tryz.prog.keyLits (T + 1) 5 (((vb d).drop (i * 1)).take 1)) (List.range 32) (fun i hi => by
   have hi' : i < d.length := by rw [hd.1]; simpa using hi
   obtain ⟨x, hx⟩ : ∃ x, d[i]? = some x := ⟨_, List.getElem?_eq_getElem hi'⟩
   have hb := hd.2 x (List.mem_of_getElem? hx)
   have e1 : ((vb d).drop (i * 1)).take 1 = [.int .u8 x] := by
    rw [Nat.mul_one]
    apply List.ext_getElem?
    intro j
    rw [List.getElem?_take]
    by_cases hj : j < 1
    ·obtain rfl : j = 0 := by omega
     simp [List.getElem?_drop, vb, hx]
    ·rw [if_neg hj]
     simp [List.getElem?_eq_none (show ([Value.int .u8 x]).length ≤ j by simp; omega)]
   refine ⟨[.int .u8 x], ?_⟩
   simp only [e1]
   unfold Program.keyLits
   simp only [Tryz.underlying5]
   have hwf : (Lit.int .u8 x).wf = true := by have m1 : IntKind.u8.min = 0 := rfl; have m2 : IntKind.u8.max = 255 := rfl; simp [Lit.wf, m1, m2]; omega
   rw [if_pos ⟨trivial, hwf⟩])
  rw [hr]
  exact ⟨_, rfl⟩
 obtain ⟨ls, hls⟩ := hk
 refine ⟨.string (keyBytes ls), ?_⟩
 unfold keyOf
 simp only [Tryz.underlying23, key_deep2, hf, Bool.and_self, if_true]
 show (Tryz.prog.keyLits (Tryz.prog.types.size + 1) 23 (Value.agg (vb d).toArray).cells.toList).map _ = _
 have e2 : (Value.agg (vb d).toArray).cells.toList = vb d := by simp [Value.cells]
 rw [e2, hls]
 rfl
noncomputable def kOf (d : List Int) : Lit := (keyOf Tryz.prog 23 (.agg (vb d).toArray)).getD .nil
theorem kOf_eq {d : List Int} (hd : IsDig d) : keyOf Tryz.prog 23 (.agg (vb d).toArray) = some (kOf d) := by
 obtain ⟨kl, h⟩ := key_dig d hd
 unfold kOf
 rw [h]
 rfl
theorem vb_inj {a b : List Int} (h : vb a = vb b) : a = b := by
 have : (a.map (Value.int .u8)) = (b.map (Value.int .u8)) := h
 exact (List.map_inj_right (fun x y hxy => by injection hxy)).1 this
theorem kOf_inj {a b : List Int} (ha : IsDig a) (hb : IsDig b) (h : kOf a = kOf b) : a = b := by
 have h1 := kOf_eq ha
 have h2 := kOf_eq hb
 rw [h] at h1
 have h3 := key_law.inj h1 h2
 injection h3 with h3
 exact vb_inj (by simpa using h3)
theorem zero_ints (w : World) : (zeroValue 155).run Tryz.prog w = .ok (.slice none 0 0) w := by kernel_rfl
def datumOf (l : List Nat) : DataW Unit := if l = [] then .nil else .slice (lits .i64 (l.map fun (n : Nat) => (n : Int))) []
def GrpMap (D : DataW Unit) (b : List (List Int)) (k : Nat) : Prop := Maps.IsMap D ∧ ∀ d, IsDig d → D.atKey (kOf d) .nil = datumOf (places b k d)
theorem GrpMap.zero (b : List (List Int)) : GrpMap (.map []) b 0 := ⟨⟨[], rfl⟩, fun d _ => by rw [places_zero]; rfl⟩
theorem lits_inj : ∀ {a b : List Int}, lits (H := Unit) .i64 a = lits .i64 b → a = b
 | [], [], _ => rfl
 | [], _ :: _, h => by cases h
 | _ :: _, [], h => by cases h
 | x :: a, y :: b, h => by
  have h' : DataW.lit (.int .i64 x) :: lits (H := Unit) .i64 a = .lit (.int .i64 y) :: lits .i64 b := h
  injection h' with h1 h2
  injection h1 with h1
  injection h1 with _ h1
  rw [h1, lits_inj h2]
theorem dig_hsh (t : List Int) : IsDig (hsh t) := ⟨hsh_len t, hsh_bytes t⟩
theorem GrpMap.row {D : DataW Unit} {b : List (List Int)} {k base : Nat} {e : TypeId} {w : World} {v : Value} {zs : List Int} {d : List Int} (h : GrpMap D b k) (hd : IsDig d) (ha : D.atKey (kOf d) .nil = rowDatum .i64 v zs) (ho : w.ownsInts base e .i64 v zs) : zs = (places b k d).map fun (n : Nat) => (n : Int) := by
 rw [h.2 d hd] at ha
 unfold datumOf at ha
 rcases ho.datum (H := Unit) with ⟨h1, h2⟩ | h1
 ·rw [h1] at ha
  split at ha
  ·rename_i h0; rw [h2, h0]; rfl
  ·cases ha
 ·rw [h1] at ha
  split at ha
  ·cases ha
  ·injection ha with ha
   exact (lits_inj ha).symm
theorem GrpMap.step {D : DataW Unit} {b : List (List Int)} {k base : Nat} {e : TypeId} {w : World} {v : Value} {y : List Int} (h : GrpMap D b k) (hy : b[k]? = some y) (ho : w.ownsInts base e .i64 v (((places b k (hsh y)).map fun (n : Nat) => (n : Int)) ++ [(k : Int)])) :
  GrpMap (D.put (kOf (hsh y)) (rowDatum .i64 v (((places b k (hsh y)).map fun (n : Nat) => (n : Int)) ++ [(k : Int)]))) b (k + 1) := by
 have hkl : WideAt.IsKeyLit (kOf (hsh y)) := key_law.key (kOf_eq (dig_hsh y))
 refine ⟨h.1.put _ _, fun d hd => ?_⟩
 rw [places_step hy]
 by_cases he : d = hsh y
 ·subst he
  rw [Maps.atKey_put_same h.1 hkl, ho.datum_pos (by simp), if_pos rfl]
  unfold datumOf
  rw [if_neg (by simp)]
  simp
 ·rw [Maps.atKey_put_other (fun e' => he (kOf_inj hd (dig_hsh y) e')), h.2 d hd, if_neg (fun e' => he e'.symm), List.append_nil]
theorem wf_nat (k : Nat) (h : k ≤ 9007199254740992) : (Lit.int .i64 (k : Int)).wf = true := by
 have m1 : IntKind.i64.min = -9223372036854775808 := rfl
 have m2 : IntKind.i64.max = 9223372036854775807 := rfl
 simp [Lit.wf, m1, m2]
 omega
end Go.Proofs.YtplleficmkfniaaGreatDoor
