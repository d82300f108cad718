/- Texts. -/
import Derived.Test.YtplleficmkfniaaGreatDoorQ28
set_option linter.unusedSimpArgs false
set_option maxRecDepth 100000
set_option maxHeartbeats 4000000
namespace Go.Proofs.YtplleficmkfniaaGreatDoor
open Go Go.RowKit Go.Aff Go.Json
theorem len_any {D : Nat → Prop} {w : World} {v : Value} {j : JV} (h : JAt D w v j) (W : World) (hW : Keeps (fun _ => False) w W) : Calls Tryz.prog 81 #[.agg #[v]] W fun e w' => e = .returned (.int .i64 j.items.length) ∧ Keeps (fun _ => False) W w' := by
 obtain ⟨A, c, vs, hi, hc⟩ := items_inv h
 obtain ⟨T, x, rfl⟩ := h.iface
 obtain ⟨n, hn⟩ : ∃ n, n = j.items.length := ⟨_, rfl⟩
 rw [← hn] at hc ⊢
 have c0 := (Blk.new W 95 [.iface T x]).cell 0
 have HK := H_ ((Keeps.refl (fun _ => False) W).alloc (.cells #[.iface T x] 95))
 have HC := H_ (hc (W.alloc (.cells #[.iface T x] 95)) (hW.alloc _))
 clear hc hi h hn
 go_enter Tryz.func81, Tryz.ntmps81
 go_wp2_with (go_at_call 84; refine HC.out.mono ?_; rintro e w2 ⟨rfl, hk2⟩; have HK2 := H_ hk2; clear hk2)
 go_ret
 exact ⟨rfl, HK.out.trans HK2.out (fun _ _ h => h)⟩
end Go.Proofs.YtplleficmkfniaaGreatDoor
namespace Go.Proofs.YtplleficmkfniaaGreatDoor
open Go Go.RowKit Go.Aff Go.Json Go.Dig Go.Book
attribute [local go_sem] Oper.semAt_some
theorem of_off {S : (Nat → Prop) → World → List (List Int) → Prop} {E E3 : Nat → Prop} {w1 w2 w3 : World} {N : Nat} {l3 : List (List Int)} (hN : ¬ E N ∧ ¬ E (N + 1)) (h2 : N + 1 < w1.heap.size) (k : Keeps (fun _ => False) w1 w2) (ht : Took S E E3 w2 w3 l3) : ¬ E3 N ∧ ¬ E3 (N + 1) := by
 have hs := k.size
 exact ⟨fun e => (ht.new _ e).elim hN.1 fun h => by omega, fun e => (ht.new _ e).elim hN.2 fun h => by omega⟩
theorem blk_rngD {w : World} {p : Nat} {ty : TypeId} {cs : List Value} (h : Blk w p ty cs) : w.rangeAt p 0 cs := fun j v hv => by rw [Nat.zero_add, h.cell]; exact hv
theorem of_list {fv : Value} {D E : Nat → Prop} {w : World} {l : List (List Int)} {v : Value} {j : JV} (h : WiIn fv D E w l v j) (hok : JOk j) (hs : j.sort = 5) (hn : j.nodes ≤ 1048576) (hky : ∀ k ∈ j.keys, k.size ≤ 4194304) (ih : OfAll fv j) :
  Calls Tryz.prog 67 #[fv, .agg #[v]] w (DOf fv E w l j) := by
 have hkl : j.sort = 6 → j.keys.length = j.items.length := hok.form.2.1
 have hs56 : j.sort = 5 ∨ j.sort = 6 := by omega
 obtain ⟨T, y, hv⟩ := h.at_.iface
 subst hv
 unfold DOf
 obtain ⟨n, hnn⟩ : ∃ n, n = j.items.length := ⟨_, rfl⟩
 obtain ⟨DR, hDR⟩ : ∃ DR, DR = rowD (rowOf j) := ⟨_, rfl⟩
 have hDRl : DR.length = 32 ∧ IsBytes DR := by rw [hDR]; exact ⟨rowD_len _, rowD_bytes _⟩
 obtain ⟨DV, hDV⟩ : ∃ DV, DV = vb j.dg := ⟨_, rfl⟩
 have HD1 : Hid (∀ u ∈ DV, u.oneCell' = true) := H_ (by rw [hDV]; exact vb_one _)
 have HDL : Hid (DV.length = 32) := H_ (by rw [hDV, vb_length]; exact dg_len _)
 have HIN : Hid ((Tryz.prog.info? 23).map (·.size) = some DV.length) := H_ (infoDg DV HDL.out)
 obtain ⟨RV, hRV⟩ : ∃ RV, RV = vb DR := ⟨_, rfl⟩
 have HDR : Hid (RV.length = 32 ∧ ∀ u ∈ RV, u.oneCell' = true) := H_ ⟨by rw [hRV, vb_length]; exact hDRl.1, by rw [hRV]; exact vb_one _⟩
 have htx := tx_with hs56 hkl
 have hdg := dg_with hs56
 rw [← hnn, ← hDR, hs] at htx hdg
 have hnodes := withN_all j
 have hroom := h.room
 have hnl : n ≤ j.nodes := by have h1 := len_nodes j.items; have h2 := JV.nodes_eq j; omega
 rw [← hnn] at hnodes
 obtain ⟨LL, hLL⟩ : ∃ LL, LL = l ++ j.tx := ⟨_, rfl⟩
 rw [← hDV, ← hLL]
 obtain ⟨N, hN⟩ : ∃ N, N = w.heap.size := ⟨_, rfl⟩
 have hal := allTx_len (rowOf j)
 rw [row_len hs56 hkl, ← hnn] at hal
 have HVA : Hid (∀ W, Keeps (fun _ => False) w W → Calls Tryz.prog 137 #[.agg #[.iface T y]] W fun e w' => ∃ A m c, e = .returned (.iface 317 (.slice A m c)) ∧ Keeps (fun _ => False) W w') := H_ fun W hW =>
  (val_any j hok hn D W (.iface T y) (h.at_.stay hW)).mono fun e w' ⟨v', he, hv', hk⟩ => by
   cases hv' with
   | list l' A n' c => exact ⟨A, n', c, he, hk⟩
   | null | flag | num | text | obj => simp [JV.sort] at hs
 have HWI : Hid (∀ W, Keeps (fun _ => False) w W → Calls Tryz.prog 94 #[fv, .agg #[.iface T y]] W fun e w' => ∃ A c E', e = .returned (.slice A n c) ∧ Hid (Took (TkSt fv) E E' W w' (l ++ withN j n) ∧ RdD w' A n (rowOf j) ∧ Out E' A n ∧ n ≤ c)) := H_ fun W hW => by
  refine (dwithin_any (D := D) (E := E) (l := l) ⟨h.st.stay (tkLasts _) hW, h.at_.stay hW, h.off, h.room⟩ hs56 hkl hky ih).mono ?_
  rintro e w' ⟨A, c, E', he, h1, h2, h3, h4, _⟩
  rw [← hnn] at he h1 h2 h3 h4
  exact ⟨A, c, E', he, H_ ⟨h1, h2, h3, h4⟩⟩
 have HRO : Hid (∀ E1 w1 A c, Tkg (TkSt fv) E1 w1 (l ++ withN j n) → RdD w1 A n (rowOf j) → Out E1 A n → n ≤ c → Calls Tryz.prog 70 #[fv, .slice A n c] w1 fun e w' => e = .returned (.agg RV.toArray) ∧ ∃ E', Took (TkSt fv) E1 E' w1 w' (l ++ withN j n ++ allTx (rowOf j))) := H_ fun E1 w1 A c h1 h2 h3 h4 => by
  have h5 := row_any h1 A n c (rowOf j) h2 h3 h4 (by omega) (by rw [List.length_append]; omega)
  rw [← hDR, ← hRV] at h5
  exact h5
 have HSO : Hid (∀ W, Calls Tryz.prog 47 #[.agg #[.iface T y]] W fun e w' => e = .returned (.int .i64 5) ∧ Keeps (fun _ => False) W w') := H_ fun W => by have := refsort_any h.at_ W; rwa [hs] at this
 have HLE : Hid (∀ W, Keeps (fun _ => False) w W → Calls Tryz.prog 81 #[.agg #[.iface T y]] W fun e w' => e = .returned (.int .i64 n) ∧ Keeps (fun _ => False) W w') := H_ fun W hW => by have := len_any h.at_ W hW; rwa [← hnn] at this
 have HLJ : Hid (∀ V, JAt D V (.iface T y) j → ∀ W, Keeps (fun _ => False) V W → Calls Tryz.prog 81 #[.agg #[.iface T y]] W fun e w' => e = .returned (.int .i64 n) ∧ Keeps (fun _ => False) W w') := H_ fun V hV W hW => by have := len_any hV W hW; rwa [← hnn] at this
 have HGR : Hid (∀ E1 w1, Tkg (TkSt fv) E1 w1 (l ++ withN j n ++ allTx (rowOf j)) → Calls Tryz.prog 73 #[fv, .int .i64 5, .int .i64 n, .agg RV.toArray] w1 fun e w' => e = .returned (.agg DV.toArray) ∧ ∃ E', Took (TkSt fv) E1 E' w1 w' LL) := H_ fun E1 w1 h1 => by
  have h5 := group_any h1 (by rw [List.length_append, List.length_append]; omega) 5 n (by omega) DR hDRl.1 hDRl.2
  rw [← hdg, ← hRV, ← hDV] at h5
  rw [hLL, htx]
  simpa [List.append_assoc] using h5
 have HH := H_ (And.intro h.st (And.intro h.at_ h.off))
 have HW0 : Hid (Keeps (fun _ => False) w ((w.alloc (.cells #[.iface T y] 95)).alloc (.cells (List.replicate 32 (Value.int .u8 0)).toArray 23)) ∧ Blk ((w.alloc (.cells #[.iface T y] 95)).alloc (.cells (List.replicate 32 (Value.int .u8 0)).toArray 23)) N 95 [.iface T y] ∧ Blk ((w.alloc (.cells #[.iface T y] 95)).alloc (.cells (List.replicate 32 (Value.int .u8 0)).toArray 23)) (N + 1) 23 (List.replicate 32 (Value.int .u8 0))) := H_ ⟨((Keeps.refl _ w).alloc _).alloc _, by rw [hN]; exact (Blk.new _ _ _).alloc _, by
  have h := Blk.new (w.alloc (.cells #[.iface T y] 95)) 23 (List.replicate 32 (Value.int .u8 0))
  rwa [World.size_alloc, ← hN] at h⟩
 have HNN := H_ hN
 have HNE : Hid (¬ E N ∧ ¬ E (N + 1)) := H_ ⟨fun he => by have := h.st.lt _ he; omega, fun he => by have := h.st.lt _ he; omega⟩
 clear h hok hs hn hky ih hkl hs56 hnn hDR hDRl hDV hRV htx hdg hnodes hroom hnl hLL hN hal
 have a1 := va_list_null
 have a2 := va_list_flag
 have a3 := va_list_num
 have a4 := va_list_text
 go_enter Tryz.func67, Tryz.ntmps67
 go_upto_region 1 with fail
 refine gen_codeF (fun W => Keeps (fun _ => False) w W ∧ Blk W N 95 [.iface T y] ∧ Blk W (N + 1) 23 (List.replicate 32 (Value.int .u8 0))) HW0.out ?_
 rintro w1 ⟨k1, b1, z1⟩
 have hNN := HNN.out
 rw [← hNN]
 clear hNN
 have c0 := b1.cell 0
 have HK1 := H_ k1
 have HZ1 := H_ (And.intro b1 z1)
 clear k1 b1 z1
 go_upto_region 16 with (go_at_call 137; refine (HVA.out _ HK1.out).mono ?_; rintro e w2 ⟨A2, m2, c2, rfl, hk2⟩; have HK2 := H_ (HK1.out.trans hk2 fun _ _ h => h); have HK2b := H_ hk2; have HZ2 := H_ (And.intro (hk2.blk HZ1.out.1 fun h => h) (hk2.blk HZ1.out.2 fun h => h)); have c02 := HZ2.out.1.cell 0; clear hk2)
 go_upto_region 17 with (first
  | (go_at_call 94; refine (HWI.out _ HK2.out).mono ?_; rintro e w3 ⟨A3, c3, E3, rfl, H3⟩; have HT3 := H_ (HH.out.1.stay (tkLasts _) HK2.out |>.next H3.out.1); have HB3 := H_ (And.intro (H3.out.1.keep.blk HZ2.out.1 HNE.out.1) (H3.out.1.keep.blk HZ2.out.2 HNE.out.2)))
  | (go_at_call 70; refine (HRO.out E3 _ A3 c3 HT3.out H3.out.2.1 H3.out.2.2.1 H3.out.2.2.2).mono ?_; rintro e w4 ⟨rfl, E4, hT4⟩; have HT4 := H_ hT4; have HG4 := H_ (HT3.out.next hT4); have HN3 := H_ (of_off HNE.out HZ1.out.2.lt HK2b.out H3.out.1); have HB4 := H_ (And.intro (hT4.keep.blk HB3.out.1 HN3.out.1) (hT4.keep.blk HB3.out.2 HN3.out.2)); have HZ4 := H_ (Blk.new w4 23 (List.replicate 32 (Value.int .u8 0))); clear hT4)
  | ((with_reducible show wpList _ _ _ (⟨none, Op.store 23 _ _, _, _, _, _⟩ :: _) _ _); refine wpList_store_whole rfl 23 _ _ rfl RV rfl rfl HZ4.out (by rw [HDR.out.1]; simp) (infoDg RV HDR.out.1) HDR.out.2 ?_))
 obtain ⟨p, hp⟩ : ∃ p, p = w4.heap.size := ⟨_, rfl⟩
 have HW5 : Hid (Keeps (fun _ => False) w4 ((w4.alloc (.cells (List.replicate 32 (Value.int .u8 0)).toArray 23)).setRow w4.heap.size RV.toArray) ∧ Blk ((w4.alloc (.cells (List.replicate 32 (Value.int .u8 0)).toArray 23)).setRow w4.heap.size RV.toArray) p 23 RV) := H_ ⟨((Keeps.refl (fun _ => False) w4).alloc _).setRow (.inr (Nat.le_refl _)) _, by rw [hp]; exact HZ4.out.setRow RV⟩
 rw [← hp] at HW5 ⊢
 refine gen_codeF (fun W => Keeps (fun _ => False) w4 W ∧ Blk W p 23 RV) HW5.out ?_
 rintro w5 ⟨k5, b5⟩
 have HK5 := H_ k5
 have HB5 := H_ (And.intro (k5.blk HB4.out.1 fun h => h) (And.intro (k5.blk HB4.out.2 fun h => h) b5))
 have HG5 := H_ (HG4.out.stay (tkLasts _) k5)
 have HJ5 : Hid (JAt D w5 (.iface T y) j) := H_ (by
  have hlt : ∀ i, (D i ∧ i < w2.heap.size) → ¬ E3 i := fun i hi e => (H3.out.1.new i e).elim (HH.out.2.2 i hi.1) fun h => by have := hi.2; omega
  exact ((((HH.out.2.1.stay HK2.out).mono (C := fun i => D i ∧ i < w2.heap.size) fun i h1 h2 => ⟨h1, h2⟩).keep H3.out.1.keep fun i hi => HH.out.2.2 i hi.1).keep HT4.out.keep hlt |>.stay k5).mono fun i hi _ => hi.1)
 have HNE4 : Hid (¬ E4 (N + 1)) := H_ fun e => (HT4.out.new _ e).elim HN3.out.2 fun h => by
  have := HB3.out.2.lt
  omega
 clear k5 b5 HW5 hp
 refine wp_region_tail (S := (fun V => Keeps (fun _ => False) w5 V)) 6 (by kernel_rfl) (Keeps.refl _ _).drew (fun h_ => ?_)
 refine tJ 0 47 ?_
 try simp only [pu]
 refine tT [1, 2] (i := 1) (oi := ⟨some 48, _, _, _, _, _⟩) (v := ?_) rfl (Or.inl ⟨by rfl, ?_⟩) h_ ?_
 rotate_left
 ·intro w' hSw
  have cv := (hSw.blk HB5.out.1 fun h => h).cell 0
  go_simp
  first | done | rfl
 try simp only [pu]
 refine tT [3, 4] (i := 3) (oi := ⟨some 50, _, _, _, _, _⟩) (v := ?_) rfl (Or.inl ⟨by rfl, ?_⟩) h_ ?_
 rotate_left
 ·intro w' hSw
  have cv := (hSw.blk HB5.out.1 fun h => h).cell 0
  go_simp
  first | done | rfl
 try simp only [pu]
 refine tT [5] (i := 5) (oi := ⟨some 52, _, _, _, _, _⟩) (v := _) rfl (yieldsIf_load_mid (by rfl) _ _ rfl _ _ rfl RV _ (fun w' h => blk_rngD (h.blk HB5.out.2.2 fun h => h)) Tryz.underlying23 rfl (infoDg RV HDR.out.1)) h_ ?_
 try simp only [pu]
 refine wpAnyT_step (i := 2) (o := ⟨some 49, _, _, _, _, _⟩) (by kernel_rfl) rfl (fun K hK => ?_)
 go_simp
 refine (HSO.out _).mono ?_
 rintro e w6 ⟨rfl, hk6⟩
 have hS6 := h_.trans hk6 (fun _ _ h => h)
 refine hK.out _ _ hS6 (fun h_ => ?_)
 clear hK K
 try simp only [pu]
 refine wpAnyT_step (i := 4) (o := ⟨some 51, _, _, _, _, _⟩) (by kernel_rfl) rfl (fun K hK => ?_)
 go_simp
 refine (HLJ.out w5 HJ5.out _ h_).mono ?_
 rintro e w8 ⟨rfl, hk8⟩
 have hS8 := h_.trans hk8 (fun _ _ h => h)
 refine hK.out _ _ hS8 (fun h_ => ?_)
 clear hK K
 try simp only [pu]
 refine wpAnyT_tail (i := 6) (o := ⟨some 53, _, _, _, _, _⟩) (by kernel_rfl) (by kernel_rfl) rfl (fun K hK => ?_)
 go_simp
 refine (HGR.out E4 _ (HG5.out.stay (tkLasts _) hS8)).mono ?_
 rintro e w9 ⟨rfl, E9, hT9⟩
 have HT9 := H_ hT9; have HZ9 := H_ (hT9.keep.blk (hS8.blk HB5.out.2.1 fun h => h) HNE4.out)
 refine hK.out _ _ ?_
 clear hK K
 try simp only [pu]
 refine wpAnyT_tail (i := 7) (o := ⟨none, _, _, _, _, _⟩) (by kernel_rfl) (by kernel_rfl) rfl (fun K hK => ?_)
 refine step_store_whole rfl 23 (.tmp 4) (.tmp 53) rfl DV rfl rfl HZ9.out (by rw [HDL.out]; simp) HIN.out HD1.out ?_
 refine hK.out _ _ ?_
 clear hK K
 try simp only [pu]
 refine wpAnyT_done (by kernel_rfl) ?_
 go_wp2
 refine bodyPost_ret (results_blk rfl _ _ rfl (HZ9.out.setRow DV) Tryz.underlying23 rfl HIN.out) rfl ⟨rfl, E9, ?_⟩
 have ht : Took (TkSt fv) E E9 w w9 LL := Took.begin HK2.out (((H3.out.1.trans HT4.out).stay (tkLasts _) (HK5.out.trans hS8 fun _ _ h => h)).trans HT9.out)
 refine ht.more (tkLasts _) (setRow_keep _ _ _) fun i hi => ?_
 subst hi
 refine ⟨by have := HNN.out; omega, fun he => ?_⟩
 rcases HT9.out.new _ he with h1 | h1
 ·exact HNE4.out h1
 ·have h2 := (hS8.blk HB5.out.2.1 fun h => h).lt
  omega
theorem of_obj {fv : Value} {D E : Nat → Prop} {w : World} {l : List (List Int)} {v : Value} {j : JV} (h : WiIn fv D E w l v j) (hok : JOk j) (hs : j.sort = 6) (hn : j.nodes ≤ 1048576) (hky : ∀ k ∈ j.keys, k.size ≤ 4194304) (ih : OfAll fv j) :
  Calls Tryz.prog 67 #[fv, .agg #[v]] w (DOf fv E w l j) := by
 have hkl : j.sort = 6 → j.keys.length = j.items.length := hok.form.2.1
 have hs56 : j.sort = 5 ∨ j.sort = 6 := by omega
 obtain ⟨T, y, hv⟩ := h.at_.iface
 subst hv
 unfold DOf
 obtain ⟨n, hnn⟩ : ∃ n, n = j.items.length := ⟨_, rfl⟩
 obtain ⟨DR, hDR⟩ : ∃ DR, DR = rowD (rowOf j) := ⟨_, rfl⟩
 have hDRl : DR.length = 32 ∧ IsBytes DR := by rw [hDR]; exact ⟨rowD_len _, rowD_bytes _⟩
 obtain ⟨DV, hDV⟩ : ∃ DV, DV = vb j.dg := ⟨_, rfl⟩
 have HD1 : Hid (∀ u ∈ DV, u.oneCell' = true) := H_ (by rw [hDV]; exact vb_one _)
 have HDL : Hid (DV.length = 32) := H_ (by rw [hDV, vb_length]; exact dg_len _)
 have HIN : Hid ((Tryz.prog.info? 23).map (·.size) = some DV.length) := H_ (infoDg DV HDL.out)
 obtain ⟨RV, hRV⟩ : ∃ RV, RV = vb DR := ⟨_, rfl⟩
 have HDR : Hid (RV.length = 32 ∧ ∀ u ∈ RV, u.oneCell' = true) := H_ ⟨by rw [hRV, vb_length]; exact hDRl.1, by rw [hRV]; exact vb_one _⟩
 have htx := tx_with hs56 hkl
 have hdg := dg_with hs56
 rw [← hnn, ← hDR, hs] at htx hdg
 have hnodes := withN_all j
 have hroom := h.room
 have hnl : n ≤ j.nodes := by have h1 := len_nodes j.items; have h2 := JV.nodes_eq j; omega
 rw [← hnn] at hnodes
 obtain ⟨LL, hLL⟩ : ∃ LL, LL = l ++ j.tx := ⟨_, rfl⟩
 rw [← hDV, ← hLL]
 obtain ⟨N, hN⟩ : ∃ N, N = w.heap.size := ⟨_, rfl⟩
 have hal := allTx_len (rowOf j)
 rw [row_len hs56 hkl, ← hnn] at hal
 have HVA : Hid (∀ W, Keeps (fun _ => False) w W → Calls Tryz.prog 137 #[.agg #[.iface T y]] W fun e w' => ∃ A m c, e = .returned (.iface 319 (.slice A m c)) ∧ Keeps (fun _ => False) W w') := H_ fun W hW =>
  (val_any j hok hn D W (.iface T y) (h.at_.stay hW)).mono fun e w' ⟨v', he, hv', hk⟩ => by
   cases hv' with
   | obj ks l' A n' c => exact ⟨A, n', c, he, hk⟩
   | null | flag | num | text | list => simp [JV.sort] at hs
 have HWI : Hid (∀ W, Keeps (fun _ => False) w W → Calls Tryz.prog 94 #[fv, .agg #[.iface T y]] W fun e w' => ∃ A c E', e = .returned (.slice A n c) ∧ Hid (Took (TkSt fv) E E' W w' (l ++ withN j n) ∧ RdD w' A n (rowOf j) ∧ Out E' A n ∧ n ≤ c)) := H_ fun W hW => by
  refine (dwithin_any (D := D) (E := E) (l := l) ⟨h.st.stay (tkLasts _) hW, h.at_.stay hW, h.off, h.room⟩ hs56 hkl hky ih).mono ?_
  rintro e w' ⟨A, c, E', he, h1, h2, h3, h4, _⟩
  rw [← hnn] at he h1 h2 h3 h4
  exact ⟨A, c, E', he, H_ ⟨h1, h2, h3, h4⟩⟩
 have HRO : Hid (∀ E1 w1 A c, Tkg (TkSt fv) E1 w1 (l ++ withN j n) → RdD w1 A n (rowOf j) → Out E1 A n → n ≤ c → Calls Tryz.prog 70 #[fv, .slice A n c] w1 fun e w' => e = .returned (.agg RV.toArray) ∧ ∃ E', Took (TkSt fv) E1 E' w1 w' (l ++ withN j n ++ allTx (rowOf j))) := H_ fun E1 w1 A c h1 h2 h3 h4 => by
  have h5 := row_any h1 A n c (rowOf j) h2 h3 h4 (by omega) (by rw [List.length_append]; omega)
  rw [← hDR, ← hRV] at h5
  exact h5
 have HSO : Hid (∀ W, Calls Tryz.prog 47 #[.agg #[.iface T y]] W fun e w' => e = .returned (.int .i64 6) ∧ Keeps (fun _ => False) W w') := H_ fun W => by have := refsort_any h.at_ W; rwa [hs] at this
 have HLE : Hid (∀ W, Keeps (fun _ => False) w W → Calls Tryz.prog 81 #[.agg #[.iface T y]] W fun e w' => e = .returned (.int .i64 n) ∧ Keeps (fun _ => False) W w') := H_ fun W hW => by have := len_any h.at_ W hW; rwa [← hnn] at this
 have HLJ : Hid (∀ V, JAt D V (.iface T y) j → ∀ W, Keeps (fun _ => False) V W → Calls Tryz.prog 81 #[.agg #[.iface T y]] W fun e w' => e = .returned (.int .i64 n) ∧ Keeps (fun _ => False) W w') := H_ fun V hV W hW => by have := len_any hV W hW; rwa [← hnn] at this
 have HGR : Hid (∀ E1 w1, Tkg (TkSt fv) E1 w1 (l ++ withN j n ++ allTx (rowOf j)) → Calls Tryz.prog 73 #[fv, .int .i64 6, .int .i64 n, .agg RV.toArray] w1 fun e w' => e = .returned (.agg DV.toArray) ∧ ∃ E', Took (TkSt fv) E1 E' w1 w' LL) := H_ fun E1 w1 h1 => by
  have h5 := group_any h1 (by rw [List.length_append, List.length_append]; omega) 6 n (by omega) DR hDRl.1 hDRl.2
  rw [← hdg, ← hRV, ← hDV] at h5
  rw [hLL, htx]
  simpa [List.append_assoc] using h5
 have HH := H_ (And.intro h.st (And.intro h.at_ h.off))
 have HW0 : Hid (Keeps (fun _ => False) w ((w.alloc (.cells #[.iface T y] 95)).alloc (.cells (List.replicate 32 (Value.int .u8 0)).toArray 23)) ∧ Blk ((w.alloc (.cells #[.iface T y] 95)).alloc (.cells (List.replicate 32 (Value.int .u8 0)).toArray 23)) N 95 [.iface T y] ∧ Blk ((w.alloc (.cells #[.iface T y] 95)).alloc (.cells (List.replicate 32 (Value.int .u8 0)).toArray 23)) (N + 1) 23 (List.replicate 32 (Value.int .u8 0))) := H_ ⟨((Keeps.refl _ w).alloc _).alloc _, by rw [hN]; exact (Blk.new _ _ _).alloc _, by
  have h := Blk.new (w.alloc (.cells #[.iface T y] 95)) 23 (List.replicate 32 (Value.int .u8 0))
  rwa [World.size_alloc, ← hN] at h⟩
 have HNN := H_ hN
 have HNE : Hid (¬ E N ∧ ¬ E (N + 1)) := H_ ⟨fun he => by have := h.st.lt _ he; omega, fun he => by have := h.st.lt _ he; omega⟩
 clear h hok hs hn hky ih hkl hs56 hnn hDR hDRl hDV hRV htx hdg hnodes hroom hnl hLL hN hal
 have a1 := va_obj_null
 have a2 := va_obj_flag
 have a3 := va_obj_num
 have a4 := va_obj_text
 go_enter Tryz.func67, Tryz.ntmps67
 go_upto_region 1 with fail
 refine gen_codeF (fun W => Keeps (fun _ => False) w W ∧ Blk W N 95 [.iface T y] ∧ Blk W (N + 1) 23 (List.replicate 32 (Value.int .u8 0))) HW0.out ?_
 rintro w1 ⟨k1, b1, z1⟩
 have hNN := HNN.out
 rw [← hNN]
 clear hNN
 have c0 := b1.cell 0
 have HK1 := H_ k1
 have HZ1 := H_ (And.intro b1 z1)
 clear k1 b1 z1
 go_upto_region 16 with (go_at_call 137; refine (HVA.out _ HK1.out).mono ?_; rintro e w2 ⟨A2, m2, c2, rfl, hk2⟩; have HK2 := H_ (HK1.out.trans hk2 fun _ _ h => h); have HK2b := H_ hk2; have HZ2 := H_ (And.intro (hk2.blk HZ1.out.1 fun h => h) (hk2.blk HZ1.out.2 fun h => h)); have c02 := HZ2.out.1.cell 0; clear hk2)
 go_upto_region 17 with (first
  | (go_at_call 94; refine (HWI.out _ HK2.out).mono ?_; rintro e w3 ⟨A3, c3, E3, rfl, H3⟩; have HT3 := H_ (HH.out.1.stay (tkLasts _) HK2.out |>.next H3.out.1); have HB3 := H_ (And.intro (H3.out.1.keep.blk HZ2.out.1 HNE.out.1) (H3.out.1.keep.blk HZ2.out.2 HNE.out.2)))
  | (go_at_call 70; refine (HRO.out E3 _ A3 c3 HT3.out H3.out.2.1 H3.out.2.2.1 H3.out.2.2.2).mono ?_; rintro e w4 ⟨rfl, E4, hT4⟩; have HT4 := H_ hT4; have HG4 := H_ (HT3.out.next hT4); have HN3 := H_ (of_off HNE.out HZ1.out.2.lt HK2b.out H3.out.1); have HB4 := H_ (And.intro (hT4.keep.blk HB3.out.1 HN3.out.1) (hT4.keep.blk HB3.out.2 HN3.out.2)); have HZ4 := H_ (Blk.new w4 23 (List.replicate 32 (Value.int .u8 0))); clear hT4)
  | ((with_reducible show wpList _ _ _ (⟨none, Op.store 23 _ _, _, _, _, _⟩ :: _) _ _); refine wpList_store_whole rfl 23 _ _ rfl RV rfl rfl HZ4.out (by rw [HDR.out.1]; simp) (infoDg RV HDR.out.1) HDR.out.2 ?_))
 obtain ⟨p, hp⟩ : ∃ p, p = w4.heap.size := ⟨_, rfl⟩
 have HW5 : Hid (Keeps (fun _ => False) w4 ((w4.alloc (.cells (List.replicate 32 (Value.int .u8 0)).toArray 23)).setRow w4.heap.size RV.toArray) ∧ Blk ((w4.alloc (.cells (List.replicate 32 (Value.int .u8 0)).toArray 23)).setRow w4.heap.size RV.toArray) p 23 RV) := H_ ⟨((Keeps.refl (fun _ => False) w4).alloc _).setRow (.inr (Nat.le_refl _)) _, by rw [hp]; exact HZ4.out.setRow RV⟩
 rw [← hp] at HW5 ⊢
 refine gen_codeF (fun W => Keeps (fun _ => False) w4 W ∧ Blk W p 23 RV) HW5.out ?_
 rintro w5 ⟨k5, b5⟩
 have HK5 := H_ k5
 have HB5 := H_ (And.intro (k5.blk HB4.out.1 fun h => h) (And.intro (k5.blk HB4.out.2 fun h => h) b5))
 have HG5 := H_ (HG4.out.stay (tkLasts _) k5)
 have HJ5 : Hid (JAt D w5 (.iface T y) j) := H_ (by
  have hlt : ∀ i, (D i ∧ i < w2.heap.size) → ¬ E3 i := fun i hi e => (H3.out.1.new i e).elim (HH.out.2.2 i hi.1) fun h => by have := hi.2; omega
  exact ((((HH.out.2.1.stay HK2.out).mono (C := fun i => D i ∧ i < w2.heap.size) fun i h1 h2 => ⟨h1, h2⟩).keep H3.out.1.keep fun i hi => HH.out.2.2 i hi.1).keep HT4.out.keep hlt |>.stay k5).mono fun i hi _ => hi.1)
 have HNE4 : Hid (¬ E4 (N + 1)) := H_ fun e => (HT4.out.new _ e).elim HN3.out.2 fun h => by
  have := HB3.out.2.lt
  omega
 clear k5 b5 HW5 hp
 refine wp_region_tail (S := (fun V => Keeps (fun _ => False) w5 V)) 6 (by kernel_rfl) (Keeps.refl _ _).drew (fun h_ => ?_)
 refine tJ 0 47 ?_
 try simp only [pu]
 refine tT [1, 2] (i := 1) (oi := ⟨some 48, _, _, _, _, _⟩) (v := ?_) rfl (Or.inl ⟨by rfl, ?_⟩) h_ ?_
 rotate_left
 ·intro w' hSw
  have cv := (hSw.blk HB5.out.1 fun h => h).cell 0
  go_simp
  first | done | rfl
 try simp only [pu]
 refine tT [3, 4] (i := 3) (oi := ⟨some 50, _, _, _, _, _⟩) (v := ?_) rfl (Or.inl ⟨by rfl, ?_⟩) h_ ?_
 rotate_left
 ·intro w' hSw
  have cv := (hSw.blk HB5.out.1 fun h => h).cell 0
  go_simp
  first | done | rfl
 try simp only [pu]
 refine tT [5] (i := 5) (oi := ⟨some 52, _, _, _, _, _⟩) (v := _) rfl (yieldsIf_load_mid (by rfl) _ _ rfl _ _ rfl RV _ (fun w' h => blk_rngD (h.blk HB5.out.2.2 fun h => h)) Tryz.underlying23 rfl (infoDg RV HDR.out.1)) h_ ?_
 try simp only [pu]
 refine wpAnyT_step (i := 2) (o := ⟨some 49, _, _, _, _, _⟩) (by kernel_rfl) rfl (fun K hK => ?_)
 go_simp
 refine (HSO.out _).mono ?_
 rintro e w6 ⟨rfl, hk6⟩
 have hS6 := h_.trans hk6 (fun _ _ h => h)
 refine hK.out _ _ hS6 (fun h_ => ?_)
 clear hK K
 try simp only [pu]
 refine wpAnyT_step (i := 4) (o := ⟨some 51, _, _, _, _, _⟩) (by kernel_rfl) rfl (fun K hK => ?_)
 go_simp
 refine (HLJ.out w5 HJ5.out _ h_).mono ?_
 rintro e w8 ⟨rfl, hk8⟩
 have hS8 := h_.trans hk8 (fun _ _ h => h)
 refine hK.out _ _ hS8 (fun h_ => ?_)
 clear hK K
 try simp only [pu]
 refine wpAnyT_tail (i := 6) (o := ⟨some 53, _, _, _, _, _⟩) (by kernel_rfl) (by kernel_rfl) rfl (fun K hK => ?_)
 go_simp
 refine (HGR.out E4 _ (HG5.out.stay (tkLasts _) hS8)).mono ?_
 rintro e w9 ⟨rfl, E9, hT9⟩
 have HT9 := H_ hT9; have HZ9 := H_ (hT9.keep.blk (hS8.blk HB5.out.2.1 fun h => h) HNE4.out)
 refine hK.out _ _ ?_
 clear hK K
 try simp only [pu]
 refine wpAnyT_tail (i := 7) (o := ⟨none, _, _, _, _, _⟩) (by kernel_rfl) (by kernel_rfl) rfl (fun K hK => ?_)
 refine step_store_whole rfl 23 (.tmp 4) (.tmp 53) rfl DV rfl rfl HZ9.out (by rw [HDL.out]; simp) HIN.out HD1.out ?_
 refine hK.out _ _ ?_
 clear hK K
 try simp only [pu]
 refine wpAnyT_done (by kernel_rfl) ?_
 go_wp2
 refine bodyPost_ret (results_blk rfl _ _ rfl (HZ9.out.setRow DV) Tryz.underlying23 rfl HIN.out) rfl ⟨rfl, E9, ?_⟩
 have ht : Took (TkSt fv) E E9 w w9 LL := Took.begin HK2.out (((H3.out.1.trans HT4.out).stay (tkLasts _) (HK5.out.trans hS8 fun _ _ h => h)).trans HT9.out)
 refine ht.more (tkLasts _) (setRow_keep _ _ _) fun i hi => ?_
 subst hi
 refine ⟨by have := HNN.out; omega, fun he => ?_⟩
 rcases HT9.out.new _ he with h1 | h1
 ·exact HNE4.out h1
 ·have h2 := (hS8.blk HB5.out.2.1 fun h => h).lt
  omega
theorem key_le {j : JV} {k : ByteArray} (h : k ∈ j.keys) : k.size ≤ j.bytes := by
 cases j with
 | obj ks l =>
  have := sumN_mem (List.mem_map.2 ⟨k, h, rfl⟩ : k.size ∈ ks.map fun k => k.size)
  rw [JV.bytes]
  omega
 | null | flag | num | text | list => cases h
theorem item_bytes {j x : JV} (h : x ∈ j.items) : x.bytes ≤ j.bytes := by
 rw [JV.bytes_eq j]
 have := sumN_mem (List.mem_map.2 ⟨x, h, rfl⟩ : x.bytes ∈ j.items.map fun x => x.bytes)
 omega
theorem dof_any (fv : Value) : ∀ (j : JV), JOk j → j.nodes ≤ 1048576 → j.bytes ≤ 4194304 → ∀ (D E : Nat → Prop) (w : World) (l : List (List Int)) (v : Value), WiIn fv D E w l v j → Calls Tryz.prog 67 #[fv, .agg #[v]] w (DOf fv E w l j) := by
 intro j hok
 induction hok with
 | mk j h1 h2 hp hr ht h ih =>
  intro hn hb D E w l v hw
  have hok : JOk j := .mk j h1 h2 hp hr ht h
  have hl : l.length ≤ 1099511627776 := by have := hw.room; omega
  have hall : OfAll fv j := fun x hx D' E' w' l' v' hw' => ih x hx (Nat.le_trans (nodes_item hx) hn) (Nat.le_trans (item_bytes hx) hb) D' E' w' l' v' hw'
  have hky : ∀ k ∈ j.keys, k.size ≤ 4194304 := fun k hk => Nat.le_trans (key_le hk) hb
  by_cases h5 : j.sort = 5
  ·exact of_list hw hok h5 hn hky hall
  ·by_cases h6 : j.sort = 6
   ·exact of_obj hw hok h6 hn hky hall
   ·obtain ⟨T, y, hv⟩ := hw.at_.iface
    subst hv
    have hva : ∀ W, Keeps (fun _ => False) w W → Calls Tryz.prog 137 #[.agg #[.iface T y]] W (ValPost W j) := fun W hW => val_any j hok hn D W _ (hw.at_.stay hW)
    have hat := hw.at_
    cases j with
    | null => exact of_null hw.st hl T y fun W hW => (hva W hW).mono fun e w' ⟨v', he, hv', hk⟩ => by cases hv'; exact ⟨he, hk⟩
    | flag b => exact of_flag hw.st hl b T y fun W hW => (hva W hW).mono fun e w' ⟨v', he, hv', hk⟩ => by cases hv'; exact ⟨he, hk⟩
    | num b =>
     have hb64 : b < 18446744073709551616 := by cases hat; assumption
     exact of_num hw.st hl b hb64 T y fun W hW => (hva W hW).mono fun e w' ⟨v', he, hv', hk⟩ => by cases hv'; exact ⟨he, hk⟩
    | text s =>
     have hs : s.size ≤ 1099511627000 := by rw [JV.bytes] at hb; omega
     exact of_text hw.st hl s hs T y fun W hW => (hva W hW).mono fun e w' ⟨v', he, hv', hk⟩ => by cases hv'; exact ⟨he, hk⟩
    | list l => exact absurd rfl h5
    | obj ks l => exact absurd rfl h6
theorem dof_plain {D : Nat → Prop} {w : World} {v : Value} {j : JV} (hG : GW w) (hj : JAt D w v j) (hok : JOk j) (hn : j.nodes ≤ 1048576) (hb : j.bytes ≤ 4194304) : Calls Tryz.prog 67 #[.nilFunc, .agg #[v]] w fun e w' => e = .returned (.agg (vb j.dg).toArray) ∧ Keeps (fun _ => False) w w' :=
 (dof_any .nilFunc j hok hn hb D (fun _ => False) w [] v ⟨Tkg.none hG [], hj, fun _ _ h => h, by simp; omega⟩).mono fun e w' ⟨h1, E', h2⟩ => ⟨h1, h2.keep⟩
end Go.Proofs.YtplleficmkfniaaGreatDoor
