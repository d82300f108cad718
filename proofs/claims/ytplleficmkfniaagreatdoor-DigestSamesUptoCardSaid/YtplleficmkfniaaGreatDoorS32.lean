/- Texts. -/
import Derived.Test.YtplleficmkfniaaGreatDoorS31
set_option linter.unusedSimpArgs false
set_option maxRecDepth 100000
set_option maxHeartbeats 4000000
namespace Go.Proofs.YtplleficmkfniaaGreatDoor
open Go Go.RowKit Go.Sha Go.Aff
theorem hcells_length (S : Nat → Int) (nb : Int) (v : Value) : (hcells S nb v).length = 10 := by simp [hcells, wl]
theorem hcells_set9 (S : Nat → Int) (nb : Int) (v v' : Value) : (hcells S nb v).set 9 v' = hcells S nb v' := rfl
theorem rnew_any (w : World) : Calls Tryz.prog 134 #[] w fun e w' => e = .returned (.agg (hcells first 0 (.slice none 0 0)).toArray) ∧ Keeps (fun _ => False) w w' := by
 have hf := fun wx => refFirst_any wx
 have hz := Blk.new w 256 (hcells (fun _ => 0) 0 (.slice none 0 0))
 have hF : vi .u32 firstL = wl first := by rfl
 simp only [hF] at hf
 have HF := H_ hf
 have HZ := H_ hz
 clear hf hz hF
 go_enter Tryz.func134, Tryz.ntmps134
 go_wp2_with (first
  | (go_at_call 184; refine (HF.out _).mono ?_; rintro e w1 ⟨rfl, hk1⟩)
  | ((with_reducible show wpList _ _ _ (⟨none, Op.store 256 _ _, _, _, _, _⟩ :: _) _ _); refine wpList_store_whole rfl 256 _ _ rfl (hcells first 0 (.slice none 0 0)) rfl rfl (hk1.blk HZ.out (fun h => h)) (by rw [hcells_length, hcells_length]) (by rw [hcells_length]; kernel_rfl) (by intro u hu; rcases List.mem_append.1 hu with h | h; (obtain ⟨i, _, rfl⟩ := List.mem_map.1 h; rfl); (simp at h; rcases h with rfl | rfl <;> rfl)) ?_))
 refine bodyPost_ret (results_blk rfl _ _ rfl ((hk1.blk HZ.out (fun h => h)).setRow (hcells first 0 (.slice none 0 0))) Tryz.underlying256 rfl (by rw [hcells_length]; kernel_rfl)) rfl ⟨rfl, (((Keeps.refl _ w).alloc _).trans hk1 (fun _ _ h => h)).setRow (.inr (Nat.le_refl _)) _⟩
theorem rcopy_any (w : World) (S : Nat → Int) (nb : Int) (A : Option Addr) (r c : Nat) (X : List Int) (hr : Rd w A r (vb X)) (hr64 : r ≤ 64) :
  Calls Tryz.prog 185 #[.agg (hcells S nb (.slice A r c)).toArray] w fun e w' => ∃ A' c', e = .returned (.agg (hcells S nb (.slice A' r c')).toArray) ∧ w'.ownsRow 0 5 1 (.slice A' r c') r (vb X) ∧ Keeps (fun _ => False) w w' ∧ ∀ g, (Value.slice A' r c').ownBlock = some g → w.heap.size ≤ g := by
 have hb1 := (Blk.new w 256 (hcells S nb (.slice A r c))).alloc (.cells (hcells (fun _ => 0) 0 (.slice none 0 0)).toArray 256)
 have hb2 := Blk.new (w.alloc (.cells (hcells S nb (.slice A r c)).toArray 256)) 256 (hcells (fun _ => 0) 0 (.slice none 0 0))
 rw [World.size_alloc] at hb2
 obtain ⟨cs, hcs⟩ : ∃ cs, cs = (hcells S nb (.slice A r c)).toArray := ⟨_, rfl⟩
 have k9 : cs[9]? = some (.slice A r c) := by rw [hcs]; rfl
 rw [← hcs] at hb1 hb2 ⊢
 obtain ⟨W0, hW0⟩ : ∃ W0, W0 = ((w.alloc (.cells cs 256)).alloc (.cells (hcells (fun _ => 0) 0 (.slice none 0 0)).toArray 256)) := ⟨_, rfl⟩
 have hsz : W0.heap.size = w.heap.size + 1 + 1 := by rw [hW0]; simp
 have hkw : Keeps (fun _ => False) w W0 := by rw [hW0]; exact ((Keeps.refl _ w).alloc _).alloc _
 rw [← hW0] at hb1 hb2
 have ho1 : (W0.alloc (.cells #[] 5)).ownsRow 0 5 1 (.slice (some ⟨W0.heap.size, 0, none⟩) 0 0) 0 [] := World.ownsRow_made W0 #[] 0 (by omega) (by unfold maxLen; omega) rfl
 have hr1 : Rd (W0.alloc (.cells #[] 5)) A r (vb X) := (hr.keep hkw (no_out _ _)).alloc _
 rw [hsz, hW0] at ho1
 rw [hW0] at hr1
 have HO1 := H_ ho1
 have HR1 := H_ hr1
 have HG : Hid (∀ w', (W0.alloc (.cells #[] 5)).grownBy w' (some (w.heap.size + 1 + 1)) → Blk w' w.heap.size 256 (hcells S nb (.slice A r c)) ∧ Blk w' (w.heap.size + 1) 256 (hcells (fun _ => 0) 0 (.slice none 0 0)) ∧ Keeps (fun _ => False) w w') := by
  intro w' hg
  have hk := Keeps.of_grown hg
  refine ⟨hk.blk (hb1.alloc _) (fun e => by injection e with e; omega), hk.blk (hb2.alloc _) (fun e => by injection e with e; omega), (hkw.alloc _).grown hg (fun g e => .inr (by injection e with e; omega))⟩
 rw [hW0] at HG
 clear hb1 hb2 hcs hW0 hsz hkw ho1 hr1 hr
 go_enter Tryz.func185, Tryz.ntmps185
 go_wp2_with (first
  | (at_builtin; refine wpList_append_rd _ rfl (.tmp 3) (.tmp 5) 48 rfl 5 (.int .u8 0) 1 Tryz.underlying48 info5 rfl _ 0 [] rfl HO1.out A r c (vb X) rfl HR1.out (vb_one X) (by unfold maxLen; omega) (by omega) ?_; intro A' c' w' hown hg hb; obtain ⟨hq1, hq2, hq3⟩ := HG.out w' hg; have c9 : w'.cell? ⟨w.heap.size, 9, none⟩ = some (.slice A r c) := (hq1.cell 9); have f9 := hq1.frozen 9; simp only [Nat.zero_add, List.nil_append] at hown hb ⊢; have HOWN := H_ hown; have HNB := H_ hb; have HQ1 := H_ (hq1.set_ 9 (.slice A' r c')); have HQ2 := H_ (hq2.far (show w.heap.size + 1 ≠ w.heap.size by omega) (p := ⟨w.heap.size, 9, none⟩) (.slice A' r c')); have HQ3 := H_ hq3; clear hown hg hb hq1 hq2 hq3)
  | ((with_reducible show wpList _ _ _ (⟨some _, Op.load 256 _, _, _, _, _⟩ :: _) _ _); refine wpList_load_whole rfl 256 _ rfl _ rfl HQ1.out Tryz.underlying256 rfl (by rw [hcells_set9, hcells_length]; kernel_rfl) ?_)
  | ((with_reducible show wpList _ _ _ (⟨none, Op.store 256 _ _, _, _, _, _⟩ :: _) _ _); refine wpList_store_whole rfl 256 _ _ rfl (hcells S nb (.slice A' r c')) rfl rfl HQ2.out (by rw [hcells_length, hcells_length]) (by rw [hcells_length]; kernel_rfl) (hcells_one S nb _ _ _) ?_))
 refine bodyPost_ret (results_blk rfl _ _ rfl (HQ2.out.setRow (hcells S nb (.slice A' r c'))) Tryz.underlying256 rfl (by rw [hcells_length]; kernel_rfl)) rfl ⟨A', c', rfl, ?_, ?_, ?_⟩
 ·have h1 : ∀ g, (Value.slice A' r c').ownBlock = some g → g ≠ w.heap.size ∧ g ≠ w.heap.size + 1 := by
   intro g hg
   rcases HNB.out with h | h
   ·have e : some (w.heap.size + 1 + 1) = some g := h.symm.trans hg
    injection e with e
    omega
   ·rw [h] at hg
    injection hg with e
    simp at e
    omega
  have k1 := Keeps.own ((Keeps.refl (fun i => i = w.heap.size) w').setCell (p := ⟨w.heap.size, 9, none⟩) (.inl rfl) (.slice A' r c')) HOWN.out (fun g hg e => (h1 g hg).1 e)
  exact Keeps.own ((Keeps.refl (fun i => i = w.heap.size + 1) _).setRow (.inl rfl) _) k1 (fun g hg e => (h1 g hg).2 e)
 ·exact (HQ3.out.setCell (.inr (Nat.le_refl _)) _).setRow (.inr (by omega)) _
 ·intro g hg
  rcases HNB.out with h | h
  ·have e : some (w.heap.size + 1 + 1) = some g := h.symm.trans hg
   injection e with e
   omega
  ·rw [h] at hg
   injection hg with e
   simp at e
   omega
theorem rlen_any (w : World) (S : Nat → Int) (nb : Nat) (A : Option Addr) (n c : Nat) (h : 64 * nb + n < 2305843009213693952) (hn : n ≤ 64) :
  Calls Tryz.prog 188 #[.agg (hcells S nb (.slice A n c)).toArray] w fun e w' => e = .returned (.int .u64 ((64 * nb + n : Nat) : Int)) ∧ Keeps (fun _ => False) w w' := by
 obtain ⟨cs, hcs⟩ : ∃ cs, cs = (hcells S nb (.slice A n c)).toArray := ⟨_, rfl⟩
 have k8 : cs[8]? = some (.int .u64 nb) := by rw [hcs]; rfl
 have k9 : cs[9]? = some (.slice A n c) := by rw [hcs]; rfl
 have h0 : 64 * (nb : Int) + (n : Int) < 2305843009213693952 := by omega
 have HF : Hid ((64 * (nb : Int) + (n : Int)) = ((64 * nb + n : Nat) : Int)) := H_ (by omega)
 obtain ⟨L, hL⟩ : ∃ L : Int, L = ((64 * nb + n : Nat) : Int) := ⟨_, rfl⟩
 rw [← hL] at HF ⊢
 rw [← hcs]
 clear hcs h hL
 go_enter Tryz.func188, Tryz.ntmps188
 go_wp2
 go_ret
 exact ⟨by rw [← HF.out]; rfl, (Keeps.refl _ w).alloc _⟩
def RPadRel (w : World) (n m : Nat) (v : Value) (wr : World) : Prop :=
 ∃ A c, v = .slice A m c ∧ wr.ownsRow 0 5 1 v m (vb ((padF n).take m)) ∧ Keeps (fun _ => False) w wr ∧ ∀ g, v.ownBlock = some g → w.heap.size ≤ g
theorem RPadRel.step {w wr w' : World} {n m : Nat} {A A' : Option Addr} {c c' : Nat} {b : Int} (h : RPadRel w n m (.slice A m c) wr) (hb : b = (padF n).getD m 0) (hm : m < padLen n)
  (hown : w'.ownsRow 0 5 1 (.slice A' (m + 1) c') (m + 1) (vb ((padF n).take m) ++ [.int .u8 b])) (hg : (wr.alloc (.cells #[.int .u8 b] 5)).grownBy w' (Value.slice A m c).ownBlock)
  (hk : (Value.slice A' (m + 1) c').ownBlock = (Value.slice A m c).ownBlock ∨ (Value.slice A' (m + 1) c').ownBlock = some (wr.heap.size + 1)) : RPadRel w n (m + 1) (.slice A' (m + 1) c') w' := by
 obtain ⟨A0, c0, e0, h1, h2, h3⟩ := h
 have hl : (padF n).length = padLen n := padK_length n 8 (by omega)
 have e : (padF n).take (m + 1) = (padF n).take m ++ [b] := by
  rw [List.take_succ_eq_append_getElem (by omega), hb]
  simp [hl, hm]
 refine ⟨A', c', rfl, ?_, (h2.alloc _).grown hg (fun g hgg => .inr (h3 g hgg)), ?_⟩
 ·rw [e]
  simpa [vb] using hown
 ·intro g hgg
  rcases hk with h | h
  ·exact h3 g (h.symm.trans hgg)
  ·rw [h] at hgg
   injection hgg with e'
   have := h2.size
   omega
theorem rpad_any (w : World) (n : Nat) (hn : n < 2305843009213693952) :
  Calls Tryz.prog 187 #[.int .u64 n] w fun e w' => ∃ A c, e = .returned (.slice A (padLen n) c) ∧ w'.ownsRow 0 5 1 (.slice A (padLen n) c) (padLen n) (vb (padF n)) ∧ Keeps (fun _ => False) w w' ∧ ∀ g, (Value.slice A (padLen n) c).ownBlock = some g → w.heap.size ≤ g := by
 have hpl : (padF n).length = padLen n := padK_length n 8 (by omega)
 have hL := padLen_ge n
 have hLe : padLen n = 9 + (119 - n % 64) % 64 := rfl
 have R0 : Hid (RPadRel w n 1 (.slice (some ⟨w.heap.size, 0, none⟩) 1 1) (w.alloc (.cells #[.int .u8 128] 5))) := by
  refine ⟨_, _, rfl, ⟨by simp [vb, hpl]; omega, .inr ⟨w.heap.size, 1, #[.int .u8 128], rfl, Nat.zero_le _, heap_alloc_new w _, Nat.le_refl _, by unfold maxLen; omega, rfl, ?_⟩⟩, (Keeps.refl _ w).alloc _, fun g e => by injection e with e; have e' : w.heap.size = g := e; omega⟩
  rfl
 have hz : Hid (∀ m, 1 ≤ m → m + 8 < padLen n → (padF n).getD m 0 = 0) := fun m h1 h2 => by
  have := padF_zero n (m - 1) (by omega)
  rwa [show m - 1 + 1 = m by omega] at this
 have hby : Hid (∀ k, k < 8 → (padF n).getD (padLen n - 8 + k) 0 = 8 * (n : Int) / 2 ^ (56 - 8 * k) % 256) := fun k hk => by
  have := padF_byte n (padLen n - 8 + k - 1) hn (by omega)
  rw [show padLen n - 8 + k - 1 + 1 = padLen n - 8 + k by omega, show 8 * (padLen n - 1 - (padLen n - 8 + k)) = 56 - 8 * k by omega] at this
  exact this
 have hfin : Hid (∀ v wr, RPadRel w n (padLen n) v wr → ∃ A c, v = .slice A (padLen n) c ∧ wr.ownsRow 0 5 1 (.slice A (padLen n) c) (padLen n) (vb (padF n)) ∧ Keeps (fun _ => False) w wr ∧ ∀ g, (Value.slice A (padLen n) c).ownBlock = some g → w.heap.size ≤ g) := by
  rintro v wr ⟨A, c, rfl, h1, h2, h3⟩
  rw [← hpl, List.take_length] at h1
  rw [hpl] at h1
  exact ⟨A, c, rfl, h1, h2, h3⟩
 obtain ⟨PL, hPL⟩ : ∃ PL, PL = padLen n := ⟨_, rfl⟩
 have HPL := H_ hPL
 rw [← hPL] at hL hLe hz hby hfin ⊢
 obtain ⟨N, hN⟩ : ∃ N : Int, N = n := ⟨_, rfl⟩
 have hNb : 0 ≤ N := by omega
 have hNb2 : N < 2305843009213693952 := by omega
 have HN := H_ hN
 rw [← hN]
 have HLE : Hid (∀ m : Nat, m ≤ PL - 8 → 1 ≤ m → ((N + (m : Int) + 8) % 64 = 0 ↔ m = PL - 8)) := fun m h1 h2 => by omega
 clear hpl hPL hn hN hLe
 go_enter Tryz.func187, Tryz.ntmps187
 go_wp2
 go_loopw [3] (fun v wr => ∃ m, 1 ≤ m ∧ m ≤ PL - 8 ∧ lenV v = m ∧ RPadRel w n m v wr) (fun v _ => PL - lenV v)
 case atStart => exact ⟨1, by omega, by omega, rfl, R0.out⟩
 case round =>
  clear R0
  obtain ⟨m, hm1, hm2, _, hrel⟩ := hrel
  obtain ⟨A, c, rfl, _⟩ := id hrel
  have HR := H_ hrel
  clear hrel
  have HO := H_ ((id HR.out : RPadRel w n m _ wr).elim fun A0 h => h.elim fun c0 h => h.2.1)
  have HOA := H_ (HO.out.alloc (.cells #[.int .u8 0] 5))
  have HRD := H_ (Rd.of_blk (Blk.new wr 5 [.int .u8 0]) (n := 1) rfl)
  by_cases hlt : m < PL - 8
  ·have hq : ((N + (m : Int) + 8) % 64 != 0) = true := by simp only [bne_iff_ne]; exact fun e => by have := (HLE.out m (by omega) hm1).1 e; omega
   have hNm : (m : Int) < 80 := by omega
   have hst : Hid (∀ A' c' w', w'.ownsRow 0 5 1 (.slice A' (m + 1) c') (m + 1) (vb ((padF n).take m) ++ [.int .u8 0]) → (wr.alloc (.cells #[.int .u8 0] 5)).grownBy w' (Value.slice A m c).ownBlock → ((Value.slice A' (m + 1) c').ownBlock = (Value.slice A m c).ownBlock ∨ (Value.slice A' (m + 1) c').ownBlock = some (wr.alloc (.cells #[.int .u8 0] 5)).heap.size) → RPadRel w n (m + 1) (.slice A' (m + 1) c') w') := fun A' c' w' hown hg hb => RPadRel.step HR.out (hz.out m hm1 (by omega)).symm (by rw [← HPL.out]; omega) hown hg (by simpa only [World.alloc, Array.size_push] using hb)
   go_wp2_with (at_builtin; refine wpList_append_rd _ rfl (.tmp 14) (.tmp 15) 48 rfl 5 (.int .u8 0) 1 Tryz.underlying48 info5 rfl _ m _ rfl HOA.out _ 1 1 _ rfl HRD.out (vb_one [0]) (by unfold maxLen; omega) (by omega) ?_; intro A' c' w' hown hg hb; have HW := H_ (hst.out A' c' w' hown hg hb); clear hown hg hb)
   go_roundw
   case rel => exact ⟨m + 1, by omega, by omega, rfl, HW.out⟩
   case measure => simp only [lenV]; omega
  ·have hq : ((N + (m : Int) + 8) % 64 != 0) = false := by simp only [bne_eq_false_iff_eq]; exact (HLE.out m (by omega) hm1).2 (by omega)
   have hNm : (m : Int) < 80 := by omega
   obtain rfl : m = PL - 8 := by omega
   go_wp2
   clear HOA HRD HO hq hNm HLE hz
   go_loopw [3, 4] (fun v i wr => ∃ k : Nat, k ≤ 8 ∧ i = .int .i64 (56 - 8 * (k : Int)) ∧ lenV v = PL - 8 + k ∧ RPadRel w n (PL - 8 + k) v wr) (fun v _ _ => PL - lenV v)
   case atStart => exact ⟨0, by omega, rfl, rfl, HR.out⟩
   case round =>
    clear HR
    obtain ⟨k, hk, rfl, hlv, hrel⟩ := hrel
    obtain ⟨A, c, rfl, _⟩ := id hrel
    have HR := H_ hrel
    clear hrel
    by_cases hlt : k < 8
    ·have hq : (0 : Int) ≤ 56 - 8 * (k : Int) := by omega
     have hB := hby.out k hlt
     rw [← HN.out] at hB
     have HO := H_ ((id HR.out : RPadRel w n (PL - 8 + k) _ wr).elim fun A0 h => h.elim fun c0 h => h.2.1)
     have HOA := H_ (HO.out.alloc (.cells #[.int .u8 (8 * N / 2 ^ (56 - 8 * k) % 256)] 5))
     have HRD := H_ (Rd.of_blk (Blk.new wr 5 [.int .u8 (8 * N / 2 ^ (56 - 8 * k) % 256)]) (n := 1) rfl)
     have hst : Hid (∀ A' c' w', w'.ownsRow 0 5 1 (.slice A' (PL - 8 + k + 1) c') (PL - 8 + k + 1) (vb ((padF n).take (PL - 8 + k)) ++ [.int .u8 (8 * N / 2 ^ (56 - 8 * k) % 256)]) → (wr.alloc (.cells #[.int .u8 (8 * N / 2 ^ (56 - 8 * k) % 256)] 5)).grownBy w' (Value.slice A (PL - 8 + k) c).ownBlock → ((Value.slice A' (PL - 8 + k + 1) c').ownBlock = (Value.slice A (PL - 8 + k) c).ownBlock ∨ (Value.slice A' (PL - 8 + k + 1) c').ownBlock = some (wr.alloc (.cells #[.int .u8 (8 * N / 2 ^ (56 - 8 * k) % 256)] 5)).heap.size) → RPadRel w n (PL - 8 + k + 1) (.slice A' (PL - 8 + k + 1) c') w') := fun A' c' w' hown hg hb => RPadRel.step HR.out hB.symm (by rw [← HPL.out]; omega) hown hg (by simpa only [World.alloc, Array.size_push] using hb)
     clear hB hby hfin
     go_wp2_with (at_builtin; refine wpList_append_rd _ rfl (.tmp 21) (.tmp 27) 48 rfl 5 (.int .u8 0) 1 Tryz.underlying48 info5 rfl _ (PL - 8 + k) _ rfl HOA.out _ 1 1 _ rfl HRD.out (vb_one [8 * N / 2 ^ (56 - 8 * k) % 256]) (by unfold maxLen; omega) (by omega) ?_; intro A' c' w' hown hg hb; have HW := H_ (hst.out A' c' w' hown hg hb); clear hown hg hb)
     go_roundw
     case rel => exact ⟨k + 1, by omega, by go_num, rfl, HW.out⟩
     case measure => simp only [lenV]; omega
    ·have hq : ¬ (0 : Int) ≤ 56 - 8 * (k : Int) := by omega
     obtain rfl : k = 8 := by omega
     rw [show PL - 8 + 8 = PL by omega] at HR
     go_wp2
     go_ret
     obtain ⟨A', c', e, h1, h2, h3⟩ := hfin.out _ _ HR.out
     injection e with e1 e2 e3
     subst e1 e3
     exact ⟨_, _, by simp; omega, h1, h2, h3⟩
def RHashAt (w : World) (p : Nat) (v : Value) (S : Nat → Int) (nb : Nat) (X : List Int) : Prop :=
 Blk w p 256 (hcells (stN S X (X.length / 64)) ((nb + X.length / 64 : Nat) : Int) v) ∧ w.ownsRow 0 5 1 v (X.length % 64) (vb (X.drop (64 * (X.length / 64)))) ∧ IsBytes X
theorem RHashAt.keep {F : Nat → Prop} {w w' : World} {p : Nat} {v : Value} {S : Nat → Int} {nb : Nat} {X : List Int} (h : RHashAt w p v S nb X) (hk : Keeps F w w') (hF : ∀ i, Foot p v i → ¬ F i) : RHashAt w' p v S nb X :=
 ⟨hk.blk h.1 (hF p (.inl rfl)), hk.own h.2.1 (fun g hg => hF g (.inr hg)), h.2.2⟩
theorem rhash_short {w : World} {p : Nat} {u : Value} {S : Nat → Int} {nb : Nat} {X : List Int} {b : Int} {r : Nat} (hr : r = X.length % 64) (hs : r + 1 < 64) (hX : IsBytes X) (hbs : 0 ≤ b ∧ b < 256)
  (hb : Blk w p 256 (hcells (stN S X (X.length / 64)) ((nb + X.length / 64 : Nat) : Int) u)) (ho : w.ownsRow 0 5 1 u (r + 1) (vb (X.drop (64 * (X.length / 64))) ++ [.int .u8 b])) : RHashAt w p u S nb (X ++ [b]) := by
 have hl : (X ++ [b]).length = X.length + 1 := by simp
 have e1 : (X ++ [b]).length / 64 = X.length / 64 := by omega
 have e2 : (X ++ [b]).length % 64 = r + 1 := by omega
 refine ⟨?_, ?_, bytes_append hX (fun x hx => by rw [List.mem_singleton.1 hx]; exact hbs)⟩
 ·rw [e1, stN_more S X [b] _ (by omega)]; exact hb
 ·rw [e1, e2, List.drop_append_of_le_length (by omega)]
  unfold vb at ho ⊢
  rw [List.map_append]; exact ho
theorem rblock_full {X : List Int} {b : Int} (hs : X.length % 64 = 63) : vb (X.drop (64 * (X.length / 64))) ++ [.int .u8 b] = bl (blockAt (X ++ [b]) (X.length / 64)) := by
 have hl : (X.drop (64 * (X.length / 64))).length = 63 := by rw [List.length_drop]; omega
 have e : vb (X.drop (64 * (X.length / 64))) ++ [Value.int .u8 b] = vb (X.drop (64 * (X.length / 64)) ++ [b]) := by simp [vb]
 rw [e]
 refine List.ext_getElem? fun i => ?_
 by_cases hi : i < 64
 ·have h1 : (bl (blockAt (X ++ [b]) (X.length / 64)))[i]? = some (.int .u8 (blockAt (X ++ [b]) (X.length / 64) i)) := by simp [bl, hi]
  rw [h1]
  unfold vb blockAt
  rw [List.getElem?_map, List.getD_eq_getElem?_getD, ← List.drop_append_of_le_length (by omega), List.getElem?_drop, List.getElem?_eq_getElem (by simp; omega)]
  rfl
 ·rw [List.getElem?_eq_none (by simp [vb]; omega), List.getElem?_eq_none (by rw [bl_length]; omega)]
theorem rhash_full {w : World} {p : Nat} {S : Nat → Int} {nb : Nat} {X : List Int} {b : Int} (hs : X.length % 64 = 63) (hX : IsBytes X) (hbs : 0 ≤ b ∧ b < 256)
  (hb : Blk w p 256 (hcells (round (stN S X (X.length / 64)) (blockAt (X ++ [b]) (X.length / 64))) ((nb + X.length / 64 + 1 : Nat) : Int) (.slice none 0 0))) : RHashAt w p (.slice none 0 0) S nb (X ++ [b]) := by
 have hl : (X ++ [b]).length = X.length + 1 := by simp
 have e1 : (X ++ [b]).length / 64 = X.length / 64 + 1 := by omega
 have e2 : (X ++ [b]).length % 64 = 0 := by omega
 refine ⟨?_, ?_, bytes_append hX (fun x hx => by rw [List.mem_singleton.1 hx]; exact hbs)⟩
 ·rw [e1]
  show Blk w p _ (hcells (round (stN S (X ++ [b]) (X.length / 64)) _) _ _)
  rw [stN_more S X [b] _ (by omega)]; exact hb
 ·rw [e1, e2, List.drop_eq_nil_of_le (by omega)]
  exact ⟨rfl, .inl ⟨rfl, rfl⟩⟩
def rv (S : Nat → Int) (nb : Nat) (X : List Int) (v : Value) : Value := .agg (hcells (stN S X (X.length / 64)) ((nb + X.length / 64 : Nat) : Int) v).toArray
def RWriting (w : World) (S : Nat → Int) (nb : Nat) (X bs : List Int) (k : Nat) (wr : World) : Prop :=
 ∃ v, RHashAt wr w.heap.size v S nb (X ++ bs.take k) ∧ (∀ g, v.ownBlock = some g → w.heap.size + 2 ≤ g) ∧ Blk wr (w.heap.size + 1) 256 (hcells (fun _ => 0) 0 (.slice none 0 0)) ∧ Keeps (fun _ => False) w wr
structure RStep (w : World) (S : Nat → Int) (nb : Nat) (Y : List Int) (b : Int) (n2 g cap : Nat) (W : World) : Prop where
 len : n2 = Y.length % 64
 bytes : IsBytes Y
 blk : Blk W w.heap.size 256 ((hcells (stN S Y (Y.length / 64)) ((nb + Y.length / 64 : Nat) : Int) (.slice (some ⟨g, 0, none⟩) (n2 + 1) cap)))
 blk2 : Blk W (w.heap.size + 1) 256 (hcells (fun _ => 0) 0 (.slice none 0 0))
 own : W.ownsRow 0 5 1 (.slice (some ⟨g, 0, none⟩) (n2 + 1) cap) (n2 + 1) (vb (Y.drop (64 * (Y.length / 64))) ++ [.int .u8 b])
 low : w.heap.size + 2 ≤ g
 keep : Keeps (fun _ => False) w W
structure RFill (w : World) (S : Nat → Int) (nb : Nat) (Y : List Int) (b : Int) (g cap M t : Nat) (W : World) : Prop where
 step : RStep w S nb Y b 63 g cap W
 fill : Blk W M 313 (vi .u8 (fillL ((List.range 64).map (blockAt (Y ++ [b]) (Y.length / 64))) t))
 far : w.heap.size + 1 < M ∧ g < M
theorem blk_len (f : Nat → Int) : ((List.range 64).map f).length = 64 := by simp
theorem RStep.fill {w : World} {S : Nat → Int} {nb : Nat} {Y : List Int} {b : Int} {g cap : Nat} {W : World} (h : RStep w S nb Y b 63 g cap W) (_hb : 0 ≤ b ∧ b < 256) :
  RFill w S nb Y b g cap W.heap.size 0 (W.alloc (.cells (List.replicate 64 (Value.int .u8 0)).toArray 313)) := by
 refine ⟨⟨h.len, h.bytes, h.blk.alloc _, h.blk2.alloc _, h.own.alloc _, h.low, h.keep.alloc _⟩, ?_, ?_, ?_⟩
 ·rw [fillL_zero, blk_len, show vi .u8 (List.replicate 64 0) = List.replicate 64 (Value.int .u8 0) by simp [vi]]
  exact Blk.new _ _ _
 ·exact h.blk2.lt
 ·exact (h.own.lt g rfl).2
theorem RFill.src {w : World} {S : Nat → Int} {nb : Nat} {Y : List Int} {b : Int} {g cap M t : Nat} {W : World} (h : RFill w S nb Y b g cap M t W) (i : Nat) (hi : i < 64) : W.cell? ⟨g, i, none⟩ = some (.int .u8 (blockAt (Y ++ [b]) (Y.length / 64) i)) := by
 obtain ⟨g', o', e, hc⟩ := (Rd.of_own h.step.own).2 (by omega)
 injection e with e
 injection e with e1 e2
 subst e1 e2
 have := hc i (by omega)
 rw [Nat.zero_add, rblock_full h.step.len.symm] at this
 rw [this]
 simp [bl, hi]
theorem RFill.dst {w : World} {S : Nat → Int} {nb : Nat} {Y : List Int} {b : Int} {g cap M t : Nat} {W : World} (h : RFill w S nb Y b g cap M t W) (i : Nat) (hi : i < 64) : ∃ u, W.cell? ⟨M, i, none⟩ = some u := by
 rw [h.fill.cell]
 refine ⟨_, List.getElem?_eq_getElem ?_⟩
 rw [vi_length]
 by_cases ht : t ≤ 64
 ·rw [fillL_length _ _ (by rw [blk_len]; exact ht), blk_len]; exact hi
 ·simp [fillL]; omega
theorem RFill.next {w : World} {S : Nat → Int} {nb : Nat} {Y : List Int} {b : Int} {g cap M t : Nat} {W : World} (h : RFill w S nb Y b g cap M t W) (ht : t < 64) : RFill w S nb Y b g cap M (t + 1) (W.setCell ⟨M, t, none⟩ (.int .u8 (blockAt (Y ++ [b]) (Y.length / 64) t))) := by
 have hf := h.far
 refine ⟨⟨h.step.len, h.step.bytes, h.step.blk.far (by show w.heap.size ≠ M; omega) _, h.step.blk2.far (by show w.heap.size + 1 ≠ M; omega) _, ?_, h.step.low, h.step.keep.setCell (.inr (by show w.heap.size ≤ M; omega)) _⟩, ?_, hf⟩
 ·exact Keeps.own ((Keeps.refl (fun i => i = M) W).setCell (.inl rfl) _) h.step.own (fun i hi e => by have e' : some g = some i := hi; injection e' with e'; omega)
 ·have := h.fill.set_ t (.int .u8 (((List.range 64).map (blockAt (Y ++ [b]) (Y.length / 64))).getD t 0))
  rw [vi_set, fillL_set _ t (by rw [blk_len]; exact ht)] at this
  rw [show ((List.range 64).map (blockAt (Y ++ [b]) (Y.length / 64))).getD t 0 = blockAt (Y ++ [b]) (Y.length / 64) t by simp [ht]] at this
  exact this
theorem RFill.all {w : World} {S : Nat → Int} {nb : Nat} {Y : List Int} {b : Int} {g cap M : Nat} {W : World} (h : RFill w S nb Y b g cap M 64 W) : Blk W M 313 (bl (blockAt (Y ++ [b]) (Y.length / 64))) := by
 have e := fillL_all ((List.range 64).map (blockAt (Y ++ [b]) (Y.length / 64)))
 rw [blk_len] at e
 have := h.fill
 rw [e] at this
 have e2 : vi .u8 ((List.range 64).map (blockAt (Y ++ [b]) (Y.length / 64))) = bl (blockAt (Y ++ [b]) (Y.length / 64)) := by simp [vi, bl]
 rw [e2] at this
 exact this
theorem rwrite_any (w : World) (S : Nat → Int) (nb : Nat) (X : List Int) (A : Option Addr) (c : Nat) (hX : IsBytes X) (hA : Rd w A (X.length % 64) (vb (X.drop (64 * (X.length / 64)))))
  (B : Option Addr) (cb : Nat) (bs : List Int) (hr : Rd w B bs.length (vb bs)) (hbs : IsBytes bs) (hbig : 64 * nb + X.length + bs.length < 4611686018427387904) :
  Calls Tryz.prog 135 #[rv S nb X (.slice A (X.length % 64) c), .slice B bs.length cb] w fun e w' => ∃ v, e = .returned (rv S nb (X ++ bs) v) ∧ w'.ownsRow 0 5 1 v ((X ++ bs).length % 64) (vb ((X ++ bs).drop (64 * ((X ++ bs).length / 64)))) ∧ Keeps (fun _ => False) w w' ∧ ∀ g, v.ownBlock = some g → w.heap.size ≤ g := by
 obtain ⟨r, hrr⟩ : ∃ r, r = X.length % 64 := ⟨_, rfl⟩
 obtain ⟨q, hqq⟩ : ∃ q, q = nb + X.length / 64 := ⟨_, rfl⟩
 obtain ⟨T, hT⟩ : ∃ T, T = stN S X (X.length / 64) := ⟨_, rfl⟩
 unfold rv
 rw [← hrr, ← hqq, ← hT]
 have hCp := fun wx (h : Rd wx A r (vb (X.drop (64 * (X.length / 64))))) => rcopy_any wx T q A r c (X.drop (64 * (X.length / 64))) h (by omega)
 rw [← hrr] at hA
 have hb1 := (Blk.new w 256 (hcells T q (.slice A r c))).alloc (.cells (hcells (fun _ => 0) 0 (.slice none 0 0)).toArray 256)
 have hb2 := Blk.new (w.alloc (.cells (hcells T q (.slice A r c)).toArray 256)) 256 (hcells (fun _ => 0) 0 (.slice none 0 0))
 rw [World.size_alloc] at hb2
 have hA2 := (hA.alloc (.cells (hcells T q (.slice A r c)).toArray 256)).alloc (.cells (hcells (fun _ => 0) 0 (.slice none 0 0)).toArray 256)
 have HCp := H_ hCp
 have HB1 := H_ hb1
 have HB2 := H_ hb2
 have HA2 := H_ hA2
 have HR := H_ hr
 have HBS := H_ hbs
 have HX := H_ hX
 have hbl : bs.length < 4611686018427387904 := by omega
 have HBIG := H_ hbig
 obtain ⟨cs, hcs⟩ : ∃ cs, cs = (hcells T q (.slice A r c)).toArray := ⟨_, rfl⟩
 rw [← hcs] at HB1 HB2 HA2 HCp ⊢
 have HCS := H_ hcs
 have HT := H_ hT
 have HQQ := H_ hqq
 have HRR := H_ hrr
 clear hCp hb1 hb2 hA2 hr hbs hX hA hbig hcs hT hqq hrr
 go_enter Tryz.func135, Tryz.ntmps135
 go_wp2_with (first
  | ((with_reducible show wpList _ _ _ (⟨some _, Op.load 256 _, _, _, _, _⟩ :: _) _ _); refine wpList_load_whole rfl 256 _ rfl _ rfl HB1.out Tryz.underlying256 rfl (by rw [hcells_length]; kernel_rfl) ?_; rw [← HCS.out])
  | (go_at_call 185; refine (HCp.out _ HA2.out).mono ?_; rintro e w1 ⟨A1, c1, rfl, ho1, hk1, hg1⟩; have HO1 := H_ ho1; have HK1 := H_ hk1; have HG1 := H_ hg1; clear ho1 hk1 hg1)
  | ((with_reducible show wpList _ _ _ (⟨none, Op.store 256 _ _, _, _, _, _⟩ :: _) _ _); refine wpList_store_whole rfl 256 _ _ rfl (hcells T q (.slice A1 r c1)) rfl rfl (HK1.out.blk HB1.out (fun h => h)) (by rw [hcells_length, hcells_length]) (by rw [hcells_length]; kernel_rfl) (hcells_one T q _ _ _) ?_))
 have R0 : RWriting w S nb X bs 0 (w1.setRow w.heap.size (hcells T q (.slice A1 r c1)).toArray) := by
  have hg : ∀ g, (Value.slice A1 r c1).ownBlock = some g → w.heap.size + 2 ≤ g := fun g hg => by have := HG1.out g hg; simpa using this
  refine ⟨.slice A1 r c1, ⟨?_, ?_, ?_⟩, hg, ?_, ?_⟩
  ·rw [List.take_zero, List.append_nil, ← HT.out, ← HQQ.out]; exact (HK1.out.blk HB1.out (fun h => h)).setRow _
  ·rw [List.take_zero, List.append_nil, ← HRR.out]
   exact Keeps.own (Keeps.setRow (F := fun i => i = w.heap.size) (Keeps.refl _ _) (.inl rfl) _) HO1.out (fun g h e => by have := hg g h; omega)
  ·rw [List.take_zero, List.append_nil]; exact HX.out
  ·exact (HK1.out.blk HB2.out (fun h => h)).setRow_far (by omega) _
  ·exact (((((Keeps.refl _ w).alloc _).alloc _).trans HK1.out (fun _ _ h => h))).setRow (.inr (Nat.le_refl _)) _
 have HR0 := H_ R0
 clear R0 HCp HB1 HB2 HA2 HO1 HK1 HG1 HCS HT HQQ HRR
 go_loopw [5] (fun i wr => ∃ k : Nat, k ≤ bs.length ∧ i = .int .i64 k ∧ RWriting w S nb X bs k wr) (fun i _ => bs.length - (intOf i).toNat)
 case atStart => exact ⟨0, by omega, rfl, HR0.out⟩
 case round =>
  clear HR0
  obtain ⟨k, hk, rfl, hrel⟩ := hrel
  have HW := H_ hrel
  clear hrel
  by_cases hlt : k < bs.length
  ·have hb : ∃ b, bs[k]? = some b := ⟨_, List.getElem?_eq_getElem hlt⟩
   obtain ⟨b, hb⟩ := hb
   have hbr : 0 ≤ b ∧ b < 256 := HBS.out b (List.mem_of_getElem? hb)
   obtain ⟨gB, oB, rfl, hcB⟩ := HR.out.2 (by omega)
   have hgB : gB < w.heap.size := by
    have h0 := hcB 0 (by omega)
    obtain ⟨u, hu⟩ : ∃ u, (vb bs)[0]? = some u := ⟨_, List.getElem?_eq_getElem (by simp [vb]; omega)⟩
    rw [hu] at h0
    exact World.block_lt_of_cell? w _ h0
   obtain ⟨v, ⟨hbk, ho, hx⟩, hg2, hb2, hkp⟩ := HW.out
   obtain ⟨A2, c2, rfl⟩ := own_shape ho
   have hnext : X ++ bs.take (k + 1) = (X ++ bs.take k) ++ [b] := by rw [List.take_add_one, hb]; simp
   have HYL : Hid (64 * nb + (X ++ bs.take k).length + 1 < 4611686018427387904) := H_ (by have := HBIG.out; simp; omega)
   obtain ⟨Y, hY⟩ : ∃ Y, Y = X ++ bs.take k := ⟨_, rfl⟩
   rw [← hY] at hbk ho hx hnext HYL hg2
   have HNEXT := H_ hnext
   clear hY hnext
   obtain ⟨n2, hn2⟩ : ∃ n2, n2 = Y.length % 64 := ⟨_, rfl⟩
   have hn64 : n2 < 64 := by omega
   rw [← hn2] at hbk ho hg2
   have hc8 : (vb bs)[k]? = some (.int .u8 b) := by simp [vb, hb]
   have HC9 : Hid (∀ W, Keeps (fun i => (Value.slice A2 n2 c2).ownBlock = some i) wr W → W.cell? ⟨w.heap.size, 9, none⟩ = some (.slice A2 n2 c2)) := H_ fun W hk => by rw [(hk.blk hbk (fun h => by have := hg2 _ h; omega)).cell]; rfl
   have HCB : Hid (∀ W, Keeps (fun i => (Value.slice A2 n2 c2).ownBlock = some i) wr W → W.cell? ⟨gB, oB + k, none⟩ = some (.int .u8 b)) := H_ fun W hk => by
    rw [hk.cell (p := ⟨gB, oB + k, none⟩) (Nat.lt_of_lt_of_le hgB hkp.size) (fun h => by have := hg2 _ h; simp at this; omega), hkp.cell (p := ⟨gB, oB + k, none⟩) hgB (fun h => h), hcB k hlt, hc8]
   have HOA : Hid ((wr.alloc (.cells #[.int .u8 b] 5)).drew.ownsRow 0 5 1 (.slice A2 n2 c2) n2 (vb (Y.drop (64 * (Y.length / 64))))) := H_ (ho.alloc _)
   have HNB : Hid (∀ j u, [Value.int .u8 b][j]? = some u → (wr.alloc (.cells #[.int .u8 b] 5)).drew.cell? ((⟨wr.heap.size, 0, none⟩ : Addr).add j) = some u) := H_ fun j u hu => World.news_of_block (w := wr.alloc (.cells #[.int .u8 b] 5)) (heap_alloc_new wr _) j u hu
   have hwr : w.heap.size < wr.heap.size := hbk.lt
   have HD : Hid (∀ (g cap : Nat) (w' : World), w'.ownsRow 0 5 1 (.slice (some ⟨g, 0, none⟩) (n2 + 1) cap) (n2 + 1) (vb (Y.drop (64 * (Y.length / 64))) ++ [.int .u8 b]) → (wr.alloc (.cells #[.int .u8 b] 5)).drew.grownBy w' (Value.slice A2 n2 c2).ownBlock → ((Value.slice A2 n2 c2).ownBlock = some g ∨ g = (wr.alloc (.cells #[.int .u8 b] 5)).drew.heap.size) →
     w'.cell? ⟨w.heap.size, 9, none⟩ = some (.slice A2 n2 c2) ∧ w'.frozen? ⟨w.heap.size, 9, none⟩ = false ∧ Hid (RStep w S nb Y b n2 g cap (w'.setCell ⟨w.heap.size, 9, none⟩ (.slice (some ⟨g, 0, none⟩) (n2 + 1) cap)))) := H_ fun g cap w' hown hg hnb => by
    have hbk' : Blk (wr.alloc (.cells #[.int .u8 b] 5)).drew w.heap.size 256 _ := (hbk.alloc _).drew
    have hb2' : Blk (wr.alloc (.cells #[.int .u8 b] 5)).drew (w.heap.size + 1) 256 _ := (hb2.alloc _).drew
    have hkg := Keeps.of_grown hg
    have hne : ∀ i, (Value.slice A2 n2 c2).ownBlock = some i → w.heap.size + 2 ≤ i := hg2
    have h1 := hkg.blk hbk' (fun e => by have := hne _ e; omega)
    have h2 := hkg.blk hb2' (fun e => by have := hne _ e; omega)
    have hgg : w.heap.size + 2 ≤ g := by
     rcases hnb with h | h
     ·exact hne _ h
     ·have e : (wr.alloc (.cells #[.int .u8 b] 5)).drew.heap.size = wr.heap.size + 1 := by simp [World.drew]
      have := hb2.lt
      omega
    refine ⟨by rw [h1.cell]; rfl, h1.frozen 9, H_ ⟨hn2, hx, h1.set_ 9 _, h2.far (by show w.heap.size + 1 ≠ w.heap.size; omega) _, ?_, hgg, ?_⟩⟩
    ·exact Keeps.own ((Keeps.refl (fun i => i = w.heap.size) w').setCell (.inl rfl) _) hown (fun i hi e => by have e' : some g = some i := hi; injection e' with e'; omega)
    ·exact (((hkp.alloc _).drew).grown hg (fun i hi => .inr (by have := hne _ hi; omega))).setCell (.inr (Nat.le_refl _)) _
   have HN2 := H_ hn2
   have HBR := H_ hbr
   clear hcB hbk ho hx hg2 hb2 hkp hc8 hb hn2 hbr
   go_wp2
   -- REGION 5
   refine wp_region_last (S := Keeps (fun i => (Value.slice A2 n2 c2).ownBlock = some i) wr) 9 (by kernel_rfl) ((Keeps.refl _ _).drew) (fun h_ => ?_)
   refine wpAnyZ_take (i := 0) (oi := ⟨some 16, _, _, _, _, _⟩) (v := ?_) rfl (by kernel_rfl) (by kernel_rfl) (by kernel_rfl) (by kernel_rfl) (fun _ _ _ h => h) (Or.inl ⟨by rfl, ?_⟩) h_ ?_
   rotate_left
   ·intro w' hSw
    go_simp
    first | done | rfl
   try simp only [pu]
   refine wpAnyZ_take (i := 1) (oi := ⟨some 17, _, _, _, _, _⟩) (v := ?_) rfl (by kernel_rfl) (by kernel_rfl) (by kernel_rfl) (by kernel_rfl) (fun _ _ _ h => h) (Or.inl ⟨by rfl, ?_⟩) h_ ?_
   rotate_left
   ·intro w' hSw
    have c9 := HC9.out _ hSw
    go_simp
    first | done | rfl
   try simp only [pu]
   refine wpAnyZ_take (i := 2) (oi := ⟨some 18, _, _, _, _, _⟩) (v := ?_) rfl (by kernel_rfl) (by kernel_rfl) (by kernel_rfl) (by kernel_rfl) (fun _ _ _ h => h) (Or.inl ⟨by rfl, ?_⟩) h_ ?_
   rotate_left
   ·intro w' hSw
    go_simp
    first | done | rfl
   try simp only [pu]
   refine wpAnyZ_take (i := 3) (oi := ⟨some 19, _, _, _, _, _⟩) (v := ?_) rfl (by kernel_rfl) (by kernel_rfl) (by kernel_rfl) (by kernel_rfl) (fun _ _ _ h => h) (Or.inl ⟨by rfl, ?_⟩) h_ ?_
   rotate_left
   ·intro w' hSw
    go_simp
    first | done | rfl
   try simp only [pu]
   refine wpAnyZ_take (i := 4) (oi := ⟨some 20, _, _, _, _, _⟩) (v := ?_) rfl (by kernel_rfl) (by kernel_rfl) (by kernel_rfl) (by kernel_rfl) (fun _ _ _ h => h) (Or.inl ⟨by rfl, ?_⟩) h_ ?_
   rotate_left
   ·intro w' hSw
    go_simp
    first | done | rfl
   try simp only [pu]
   refine wpAnyZ_take (i := 5) (oi := ⟨some 21, _, _, _, _, _⟩) (v := ?_) rfl (by kernel_rfl) (by kernel_rfl) (by kernel_rfl) (by kernel_rfl) (fun _ _ _ h => h) (Or.inl ⟨by rfl, ?_⟩) h_ ?_
   rotate_left
   ·intro w' hSw
    have cb := HCB.out _ hSw
    go_simp
    first | done | rfl
   try simp only [pu]
   refine wpAnyZ_step (i := 6) (o := ⟨some 22, _, _, _, _, _⟩) (by kernel_rfl) rfl (fun K hK => ?_)
   go_simp
   refine hK.out _ _ (h_.alloc _) (fun h_ => ?_)
   clear hK K
   try simp only [pu]
   refine wpAnyZ_step (i := 7) (o := ⟨some 23, _, _, _, _, _⟩) (by kernel_rfl) rfl (fun K hK => ?_)
   refine step_append_lies _ rfl (.tmp 17) (.tmp 22) 48 rfl 0 5 _ _ 1 1 Tryz.underlying48 rfl rfl rfl rfl rfl (by decide) _ n2 _ rfl HOA.out ⟨wr.heap.size, 0, none⟩ 1 1 [.int .u8 b] rfl rfl HNB.out (vb_one [b]) (by decide) (by unfold maxLen; omega) (by omega) (Nat.zero_le _) _ rfl ?_
   intro g cap w' hown hg hnb hglt
   obtain ⟨d9, e9, HS⟩ := HD.out g cap w' hown hg hnb
   have h_ := h_.grown hg (fun i hi => .inl hi)
   clear hown hg hnb
   refine hK.out _ _ h_ (fun h_ => ?_)
   clear hK K
   try simp only [pu]
   refine wpAnyZ_take (i := 8) (oi := ⟨some 24, _, _, _, _, _⟩) (v := ?_) rfl (by kernel_rfl) (by kernel_rfl) (by kernel_rfl) (by kernel_rfl) (fun _ _ _ h => h) (Or.inl ⟨by rfl, ?_⟩) h_ ?_
   rotate_left
   ·intro w' hSw
    go_simp
    first | done | rfl
   try simp only [pu]
   refine wpAnyZ_last (o := ⟨none, _, _, _, _, _⟩) (by kernel_rfl) (by kernel_rfl) rfl (fun K hK => ?_)
   go_simp
   refine hK.out _ _ ?_
   clear hK K
   try simp only [pu]
   -- BEHIND REGION 5
   clear d9 e9
   generalize (w'.setCell ⟨w.heap.size, 9, none⟩ (.slice (some ⟨g, 0, none⟩) (n2 + 1) cap)) = W1 at HS ⊢
   have x9 : W1.cell? ⟨w.heap.size, 9, none⟩ = some (.slice (some ⟨g, 0, none⟩) (n2 + 1) cap) := by rw [HS.out.blk.cell]; rfl
   by_cases h63 : n2 = 63
   ·subst h63
    have hR0 : Hid (RFill w S nb Y b g cap W1.heap.size 0 (W1.alloc (.cells (List.replicate 64 (Value.int .u8 0)).toArray 313))) := H_ (HS.out.fill HBR.out)
    go_wp2
    clear x9
    go_loopw [7] (fun i wx => ∃ t : Nat, t ≤ 64 ∧ i = .int .i64 t ∧ RFill w S nb Y b g cap W1.heap.size t wx) (fun i _ => 64 - (intOf i).toNat)
    case atStart => exact ⟨0, by omega, rfl, hR0.out⟩
    case round =>
     clear hR0
     obtain ⟨t, ht, rfl, hr⟩ := hrel
     have HRF := H_ hr
     clear hr
     by_cases ht64 : t < 64
     ·have y9 : wr.cell? ⟨w.heap.size, 9, none⟩ = some (.slice (some ⟨g, 0, none⟩) (63 + 1) cap) := by rw [HRF.out.step.blk.cell]; rfl
      have yt := HRF.out.src t ht64
      obtain ⟨old, yo⟩ := HRF.out.dst t ht64
      have yf := HRF.out.fill.frozen t
      obtain ⟨x, hx⟩ : ∃ x, x = blockAt (Y ++ [b]) (Y.length / 64) t := ⟨_, rfl⟩
      rw [← hx] at yt
      have HX1 := H_ hx
      clear hx
      go_wp2
      go_roundw
      case rel => exact ⟨t + 1, by omega, by go_num, by rw [HX1.out]; exact HRF.out.next ht64⟩
      case measure => simp [intOf]; omega
     ·obtain rfl : t = 64 := by omega
      have hs : Lies wr w.heap.size 0 (wl (stN S Y (Y.length / 64))) := Lies.of_blk HRF.out.step.blk (by simp [hcells, wl])
      have hbb := HRF.out.all
      obtain ⟨B, hB⟩ : ∃ B, B = blockAt (Y ++ [b]) (Y.length / 64) := ⟨_, rfl⟩
      obtain ⟨st, hst⟩ : ∃ st, st = stN S Y (Y.length / 64) := ⟨_, rfl⟩
      obtain ⟨q2, hq2⟩ : ∃ q2, q2 = nb + Y.length / 64 := ⟨_, rfl⟩
      have hq2b : q2 < 72057594037927936 := by have := HYL.out; omega
      have hblk := HRF.out.step.blk
      have hro := refRound_any (stN S Y (Y.length / 64)) (blockAt (Y ++ [b]) (Y.length / 64)) (blockAt_bytes (bytes_append HRF.out.step.bytes (fun z hz => by rw [List.mem_singleton.1 hz]; exact HBR.out)) _) wr
      rw [← hB, ← hst] at hro
      rw [← hB] at hbb
      rw [← hst] at hs
      rw [← hst, ← hq2] at hblk
      have HS1 := H_ hs
      have HBB := H_ hbb
      have HRO := H_ hro
      have HBK := H_ hblk
      have HB := H_ hB
      have HST := H_ hst
      have HQ2 := H_ hq2
      clear hs hbb hro hblk hB hst hq2
      go_wp2_with (first
       | ((with_reducible show wpList _ _ _ (⟨some _, Op.load 254 _, _, _, _, _⟩ :: _) _ _); refine wpList_load_lies rfl 254 _ rfl 0 (wl st) _ rfl HS1.out Tryz.underlying254 rfl sh_info8 ?_)
       | ((with_reducible show wpList _ _ _ (⟨some _, Op.load 313 _, _, _, _, _⟩ :: _) _ _); refine wpList_load_whole rfl 313 _ rfl _ rfl HBB.out Tryz.underlying313 rfl (by rw [bl_length]; exact info64) ?_)
       | (go_at_call 186; refine HRO.out.mono ?_; rintro e wz ⟨rfl, hkz⟩)
       | ((with_reducible show wpList _ _ _ (⟨none, Op.store 254 _ _, _, _, _, _⟩ :: _) _ _); refine wpList_store_at rfl 254 _ _ rfl 0 (wl (round st B)) rfl rfl (hkz.blk HBK.out (fun h => h)) (by simp [hcells, wl]) sh_info8 (wl_one _) ?_; rw [splice_hcells]; have hb2 := (hkz.blk HBK.out (fun h => h)).setRow (hcells (round st B) (q2 : Int) (.slice (some ⟨g, 0, none⟩) (63 + 1) cap)); have hk2 : Keeps (fun i => i = w.heap.size) wr (wz.setRow w.heap.size (hcells (round st B) (q2 : Int) (.slice (some ⟨g, 0, none⟩) (63 + 1) cap)).toArray) := Keeps.setRow (F := fun i => i = w.heap.size) (hkz.mono (fun _ _ h => h.elim)) (.inl rfl) _; generalize wz.setRow w.heap.size _ = w2 at hb2 hk2 ⊢; have d8 : w2.cell? ⟨w.heap.size, 8, none⟩ = some (.int .u64 (q2 : Int)) := (by rw [hb2.cell]; rfl); have e8 : w2.frozen? ⟨w.heap.size, 8, none⟩ = false := hb2.frozen 8; have d9 : w2.cell? ⟨w.heap.size, 9, none⟩ = some (.slice (some ⟨g, 0, none⟩) (63 + 1) cap) := (by rw [hb2.cell]; rfl); have e9 : w2.frozen? ⟨w.heap.size, 9, none⟩ = false := hb2.frozen 9; have HB2 := H_ hb2; have HK2 := H_ hk2; clear hb2 hk2))
      go_roundw
      case rel =>
       have hstp := HRF.out.step
       have hb3 := (HB2.out.set_ 8 (.int .u64 ((q2 + 1 : Nat) : Int))).set_ 9 (.slice none 0 0)
       have hk3 : Keeps (fun i => i = w.heap.size) wr ((w2.setCell ⟨w.heap.size, 8, none⟩ (.int .u64 ((q2 + 1 : Nat) : Int))).setCell ⟨w.heap.size, 9, none⟩ (.slice none 0 0)) := Keeps.setCell (F := fun i => i = w.heap.size) (Keeps.setCell (F := fun i => i = w.heap.size) HK2.out (.inl rfl) _) (.inl rfl) _
       refine ⟨k + 1, by omega, by go_num, .slice none 0 0, ?_, (fun g h => by cases h), hk3.blk hstp.blk2 (fun h => by omega), hstp.keep.trans (hk3.mono (G := fun i => w.heap.size ≤ i) (fun _ _ h => h ▸ Nat.le_refl _)) (fun i hi h => by omega)⟩
       rw [HNEXT.out]
       refine rhash_full (HN2.out.symm) hstp.bytes HBR.out ?_
       rw [← HST.out, ← HB.out, ← HQ2.out]
       exact hb3
      case measure => simp [intOf]; omega
   ·have h64' : n2 + 1 < 64 := by omega
    have h64 : ((n2 : Int) + 1 == 64) = false := by simp; omega
    go_wp2
    go_roundw
    case rel =>
     have hstp := HS.out
     refine ⟨k + 1, by omega, by go_num, .slice (some ⟨g, 0, none⟩) (n2 + 1) cap, ?_, fun i h => ?_, hstp.blk2, hstp.keep⟩
     ·rw [HNEXT.out]
      exact rhash_short HN2.out h64' hstp.bytes HBR.out hstp.blk hstp.own
     ·have e : some g = some i := h
      injection e with e
      have := hstp.low
      omega
    case measure => simp [intOf]; omega
  ·obtain rfl : k = bs.length := by omega
   obtain ⟨v, ⟨hb, ho, hx⟩, hg, hb2, hkp⟩ := HW.out
   rw [List.take_length] at hb ho
   obtain ⟨A2, c2, rfl⟩ := own_shape ho
   generalize hnn : (X ++ bs).length % 64 = n2 at *
   have HB := H_ hb
   have HO := H_ ho
   have HB2 := H_ hb2
   have HG := H_ hg
   have HKP := H_ hkp
   obtain ⟨T', hT'⟩ : ∃ T', T' = stN S (X ++ bs) ((X ++ bs).length / 64) := ⟨_, rfl⟩
   obtain ⟨q', hq'⟩ : ∃ q', q' = nb + (X ++ bs).length / 64 := ⟨_, rfl⟩
   rw [← hT', ← hq'] at HB
   have HT' := H_ hT'
   have HQ' := H_ hq'
   have HNN := H_ hnn
   clear hb ho hx hg hb2 hkp HW hT' hq' hnn
   go_wp2_with (first
    | ((with_reducible show wpList _ _ _ (⟨some _, Op.load 256 _, _, _, _, _⟩ :: _) _ _); refine wpList_load_whole rfl 256 _ rfl _ rfl HB.out Tryz.underlying256 rfl (by rw [hcells_length]; kernel_rfl) ?_)
    | ((with_reducible show wpList _ _ _ (⟨none, Op.store 256 _ _, _, _, _, _⟩ :: _) _ _); refine wpList_store_whole rfl 256 _ _ rfl (hcells T' q' (.slice A2 n2 c2)) rfl rfl HB2.out (by rw [hcells_length, hcells_length]) (by rw [hcells_length]; kernel_rfl) (hcells_one T' q' _ _ _) ?_))
   refine bodyPost_ret (results_blk rfl _ _ rfl (HB2.out.setRow (hcells T' q' (.slice A2 n2 c2))) Tryz.underlying256 rfl (by rw [hcells_length]; kernel_rfl)) rfl ⟨.slice A2 n2 c2, by rw [HT'.out, HQ'.out], ?_, ?_, ?_⟩
   ·rw [HNN.out]
    exact Keeps.own (Keeps.setRow (F := fun i => i = w.heap.size + 1) (Keeps.refl _ _) (.inl rfl) _) HO.out (fun g h e => by have := HG.out g h; omega)
   ·exact HKP.out.setRow (.inr (by omega)) _
   ·exact fun g h => by have := HG.out g h; omega
def RSumRel (w : World) (P N M : Nat) (T : Nat → Int) (q : Int) (v : Value) (n : Nat) (wr : World) : Prop :=
 Blk wr P 256 (hcells T q v) ∧ Blk wr M 22 (digL T n) ∧ Blk wr N 22 (List.replicate 32 (Value.int .u8 0)) ∧ Keeps (fun _ => False) w wr ∧ w.heap.size ≤ N ∧ w.heap.size ≤ M ∧ N ≠ M ∧ P ≠ M
theorem rsum_any (w : World) (S : Nat → Int) (nb : Nat) (X : List Int) (A : Option Addr) (c : Nat) (hX : IsBytes X) (hA : Rd w A (X.length % 64) (vb (X.drop (64 * (X.length / 64))))) (hbig : 64 * nb + X.length < 2305843009213693952) :
  Calls Tryz.prog 136 #[rv S nb X (.slice A (X.length % 64) c)] w fun e w' => e = .returned (.agg (vb (sumF S nb X)).toArray) ∧ Keeps (fun _ => False) w w' := by
 obtain ⟨r, hrr⟩ : ∃ r, r = X.length % 64 := ⟨_, rfl⟩
 obtain ⟨cs, hcs⟩ : ∃ cs, cs = (hcells (stN S X (X.length / 64)) ((nb + X.length / 64 : Nat) : Int) (.slice A r c)).toArray := ⟨_, rfl⟩
 obtain ⟨csl, hcsl⟩ : ∃ csl, csl = hcells (stN S X (X.length / 64)) ((nb + X.length / 64 : Nat) : Int) (.slice A r c) := ⟨_, rfl⟩
 have hcc : cs = csl.toArray := by rw [hcs, hcsl]
 have hcl : csl.length = 10 := by rw [hcsl, hcells_length]
 obtain ⟨PL, hPL⟩ : ∃ PL, PL = padLen (64 * nb + X.length) := ⟨_, rfl⟩
 obtain ⟨PF, hPF⟩ : ∃ PF, PF = padF (64 * nb + X.length) := ⟨_, rfl⟩
 have hPLb : PL ≤ 72 := by rw [hPL]; exact (padLen_ge _).2
 have hPFL : PF.length = PL := by rw [hPF, hPL]; exact padK_length _ 8 (by omega)
 have hPFB : IsBytes PF := by rw [hPF]; exact padF_bytes _
 have hwh : (X ++ PF).length % 64 = 0 := by
  have := padLen_whole (64 * nb + X.length)
  rw [List.length_append, hPFL, hPL]; omega
 have hlq : (X ++ PF).length / 64 = (X.length + PL) / 64 := by rw [List.length_append, hPFL]
 obtain ⟨T', hT'⟩ : ∃ T', T' = stN S (X ++ PF) ((X.length + PL) / 64) := ⟨_, rfl⟩
 obtain ⟨q', hq'⟩ : ∃ q' : Nat, q' = nb + (X.length + PL) / 64 := ⟨_, rfl⟩
 obtain ⟨L, hL⟩ : ∃ L : Int, L = ((64 * nb + X.length : Nat) : Int) := ⟨_, rfl⟩
 have HLE : Hid (∀ W, Keeps (fun _ => False) w W → Calls Tryz.prog 188 #[.agg csl.toArray] W fun e w' => e = .returned (.int .u64 L) ∧ Keeps (fun _ => False) W w') := H_ fun W _ => by
  rw [hcsl]
  refine (rlen_any W _ _ A r c (by omega) (by omega)).mono fun e w' hh => ⟨?_, hh.2⟩
  rw [hh.1, hL]
  congr 3
  omega
 have HPA : Hid (∀ W, Calls Tryz.prog 187 #[.int .u64 L] W fun e w' => ∃ A c, e = .returned (.slice A PL c) ∧ w'.ownsRow 0 5 1 (.slice A PL c) PL (vb PF) ∧ Keeps (fun _ => False) W w' ∧ ∀ g, (Value.slice A PL c).ownBlock = some g → W.heap.size ≤ g) := H_ fun W => by
  rw [hL, hPL, hPF]
  exact rpad_any W (64 * nb + X.length) hbig
 have HWR : Hid (∀ (W : World) A3 c3, Keeps (fun _ => False) w W → W.ownsRow 0 5 1 (.slice A3 PL c3) PL (vb PF) → Calls Tryz.prog 135 #[.agg csl.toArray, .slice A3 PL c3] W fun e w' => ∃ A4 c4, e = .returned (.agg (hcells T' q' (.slice A4 0 c4)).toArray) ∧ Keeps (fun _ => False) W w') := H_ fun W A3 c3 hk ho => by
  have hr3 := Rd.of_own ho
  rw [← hPFL] at hr3 ⊢
  have := rwrite_any W S nb X A c hX (hA.keep hk (no_out _ _)) A3 c3 PF hr3 hPFB (by omega)
  unfold rv at this
  rw [← hrr, ← hcsl] at this
  refine this.mono fun e w' ⟨v, he, ho4, hk4, _⟩ => ?_
  rw [hwh] at ho4
  obtain ⟨A4, c4, rfl⟩ := own_shape ho4
  refine ⟨A4, c4, ?_, hk4⟩
  rw [he, hlq, hT', hq']
 unfold rv
 rw [← hrr, ← hcs]
 have HIN : Hid ((Tryz.prog.info? 256).map (·.size) = some csl.length) := H_ (by rw [hcl]; kernel_rfl)
 have hb1 := (Blk.new w 256 csl).alloc (.cells (List.replicate 32 (Value.int .u8 0)).toArray 22)
 have hb2 := Blk.new (w.alloc (.cells csl.toArray 256)) 22 (List.replicate 32 (Value.int .u8 0))
 rw [World.size_alloc] at hb2
 rw [← hcc] at hb1 hb2
 have HB1 : Hid (∀ W, Keeps (fun _ => False) ((w.alloc (.cells cs 256)).alloc (.cells (List.replicate 32 (Value.int .u8 0)).toArray 22)) W → Blk W w.heap.size 256 csl) := H_ fun W hk => hk.blk hb1 (fun h => h)
 have HRG : Hid (∀ W, Keeps (fun _ => False) ((w.alloc (.cells cs 256)).alloc (.cells (List.replicate 32 (Value.int .u8 0)).toArray 22)) W → W.rangeAt w.heap.size 0 csl) := H_ fun W hk j v hv => by rw [Nat.zero_add, (HB1.out W hk).cell, hv]
 have HB2 : Hid (∀ W, Keeps (fun _ => False) ((w.alloc (.cells cs 256)).alloc (.cells (List.replicate 32 (Value.int .u8 0)).toArray 22)) W → Blk W (w.heap.size + 1) 22 (List.replicate 32 (Value.int .u8 0))) := H_ fun W hk => hk.blk hb2 (fun h => h)
 have HKW : Hid (Keeps (fun _ => False) w ((w.alloc (.cells cs 256)).alloc (.cells (List.replicate 32 (Value.int .u8 0)).toArray 22))) := H_ (((Keeps.refl _ w).alloc _).alloc _)
 have HCL := H_ hcl
 have HFIN : Hid (digB T' = sumF S nb X) := H_ (by rw [hT', hPF, hPL]; rfl)
 clear hb1 hb2 hcs hcsl hPL hPF hPFL hPFB hwh hlq hT' hq' hL hX hA hbig hrr hcl hcc
 go_enter Tryz.func136, Tryz.ntmps136
 go_wp2
 have hkw := HKW.out
 refine wp_region_last (S := Keeps (fun _ => False) ((w.alloc (.cells cs 256)).alloc (.cells (List.replicate 32 (Value.int .u8 0)).toArray 22))) 5 (by kernel_rfl) ((Keeps.refl (fun _ => False) _).drew) (fun h_ => ?_)
 refine wpAnyZ_take (i := 0) (oi := ⟨some 5, _, _, _, _, _⟩) (v := _) rfl (by kernel_rfl) (by kernel_rfl) (by kernel_rfl) (by kernel_rfl) (fun _ _ _ h => h) (yieldsIf_load_mid (by rfl) _ _ rfl _ _ rfl csl _ (fun w' h => HRG.out _ h) Tryz.underlying256 rfl HIN.out) h_ ?_
 try simp only [pu]
 refine wpAnyZ_take (i := 1) (oi := ⟨some 6, _, _, _, _, _⟩) (v := _) rfl (by kernel_rfl) (by kernel_rfl) (by kernel_rfl) (by kernel_rfl) (fun _ _ _ h => h) (yieldsIf_load_mid (by rfl) _ _ rfl _ _ rfl csl _ (fun w' h => HRG.out _ h) Tryz.underlying256 rfl HIN.out) h_ ?_
 try simp only [pu]
 refine wpAnyZ_step (i := 2) (o := ⟨some 7, _, _, _, _, _⟩) (by kernel_rfl) rfl (fun K hK => ?_)
 go_simp
 refine (HLE.out _ (hkw.trans h_ (fun _ _ h => h))).mono ?_
 rintro e w2 ⟨rfl, hk2⟩
 have hq2 := h_.trans hk2 (fun _ _ h => h)
 show K _ w2
 refine hK.out _ _ hq2 (fun h_ => ?_)
 clear hK K
 try simp only [pu]
 refine wpAnyZ_step (i := 3) (o := ⟨some 8, _, _, _, _, _⟩) (by kernel_rfl) rfl (fun K hK => ?_)
 go_simp
 refine (HPA.out _).mono ?_
 rintro e w3 ⟨A3, c3, rfl, ho3, hk3, hg3⟩
 have hq3 := h_.trans hk3 (fun _ _ h => h)
 show K _ w3
 refine hK.out _ _ hq3 (fun h_ => ?_)
 clear hK K
 try simp only [pu]
 refine wpAnyZ_step (i := 4) (o := ⟨some 9, _, _, _, _, _⟩) (by kernel_rfl) rfl (fun K hK => ?_)
 go_simp
 refine (HWR.out _ _ _ (hkw.trans h_ (fun _ _ h => h)) ho3).mono ?_
 rintro e w4 ⟨A4, c4, rfl, hk4⟩
 have hq4 := h_.trans hk4 (fun _ _ h => h)
 show K _ w4
 refine hK.out _ _ hq4 (fun h_ => ?_)
 clear hK K
 try simp only [pu]
 refine wpAnyZ_last (o := ⟨none, _, _, _, _, _⟩) (by kernel_rfl) (by kernel_rfl) rfl (fun K hK => ?_)
 refine stepH_store rfl 256 _ _ rfl (hcells T' q' (.slice A4 0 c4)) rfl rfl (HB1.out _ hq4) (by rw [HCL.out, hcells_length]) (by rw [hcells_length]; kernel_rfl) (hcells_one T' q' _ _ _) ?_
 refine hK.out _ _ ?_
 clear hK K
 try simp only [pu]
 have hb4 := (HB1.out _ hq4).setRow (hcells T' q' (.slice A4 0 c4))
 have hz4 := (HB2.out _ hq4).setRow_far (show w.heap.size + 1 ≠ w.heap.size by omega) (hcells T' q' (.slice A4 0 c4)).toArray
 have hk5 := (hkw.trans hq4 (fun _ _ h => h)).setRow (.inr (Nat.le_refl _)) (hcells T' q' (.slice A4 0 c4)).toArray
 generalize w4.setRow w.heap.size (hcells T' q' (.slice A4 0 c4)).toArray = W5 at hb4 hz4 hk5 ⊢
 have R0 : Hid (RSumRel w w.heap.size (w.heap.size + 1) W5.heap.size T' q' (.slice A4 0 c4) 0 (W5.alloc (.cells (List.replicate 32 (Value.int .u8 0)).toArray 22))) := by
  refine H_ ⟨hb4.alloc _, ?_, hz4.alloc _, hk5.alloc _, by omega, ?_, ?_, ?_⟩
  ·rw [digL_zero]; exact Blk.new _ _ _
  ·have := hz4.lt; omega
  ·have := hz4.lt; omega
  ·have := hb4.lt; omega
 have hM : w.heap.size + 1 < W5.heap.size := hz4.lt
 clear hb4 hz4 hk5 hq4 hq3 hq2 hk2 hk3 hk4 ho3 hg3 hkw
 go_wp2
 go_loopw [4] (fun i wr => ∃ n : Nat, n ≤ 32 ∧ i = .int .i64 n ∧ RSumRel w w.heap.size (w.heap.size + 1) W5.heap.size T' q' (.slice A4 0 c4) n wr) (fun i _ => 32 - (intOf i).toNat)
 case atStart => exact ⟨0, by omega, rfl, R0.out⟩
 case round =>
  clear R0
  obtain ⟨n, hn, rfl, hr⟩ := hrel
  have HR := H_ hr
  clear hr
  by_cases hlt : n < 32
  ·obtain ⟨x, hx⟩ : ∃ x, x = T' (n / 4) := ⟨_, rfl⟩
   have yt : wr.cell? ⟨w.heap.size, n / 4, none⟩ = some (.int .u32 x) := by
    rw [HR.out.1.cell, hx]
    have h8 : n / 4 < 8 := by omega
    simp [hcells, wl, h8, List.getElem?_append]
   have yo : wr.cell? ⟨W5.heap.size, n, none⟩ = some (.int .u8 0) := by
    rw [HR.out.2.1.cell]; simp [digL, hlt]
   have yf := HR.out.2.1.frozen n
   have hq4 : ((n : Int) / 4).toNat = n / 4 := by omega
   have hm4 : 0 ≤ 24 - 8 * ((n : Int) % 4) := by omega
   have hd4 : (n : Int) / 4 < 8 := by omega
   have HX := H_ hx
   clear hx
   go_wp2
   go_roundw
   case rel =>
    obtain ⟨h1, h2, h3, h4, h5, h6, h7, h8⟩ := HR.out
    refine ⟨n + 1, by omega, by go_num, h1.far (by show w.heap.size ≠ W5.heap.size; omega) _, ?_, h3.far (by show w.heap.size + 1 ≠ W5.heap.size; omega) _, h4.setCell (.inr h6) _, h5, h6, h7, h8⟩
    have := h2.set_ n (.int .u8 (dg T' n))
    rw [digL_set] at this
    have e : x / 2 ^ (24 - 8 * (n % 4)) % 256 = dg T' n := by unfold dg; rw [HX.out]
    rw [← e] at this
    exact this
   case measure => simp [intOf]; omega
  ·obtain rfl : n = 32 := by omega
   have h2 := HR.out.2.1
   have h3 := HR.out.2.2.1
   go_wp2_with (first | ((with_reducible show wpList _ _ _ (⟨some _, Op.load 22 _, _, _, _, _⟩ :: _) _ _); refine wpList_load_whole rfl 22 _ rfl _ rfl h2 Tryz.underlying22 rfl (by kernel_rfl) ?_) | ((with_reducible show wpList _ _ _ (⟨none, Op.store 22 _ _, _, _, _, _⟩ :: _) _ _); refine wpList_store_whole rfl 22 _ _ rfl (digL T' 32) rfl rfl h3 (by simp [digL]) (by kernel_rfl) (by intro v hv; obtain ⟨i, _, rfl⟩ := List.mem_map.1 hv; rfl) ?_))
   refine bodyPost_ret (results_blk rfl _ _ rfl (h3.setRow (digL T' 32)) Tryz.underlying22 rfl (by kernel_rfl)) rfl ⟨?_, HR.out.2.2.2.1.setRow (.inr (by omega)) _⟩
   rw [digL_all, HFIN.out]
theorem rof_any (w : World) (B : Option Addr) (n cb : Nat) (bs : List Int) (hn : bs.length = n) (hr : Rd w B n (vb bs)) (hbs : IsBytes bs) (hbig : n < 2305843009213693952) :
  Calls Tryz.prog 66 #[.slice B n cb] w fun e w' => e = .returned (.agg (vb (sumF first 0 bs)).toArray) ∧ Keeps (fun _ => False) w w' := by
 have hz := Blk.new w 22 (List.replicate 32 (Value.int .u8 0))
 have HNW : Hid (∀ W, Calls Tryz.prog 134 #[] W fun e w' => e = .returned (rv first 0 [] (.slice none 0 0)) ∧ Keeps (fun _ => False) W w') := H_ fun W => rnew_any W
 have HWR : Hid (∀ W, Keeps (fun _ => False) w W → Calls Tryz.prog 135 #[rv first 0 [] (.slice none 0 0), .slice B n cb] W fun e w' => ∃ A c, e = .returned (rv first 0 bs (.slice A (bs.length % 64) c)) ∧ w'.ownsRow 0 5 1 (.slice A (bs.length % 64) c) (bs.length % 64) (vb (bs.drop (64 * (bs.length / 64)))) ∧ Keeps (fun _ => False) W w') := H_ fun W hk => by
  rw [← hn] at hr ⊢
  refine (rwrite_any W first 0 [] none 0 (fun x hx => by cases hx) (Rd.nil _ _) B cb bs (hr.keep hk (no_out _ _)) hbs (by simp; omega)).mono ?_
  rintro e w' ⟨v, he, ho, hk, _⟩
  rw [List.nil_append] at he ho
  obtain ⟨A, c, rfl⟩ := own_shape ho
  exact ⟨A, c, he, ho, hk⟩
 have HSU : Hid (∀ W A c, W.ownsRow 0 5 1 (.slice A (bs.length % 64) c) (bs.length % 64) (vb (bs.drop (64 * (bs.length / 64)))) → Calls Tryz.prog 136 #[rv first 0 bs (.slice A (bs.length % 64) c)] W fun e w' => e = .returned (.agg (vb (sumF first 0 bs)).toArray) ∧ Keeps (fun _ => False) W w') := H_ fun W A c ho =>
  rsum_any W first 0 bs A c hbs (Rd.of_own ho) (by omega)
 obtain ⟨R1, hR1⟩ : ∃ R1, R1 = rv first 0 [] (.slice none 0 0) := ⟨_, rfl⟩
 obtain ⟨R2, hR2⟩ : ∃ R2 : Option Addr → Nat → Value, R2 = fun A c => rv first 0 bs (.slice A (bs.length % 64) c) := ⟨_, rfl⟩
 have hR2' : ∀ A c, rv first 0 bs (.slice A (bs.length % 64) c) = R2 A c := fun A c => by rw [hR2]
 obtain ⟨D, hD⟩ : ∃ D, D = sumF first 0 bs := ⟨_, rfl⟩
 have hDl : D.length = 32 := by rw [hD, sumF_length]
 rw [← hR1] at HNW HWR
 simp only [hR2'] at HWR HSU
 rw [← hD] at HSU ⊢
 have HZ := H_ hz
 have HDL := H_ hDl
 clear hz hDl hR1 hR2 hR2' hD hn hr hbs hbig
 go_enter Tryz.func66, Tryz.ntmps66
 go_wp2_with (first
  | (go_at_call 134; refine (HNW.out _).mono ?_; rintro e w1 ⟨rfl, hk1⟩)
  | (go_at_call 135; refine (HWR.out _ (((Keeps.refl _ w).alloc _).trans hk1 (fun _ _ h => h))).mono ?_; rintro e w2 ⟨A2, c2, rfl, ho2, hk2⟩)
  | (go_at_call 136; refine (HSU.out _ _ _ ho2).mono ?_; rintro e w3 ⟨rfl, hk3⟩; have hz3 := hk3.blk (hk2.blk (hk1.blk HZ.out (fun h => h)) (fun h => h)) (fun h => h); have HZ3 := H_ hz3; clear hz3)
  | ((with_reducible show wpList _ _ _ (⟨none, Op.store 22 _ _, _, _, _, _⟩ :: _) _ _); refine wpList_store_whole rfl 22 _ _ rfl (vb D) rfl rfl HZ3.out (by simp [vb, HDL.out]) (by rw [show (vb D).length = 32 by simp [vb, HDL.out]]; kernel_rfl) (vb_one _) ?_))
 refine bodyPost_ret (results_blk rfl _ _ rfl (HZ3.out.setRow (vb D)) Tryz.underlying22 rfl (by rw [show (vb D).length = 32 by simp [vb, HDL.out]]; kernel_rfl)) rfl ⟨rfl, ?_⟩
 exact (((((Keeps.refl _ w).alloc _).trans hk1 (fun _ _ h => h)).trans hk2 (fun _ _ h => h)).trans hk3 (fun _ _ h => h)).setRow (.inr (Nat.le_refl _)) _
end Go.Proofs.YtplleficmkfniaaGreatDoor
