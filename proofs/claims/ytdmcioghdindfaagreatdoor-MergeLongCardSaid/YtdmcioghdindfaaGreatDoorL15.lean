/- Texts. -/
import Derived.Test.YtdmcioghdindfaaGreatDoorL14
set_option linter.unusedSimpArgs false
set_option maxRecDepth 100000
set_option maxHeartbeats 4000000
namespace Go.Proofs.YtdmcioghdindfaaGreatDoor
open Go Go.RowKit Go.Aff Go.Json Go.Utf
theorem head_range {w : World} {g o na : Nat} {x : MemV} {ra : List MemV} (hc : ∀ j, j < na * 7 → w.cell? ⟨g, o + j, none⟩ = (flatM (x :: ra))[j]?) (h0 : 0 < na) (h6 : x.2.length = 6) : w.rangeAt g o (memC x) := fun j v hv => by
 have hj := (List.getElem?_eq_some_iff.1 hv).1
 rw [memC_len h6] at hj
 rw [hc j (by omega), flatM_cons, List.getElem?_append_left (by rw [memC_len h6]; exact hj)]
 exact hv
theorem flatM_drop7 {x : MemV} {ra : List MemV} (h : x.2.length = 6) : (flatM (x :: ra)).drop (1 * 7) = flatM ra := by
 rw [flatM_cons]
 exact List.drop_left' (memC_len h)
theorem rordered_many (w : World) (B : Option Addr) (n d : Nat) (ks : List MemV) (hn : ks.length = n) (hd : n ≤ d) (hr : RdS 7 w B n (flatM ks)) (h6 : SixM ks) (h2 : 2 ≤ n) (hm : n ≤ 68719476736) (hs : ∀ s ∈ ks, s.1.size ≤ 1099511627776) (hri : ∀ s ∈ ks, rightS s.1 = true)
  (ih : ∀ (W : World) (B : Option Addr) (d : Nat) (ls : List MemV), ls.length < n → ls.length ≤ d → RdS 7 W B ls.length (flatM ls) → (∀ s ∈ ls, s ∈ ks) → Calls Tryz.prog 109 #[.slice B ls.length d] W (OrderedPost W ls)) :
  Calls Tryz.prog 109 #[.slice B n d] w (OrderedPost w ks) := by
 obtain ⟨k, hk⟩ : ∃ k : Nat, k = n / 2 := ⟨_, rfl⟩
 have hk1 : 1 ≤ k ∧ k < n := by omega
 have hdv : (n : Int).tdiv 2 = (k : Int) := by rw [Int.tdiv_eq_ediv_of_nonneg (by omega)]; omega
 have hwk : IntKind.i64.wrap (k : Int) = (k : Int) := by
  simp [IntKind.wrap, IntKind.bits, IntKind.signed]
  omega
 have hk0 : (0 : Int) ≤ (k : Int) := by omega
 have hkd : (k : Int) ≤ (d : Int) := by omega
 have hkn : (k : Int) ≤ (n : Int) := by omega
 have hsl1 : ∀ W, (Instr.sliceAt 208 (.slice B n d) none (some (.int .i64 (k : Int))) none).run Tryz.prog W = .ok (.slice (cutS 7 B d 0) k d) W := fun W => cutS_h Tryz.underlying208 (by kernel_rfl) B n d k _ rfl (by omega) W
 have hsl2 : ∀ W, (Instr.sliceAt 208 (.slice B n d) (some (.int .i64 (k : Int))) none none).run Tryz.prog W = .ok (.slice (cutS 7 B d k) (n - k) (d - k)) W := fun W => cutS_l Tryz.underlying208 (by kernel_rfl) B n d k _ rfl (by omega) W
 have hca : (ks.take k).length = k := by rw [List.length_take]; omega
 have hcb : (ks.drop k).length = n - k := by rw [List.length_drop]; omega
 have HC1 : Hid (∀ W, Keeps (fun _ => False) w W → Calls Tryz.prog 109 #[.slice (cutS 7 B d 0) k d] W (OrderedPost W (ks.take k))) := H_ fun W hW => by
  have hr1 : RdS 7 W (cutS 7 B d 0) k (flatM (ks.take k)) := by
   rw [← flatM_take k h6]
   exact (hr.stay hW).cutTake (by omega)
  have := ih W (cutS 7 B d 0) d (ks.take k) (by omega) (by omega) (by rw [hca]; exact hr1) fun s h => List.mem_of_mem_take h
  rwa [hca] at this
 have HC2 : Hid (∀ W, Keeps (fun _ => False) w W → Calls Tryz.prog 109 #[.slice (cutS 7 B d k) (n - k) (d - k)] W (OrderedPost W (ks.drop k))) := H_ fun W hW => by
  have hr1 : RdS 7 W (cutS 7 B d k) (n - k) (flatM (ks.drop k)) := by
   rw [← flatM_drop k h6]
   exact (hr.stay hW).cut (by omega) hd
  have := ih W (cutS 7 B d k) (d - k) (ks.drop k) (by omega) (by omega) (by rw [hcb]; exact hr1) fun s h => List.mem_of_mem_drop h
  rwa [hcb] at this
 unfold OrderedPost at HC1 HC2
 rw [hca] at HC1
 rw [hcb] at HC2
 have hlt : decide ((n : Int) < 2) = false := decide_eq_false (by omega)
 have HFA := H_ (And.intro hn (And.intro hs (And.intro hri h6)))
 have HKD := H_ hk
 clear hr ih hn hs hri hca hcb hk h6
 go_enter Tryz.func109, Tryz.ntmps109
 go_upto_region 3 with fail
 refine wp_region_held_drew (S := fun W => Keeps (fun _ => False) w W) (by kernel_rfl) ((Keeps.refl _ w).drew) (fun h_ => ?_)
 refine tI 0 10 h_ ?_
 try simp only [pu]
 refine tI 1 11 h_ ?_
 try simp only [pu]
 refine tI 2 12 h_ ?_
 try simp only [pu]
 refine tI 3 13 h_ ?_
 try simp only [pu]
 refine tI 4 14 h_ ?_
 try simp only [pu]
 refine tI 6 16 h_ ?_
 try simp only [pu]
 refine tI 7 17 h_ ?_
 try simp only [pu]
 refine tI 8 18 h_ ?_
 try simp only [pu]
 refine tI 9 19 h_ ?_
 try simp only [pu]
 refine tI 10 20 h_ ?_
 try simp only [pu]
 refine rH 5 (some 15) fun K hK => ?_
 go_simp
 refine (HC1.out _ h_).mono ?_
 rintro e vv ⟨A1, c1, ls1, rfl, hc1, hm1, hp1, hf1, hk1'⟩
 have HM1 := H_ hm1; have HP1 := H_ (And.intro hc1 (And.intro hp1 hf1)); have hqq := h_.trans hk1' (fun _ _ h => h); clear hm1 hc1 hp1 hf1 hk1'
 refine hK.out _ _ hqq (fun h_ => ?_)
 clear hK K
 try simp only [pu]
 refine rH 11 (some 21) fun K hK => ?_
 go_simp
 refine (HC2.out _ h_).mono ?_
 rintro e vv2 ⟨A2, c2, ls2, rfl, hc2, hm2, hp2, hf2, hk2'⟩
 have HM2 := H_ (And.intro hm2 hk2'); have HP2 := H_ (And.intro hc2 (And.intro hp2 hf2)); have hqq2 := h_.trans hk2' (fun _ _ h => h); clear hm2 hc2 hp2 hf2 hk2'
 refine hK.out _ _ hqq2 (fun h_ => ?_)
 clear hK K
 try simp only [pu]
 refine tI 12 3 h_ ?_
 try simp only [pu]
 refine tI 13 4 h_ ?_
 try simp only [pu]
 refine wpAnyH_done (by kernel_rfl) ?_ _
 have HK2 := H_ h_
 clear h_ HC1 HC2 hsl1 hsl2 hdv hwk hk0 hkd hkn hlt
 go_wp2
 have HALL : Hid ((ls1 ++ ls2).Perm ks) := H_ (by
  have := HP1.out.2.1.append HP2.out.2.1
  rwa [List.take_append_drop] at this)
 have HRI : Hid (∀ s ∈ ls1 ++ ls2, (rightS s.1 = true ∧ s.1.size ≤ 1099511627776) ∧ s.2.length = 6 ∧ ∀ u ∈ s.2, u.oneCell' = true) := H_ fun s h => ⟨⟨HFA.out.2.2.1 s (HALL.out.mem_iff.1 h), HFA.out.2.1 s (HALL.out.mem_iff.1 h)⟩, HFA.out.2.2.2 s (HALL.out.mem_iff.1 h)⟩
 have HR1 : Hid (RdS 7 vv2 A1 k (flatM ls1)) := H_ (HM1.out.stay HM2.out.2)
 have HR2 : Hid (RdS 7 vv2 A2 (n - k) (flatM ls2)) := H_ HM2.out.1
 have HL : Hid (ls1.length = k ∧ ls2.length = n - k) := H_ ⟨by have := HP1.out.2.1.length_eq; rw [List.length_take, HFA.out.1] at this; omega, by have := HP2.out.2.1.length_eq; rw [List.length_drop, HFA.out.1] at this; omega⟩
 have HCC : Hid (k ≤ c1 ∧ n - k ≤ c2) := H_ ⟨HP1.out.1, HP2.out.1⟩
 have HMX : Hid (MixM (ls1 ++ ls2) [] ls1 ls2) := H_ (MixM.start HP1.out.2.2 HP2.out.2.2)
 clear HM1 HM2 HP1 HP2 h_ hqq hqq2
 go_loopg [3, 4, 5] n (fun gk ta tb tc wx => ∃ (na nb m : Nat) (A : Option Addr) (ca : Nat) (B : Option Addr) (cb : Nat) (O : Option Addr) (co : Nat) (ra rb done : List MemV), na + nb ≤ n ∧ m ≤ n ∧ ta = .slice A na ca ∧ tb = .slice B nb cb ∧ tc = .slice O m co ∧ gk = na + nb ∧
  Hid (MixM (ls1 ++ ls2) done ra rb) ∧ Hid (ra.length = na ∧ rb.length = nb ∧ done.length = m ∧ na ≤ ca ∧ nb ≤ cb ∧ m + na + nb = n) ∧ Hid (RdS 7 vv2 A na (flatM ra) ∧ RdS 7 vv2 B nb (flatM rb)) ∧ Hid (MineS 7 vv2 wx 210 O m co (flatM done)))
 case atStart => exact ⟨k, n - k, 0, A1, c1, A2, c2, none, 0, ls1, ls2, [], by omega, by omega, rfl, by first | rfl | (simp; omega), rfl, by omega, HMX, H_ ⟨HL.out.1, HL.out.2, rfl, HCC.out.1, HCC.out.2, by omega⟩, H_ ⟨HR1.out, HR2.out⟩, H_ (MineS.nil 7 vv2 _)⟩
 case round =>
  obtain ⟨na, nb, m, A, ca, B9, cb, O, co, ra, rb, done, hab, hmn, rfl, rfl, rfl, hgk, HX, HLL, HRR, HO⟩ := hrel
  have HGK := H_ hgk
  clear hgk
  have HDN : Hid (∀ W, Keeps (fun _ => False) vv2 W → (0 < na → ∃ g o x ra', A = some ⟨g, o, none⟩ ∧ ra = x :: ra' ∧ W.rangeAt g o (memC x)) ∧ (0 < nb → ∃ g o y rb', B9 = some ⟨g, o, none⟩ ∧ rb = y :: rb' ∧ W.rangeAt g o (memC y))) := H_ fun W hW => by
   refine ⟨fun h0 => ?_, fun h0 => ?_⟩
   ·obtain ⟨g, o, e, hc⟩ := (HRR.out.1.stay hW).2 h0
    match ra, HLL.out.1, hc, HX.out with
    | x :: ra', _, hc, hx => exact ⟨g, o, x, ra', e, rfl, head_range hc (by omega) (HRI.out x (hx.perm.mem_iff.1 (by simp))).2.1⟩
    | [], hl, _, _ => simp at hl; omega
   obtain ⟨g, o, e, hc⟩ := (HRR.out.2.stay hW).2 h0
   match rb, HLL.out.2.1, hc, HX.out with
   | y :: rb', _, hc, hx => exact ⟨g, o, y, rb', e, rfl, head_range hc (by omega) (HRI.out y (hx.perm.mem_iff.1 (by simp))).2.1⟩
   | [], hl, _, _ => simp at hl; omega
  have hmm0 : 0 < na + nb → m + 1 ≤ n := fun h => by have := HLL.out; omega
  have HMM := H_ hmm0
  clear hmm0
  by_cases ha0 : na = 0
  ·by_cases hb0 : nb = 0
   ·have d1 : decide ((0 : Int) < (na : Int)) = false := decide_eq_false (by omega)
    have d2 : decide ((0 : Int) < (nb : Int)) = false := decide_eq_false (by omega)
    have hra : ra = [] := List.length_eq_zero_iff.1 (by rw [HLL.out.1]; exact ha0)
    have hrb : rb = [] := List.length_eq_zero_iff.1 (by rw [HLL.out.2.1]; exact hb0)
    have HF : Hid (done.Perm ks ∧ NotM done ∧ m = n) := H_ (by
     have h1 := HX.out.perm
     rw [hra, hrb, List.append_nil, List.append_nil] at h1
     exact ⟨h1.trans HALL.out, HX.out.d, by have := HLL.out.2.2.2.2.2; omega⟩)
    clear hra hrb
    go_wp2
    go_ret
    refine ⟨O, co, done, ?_, ?_, ?_, HF.out.1, HF.out.2.1, HK2.out.trans HO.out.2.1 (fun _ _ h => h)⟩
    ·rw [HFA.out.1, ← HF.out.2.2]; rfl
    ·have := MineS.cap HO.out
     have h3 := HF.out.2.2
     rw [HFA.out.1]; omega
    rw [HFA.out.1, ← HF.out.2.2]
    exact MineS.rdS HO.out
   have d1 : decide ((0 : Int) < (na : Int)) = false := decide_eq_false (by omega)
   have d2 : decide ((0 : Int) < (nb : Int)) = true := decide_eq_true (by omega)
   have d3 : ((nb : Int) == 0) = false := by simp; omega
   obtain ⟨g2, o2, y, rb', hB, hrb, cy⟩ := (HDN.out wr HO.out.2.1).2 (by omega)
   subst hB
   have HRB := H_ hrb
   have hslB : ∀ W, (Instr.sliceAt 208 (.slice (some ⟨g2, o2, none⟩) nb cb) (some (.int .i64 1)) none none).run Tryz.prog W = .ok (.slice (cutS 7 (some ⟨g2, o2, none⟩) cb 1) (nb - 1) (cb - 1)) W := fun W => cutS_l Tryz.underlying208 (by kernel_rfl) _ nb cb 1 1 rfl (by omega) W
   have HX6y := H_ (HRI.out y (HX.out.perm.mem_iff.1 (by rw [HRB.out]; simp))).2
   have HCY0 := H_ cy
   clear hrb cy
   have HNX : Hid (MixM (ls1 ++ ls2) (done ++ [y]) ra rb') := H_ (by
    have h1 := HX.out
    rw [HRB.out] at h1
    refine h1.right (fun s h => (HRI.out s h).1.1) fun z hz => ?_
    have hra : ra = [] := List.length_eq_zero_iff.1 (by rw [HLL.out.1]; exact ha0)
    rw [hra] at hz
    cases hz)
   have hmm := HMM.out (by omega)
   have hpb : 0 < nb := by omega
   have HA0 := H_ ha0
   clear ha0 hb0
   go_upto_region 6 with fail
   refine wp_region_held_drew (S := Keeps (fun _ => False) wr) (by kernel_rfl) (Keeps.refl (fun _ => False) _).drew (fun h_ => ?_)
   refine tI 0 30 h_ ?_
   try simp only [pu]
   refine tI 1 31 h_ ?_
   try simp only [pu]
   refine tI 2 32 h_ ?_
   try simp only [pu]
   refine tI 3 33 h_ ?_
   try simp only [pu]
   refine tI 4 34 h_ ?_
   try simp only [pu]
   refine tI 5 35 h_ ?_
   try simp only [pu]
   refine tI 6 36 h_ ?_
   try simp only [pu]
   refine tI 7 37 h_ ?_
   try simp only [pu]
   refine tH (i := 8) (oi := ⟨some 38, _, _, _, _, _⟩) (v := undef) rfl (Or.inr ⟨by rfl, rfl⟩) h_ ?_
   try simp only [pu]
   refine tH (i := 9) (oi := ⟨some 39, _, _, _, _, _⟩) (v := undef) rfl (Or.inr ⟨by rfl, rfl⟩) h_ ?_
   try simp only [pu]
   refine tH (i := 10) (oi := ⟨some 40, _, _, _, _, _⟩) (v := undef) rfl (Or.inr ⟨by rfl, rfl⟩) h_ ?_
   try simp only [pu]
   refine tH (i := 11) (oi := ⟨some 41, _, _, _, _, _⟩) (v := undef) rfl (Or.inr ⟨by rfl, rfl⟩) h_ ?_
   try simp only [pu]
   refine tH (i := 12) (oi := ⟨some 42, _, _, _, _, _⟩) (v := undef) rfl (Or.inr ⟨by rfl, rfl⟩) h_ ?_
   try simp only [pu]
   refine tH (i := 13) (oi := ⟨some 43, _, _, _, _, _⟩) (v := undef) rfl (Or.inr ⟨by rfl, rfl⟩) h_ ?_
   try simp only [pu]
   refine tH (i := 14) (oi := ⟨some 44, _, _, _, _, _⟩) (v := undef) rfl (Or.inr ⟨by rfl, rfl⟩) h_ ?_
   try simp only [pu]
   refine tH (i := 15) (oi := ⟨some 45, _, _, _, _, _⟩) (v := undef) rfl (Or.inr ⟨by rfl, rfl⟩) h_ ?_
   try simp only [pu]
   refine tH (i := 16) (oi := ⟨some 46, _, _, _, _, _⟩) (v := undef) rfl (Or.inr ⟨by rfl, rfl⟩) h_ ?_
   try simp only [pu]
   refine tH (i := 17) (oi := ⟨some 47, _, _, _, _, _⟩) (v := undef) rfl (Or.inr ⟨by rfl, rfl⟩) h_ ?_
   try simp only [pu]
   refine tI 18 48 h_ ?_
   try simp only [pu]
   refine tI 19 49 h_ ?_
   try simp only [pu]
   refine wpAnyH_done (by kernel_rfl) ?_ _
   have HO3 := H_ (MineS.keep HO.out h_)
   have HCX : Hid (∀ j v, (memC y)[j]? = some v → wr.drew.cell? ⟨g2, o2 + j, none⟩ = some v) := H_ fun j v h => cell_keep h_ (HCY0.out j v h)
   clear h_
   obtain ⟨SX, hSX⟩ : ∃ SX, SX = memC y := ⟨_, rfl⟩
   rw [← hSX] at HCX
   have HSX := H_ hSX
   have HSL : Hid (SX.length = 7) := H_ (by rw [hSX]; exact memC_len HX6y.out.1)
   have HSI : Hid ((Tryz.prog.info? 210).map (·.size) = some SX.length) := H_ (by rw [HSL.out]; kernel_rfl)
   clear hSX
   go_wp2_with (first
    | ((with_reducible show wpList _ _ _ (⟨some 61, _, _, _, _, _⟩ :: _) _ _); refine wpList_load_mid rfl 210 _ rfl _ _ rfl SX _ HCX.out Tryz.underlying210 rfl HSI.out ?_)
    | ((with_reducible show wpList _ _ _ (⟨some 62, _, _, _, _, _⟩ :: _) _ _); refine wpList_box_S _ rfl 208 210 (.tmp 61) rfl (.agg #[.string .empty, .int .i64 0, .bool false, .int .u64 0, .string .empty, .slice none 0 0, .slice none 0 0]) 7 Tryz.underlying208 (by kernel_rfl) (by decide) (by decide) SX HSL.out rfl ?_)
    | (at_builtin; refine wpList_append_mine vv2 _ rfl (.tmp 58) (.tmp 62) 208 rfl 210 (.agg #[.string .empty, .int .i64 0, .bool false, .int .u64 0, .string .empty, .slice none 0 0, .slice none 0 0]) 7 104 Tryz.underlying208 (by kernel_rfl) rfl (by decide) rfl (HO3.out.alloc _) _ 1 1 SX rfl (RdS.blk (Blk.new _ 210 SX) (by rw [HSL.out])) (by rw [HSX.out]; exact memC_one HX6y.out.2) (by unfold maxLen; omega) (by omega) ?_; intro A4 c4 w4 ht4; have HT4 := H_ ht4; clear ht4))
   go_roundg (na + (nb - 1))
   case measure => rw [HGK.out]; omega
   case rel =>
    refine ⟨na, nb - 1, m + 1, A, ca, cutS 7 (some ⟨g2, o2, none⟩) cb 1, cb - 1, A4, c4, ra, rb', done ++ [y], by omega, hmm, by first | rfl | rw [HA0.out], rfl, rfl, rfl, HNX, ?_, ?_, ?_⟩
    ·have := HLL.out
     rw [HRB.out, List.length_cons] at this
     exact H_ ⟨by omega, by omega, by rw [List.length_append]; simp; omega, by omega, by omega, by omega⟩
    ·have := (HRR.out.2).cut (l := 1) (c := cb) (by omega) (by have := HLL.out; omega)
     rw [HRB.out, flatM_drop7 HX6y.out.1] at this
     exact H_ ⟨HRR.out.1, this⟩
    rw [flatM_app, show flatM [y] = memC y by simp [flatM], ← HSX.out]
    exact HT4
  obtain ⟨g1, o1, x, ra', hA, hra, cx⟩ := (HDN.out wr HO.out.2.1).1 (by omega)
  subst hA
  have HRA := H_ hra
  have d1 : decide ((0 : Int) < (na : Int)) = true := decide_eq_true (by omega)
  have hslA : ∀ W, (Instr.sliceAt 208 (.slice (some ⟨g1, o1, none⟩) na ca) (some (.int .i64 1)) none none).run Tryz.prog W = .ok (.slice (cutS 7 (some ⟨g1, o1, none⟩) ca 1) (na - 1) (ca - 1)) W := fun W => cutS_l Tryz.underlying208 (by kernel_rfl) _ na ca 1 1 rfl (by omega) W
  have HX6x := H_ (HRI.out x (HX.out.perm.mem_iff.1 (by rw [HRA.out]; simp))).2
  have HCX0 := H_ cx
  clear hra cx
  by_cases hb0 : nb = 0
  ·have d2 : ((nb : Int) == 0) = true := by simp; omega
   have HNX : Hid (MixM (ls1 ++ ls2) (done ++ [x]) ra' rb) := H_ (by
    have h1 := HX.out
    rw [HRA.out] at h1
    refine h1.left (fun s h => (HRI.out s h).1.1) fun y hy => ?_
    have hrb : rb = [] := List.length_eq_zero_iff.1 (by rw [HLL.out.2.1]; exact hb0)
    rw [hrb] at hy
    cases hy)
   have hmm := HMM.out (by omega)
   have hpa : 0 < na := by omega
   have HB0 := H_ hb0
   clear ha0 hb0
   go_upto_region 6 with fail
   refine wp_region_held_drew (S := Keeps (fun _ => False) wr) (by kernel_rfl) (Keeps.refl (fun _ => False) _).drew (fun h_ => ?_)
   refine tI 0 30 h_ ?_
   try simp only [pu]
   refine tI 1 31 h_ ?_
   try simp only [pu]
   refine tI 2 32 h_ ?_
   try simp only [pu]
   refine tI 3 33 h_ ?_
   try simp only [pu]
   refine tH (i := 4) (oi := ⟨some 34, _, _, _, _, _⟩) (v := undef) rfl (Or.inr ⟨by rfl, rfl⟩) h_ ?_
   try simp only [pu]
   refine tH (i := 5) (oi := ⟨some 35, _, _, _, _, _⟩) (v := undef) rfl (Or.inr ⟨by rfl, rfl⟩) h_ ?_
   try simp only [pu]
   refine tH (i := 6) (oi := ⟨some 36, _, _, _, _, _⟩) (v := undef) rfl (Or.inr ⟨by rfl, rfl⟩) h_ ?_
   try simp only [pu]
   refine tH (i := 7) (oi := ⟨some 37, _, _, _, _, _⟩) (v := undef) rfl (Or.inr ⟨by rfl, rfl⟩) h_ ?_
   try simp only [pu]
   refine tH (i := 8) (oi := ⟨some 38, _, _, _, _, _⟩) (v := undef) rfl (Or.inr ⟨by rfl, rfl⟩) h_ ?_
   try simp only [pu]
   refine tH (i := 9) (oi := ⟨some 39, _, _, _, _, _⟩) (v := undef) rfl (Or.inr ⟨by rfl, rfl⟩) h_ ?_
   try simp only [pu]
   refine tH (i := 10) (oi := ⟨some 40, _, _, _, _, _⟩) (v := undef) rfl (Or.inr ⟨by rfl, rfl⟩) h_ ?_
   try simp only [pu]
   refine tH (i := 11) (oi := ⟨some 41, _, _, _, _, _⟩) (v := undef) rfl (Or.inr ⟨by rfl, rfl⟩) h_ ?_
   try simp only [pu]
   refine tH (i := 12) (oi := ⟨some 42, _, _, _, _, _⟩) (v := undef) rfl (Or.inr ⟨by rfl, rfl⟩) h_ ?_
   try simp only [pu]
   refine tH (i := 13) (oi := ⟨some 43, _, _, _, _, _⟩) (v := undef) rfl (Or.inr ⟨by rfl, rfl⟩) h_ ?_
   try simp only [pu]
   refine tH (i := 14) (oi := ⟨some 44, _, _, _, _, _⟩) (v := undef) rfl (Or.inr ⟨by rfl, rfl⟩) h_ ?_
   try simp only [pu]
   refine tH (i := 15) (oi := ⟨some 45, _, _, _, _, _⟩) (v := undef) rfl (Or.inr ⟨by rfl, rfl⟩) h_ ?_
   try simp only [pu]
   refine tH (i := 16) (oi := ⟨some 46, _, _, _, _, _⟩) (v := undef) rfl (Or.inr ⟨by rfl, rfl⟩) h_ ?_
   try simp only [pu]
   refine tH (i := 17) (oi := ⟨some 47, _, _, _, _, _⟩) (v := undef) rfl (Or.inr ⟨by rfl, rfl⟩) h_ ?_
   try simp only [pu]
   refine tH (i := 18) (oi := ⟨some 48, _, _, _, _, _⟩) (v := undef) rfl (Or.inr ⟨by rfl, rfl⟩) h_ ?_
   try simp only [pu]
   refine tI 19 49 h_ ?_
   try simp only [pu]
   refine wpAnyH_done (by kernel_rfl) ?_ _
   have HO3 := H_ (MineS.keep HO.out h_)
   have HCX : Hid (∀ j v, (memC x)[j]? = some v → wr.drew.cell? ⟨g1, o1 + j, none⟩ = some v) := H_ fun j v h => cell_keep h_ (HCX0.out j v h)
   clear h_
   obtain ⟨SX, hSX⟩ : ∃ SX, SX = memC x := ⟨_, rfl⟩
   rw [← hSX] at HCX
   have HSX := H_ hSX
   have HSL : Hid (SX.length = 7) := H_ (by rw [hSX]; exact memC_len HX6x.out.1)
   have HSI : Hid ((Tryz.prog.info? 210).map (·.size) = some SX.length) := H_ (by rw [HSL.out]; kernel_rfl)
   clear hSX
   go_wp2_with (first
    | ((with_reducible show wpList _ _ _ (⟨some 53, _, _, _, _, _⟩ :: _) _ _); refine wpList_load_mid rfl 210 _ rfl _ _ rfl SX _ HCX.out Tryz.underlying210 rfl HSI.out ?_)
    | ((with_reducible show wpList _ _ _ (⟨some 54, _, _, _, _, _⟩ :: _) _ _); refine wpList_box_S _ rfl 208 210 (.tmp 53) rfl (.agg #[.string .empty, .int .i64 0, .bool false, .int .u64 0, .string .empty, .slice none 0 0, .slice none 0 0]) 7 Tryz.underlying208 (by kernel_rfl) (by decide) (by decide) SX HSL.out rfl ?_)
    | (at_builtin; refine wpList_append_mine vv2 _ rfl (.tmp 50) (.tmp 54) 208 rfl 210 (.agg #[.string .empty, .int .i64 0, .bool false, .int .u64 0, .string .empty, .slice none 0 0, .slice none 0 0]) 7 104 Tryz.underlying208 (by kernel_rfl) rfl (by decide) rfl (HO3.out.alloc _) _ 1 1 SX rfl (RdS.blk (Blk.new _ 210 SX) (by rw [HSL.out])) (by rw [HSX.out]; exact memC_one HX6x.out.2) (by unfold maxLen; omega) (by omega) ?_; intro A4 c4 w4 ht4; have HT4 := H_ ht4; clear ht4))
   go_roundg (na - 1 + nb)
   case measure => rw [HGK.out]; omega
   case rel =>
    refine ⟨na - 1, nb, m + 1, cutS 7 (some ⟨g1, o1, none⟩) ca 1, ca - 1, B9, cb, A4, c4, ra', rb, done ++ [x], by omega, hmm, rfl, by first | rfl | rw [HB0.out], rfl, rfl, HNX, ?_, ?_, ?_⟩
    ·have := HLL.out
     rw [HRA.out, List.length_cons] at this
     exact H_ ⟨by omega, by omega, by rw [List.length_append]; simp; omega, by omega, by omega, by omega⟩
    ·have := (HRR.out.1).cut (l := 1) (c := ca) (by omega) (by have := HLL.out; omega)
     rw [HRA.out, flatM_drop7 HX6x.out.1] at this
     exact H_ ⟨this, HRR.out.2⟩
    rw [flatM_app, show flatM [x] = memC x by simp [flatM], ← HSX.out]
    exact HT4
  have d2 : ((nb : Int) == 0) = false := by simp; omega
  obtain ⟨g2, o2, y, rb', hB, hrb, cy⟩ := (HDN.out wr HO.out.2.1).2 (by omega)
  subst hB
  have HRB := H_ hrb
  have hslB : ∀ W, (Instr.sliceAt 208 (.slice (some ⟨g2, o2, none⟩) nb cb) (some (.int .i64 1)) none none).run Tryz.prog W = .ok (.slice (cutS 7 (some ⟨g2, o2, none⟩) cb 1) (nb - 1) (cb - 1)) W := fun W => cutS_l Tryz.underlying208 (by kernel_rfl) _ nb cb 1 1 rfl (by omega) W
  have HX6y := H_ (HRI.out y (HX.out.perm.mem_iff.1 (by rw [HRB.out]; simp))).2
  have HCY0 := H_ cy
  clear hrb cy
  have hmm := HMM.out (by omega)
  have hpa : 0 < na := by omega
  have hpb : 0 < nb := by omega
  have d1n : decide (0 < na) = true := decide_eq_true hpa
  clear ha0 hb0
  have hxm : x ∈ ls1 ++ ls2 := HX.out.perm.mem_iff.1 (by rw [HRA.out]; simp)
  have hym : y ∈ ls1 ++ ls2 := HX.out.perm.mem_iff.1 (by rw [HRB.out]; simp)
  have HCMP : Hid (∀ W, Calls Tryz.prog 136 #[.string x.1, .string y.1] W fun e w' => e = .returned (.int .i64 (cmpS x.1 y.1)) ∧ Keeps (fun _ => False) W w') := H_ fun W => rcompare_any W x.1 y.1 (HRI.out x hxm).1.1 (HRI.out y hym).1.1 (HRI.out x hxm).1.2 (HRI.out y hym).1.2
  clear hxm hym
  obtain ⟨q, hq⟩ : ∃ q, q = cmpS x.1 y.1 := ⟨_, rfl⟩
  rw [← hq] at HCMP
  have HTA : Hid (TwoAt wr wr ⟨g1, o1, none⟩ ⟨g2, o2, none⟩ (.string x.1) (.string y.1)) := H_ ⟨Keeps.refl _ _, by have := HCX0.out 0 _ rfl; simpa using this, by have := HCY0.out 0 _ rfl; simpa using this⟩
  by_cases hle : q ≤ 0
  ·have dq : decide (q ≤ 0) = true := decide_eq_true hle
   have HNX : Hid (MixM (ls1 ++ ls2) (done ++ [x]) ra' rb) := H_ (by
    have h1 := HX.out
    rw [HRA.out] at h1
    refine h1.left (fun s h => (HRI.out s h).1.1) fun z hz => ?_
    rw [HRB.out] at hz
    injection hz with hz
    rw [← hz]
    exact cmpS_le (by rw [← hq]; exact hle))
   clear hq
   go_upto_region 6 with fail
   refine wp_region_held_drew (S := fun W => TwoAt wr W ⟨g1, o1, none⟩ ⟨g2, o2, none⟩ (.string x.1) (.string y.1)) (by kernel_rfl) (HTA.out.stay (Keeps.refl _ _).drew) (fun h_ => ?_)
   refine tI 0 30 h_ ?_
   try simp only [pu]
   refine tI 1 31 h_ ?_
   try simp only [pu]
   refine tI 2 32 h_ ?_
   try simp only [pu]
   refine tI 3 33 h_ ?_
   try simp only [pu]
   refine tI 4 34 h_ ?_
   try simp only [pu]
   refine tI 5 35 h_ ?_
   try simp only [pu]
   refine tI 6 36 h_ ?_
   try simp only [pu]
   refine tI 7 37 h_ ?_
   try simp only [pu]
   refine tI 8 38 h_ ?_
   try simp only [pu]
   refine tI 9 39 h_ ?_
   try simp only [pu]
   refine tI 10 40 h_ ?_
   try simp only [pu]
   refine tI 11 41 h_ ?_ (hy := .inl ⟨by rfl, by intro w' hSw; have cv := hSw.c1; go_simp; first | done | rfl⟩)
   try simp only [pu]
   refine tI 12 42 h_ ?_
   try simp only [pu]
   refine tI 13 43 h_ ?_
   try simp only [pu]
   refine tI 14 44 h_ ?_
   try simp only [pu]
   refine tI 15 45 h_ ?_ (hy := .inl ⟨by rfl, by intro w' hSw; have cv := hSw.c2; go_simp; first | done | rfl⟩)
   try simp only [pu]
   refine rH 16 (some 46) fun K hK => ?_
   go_simp
   refine (HCMP.out _).mono ?_
   rintro e vv3 ⟨rfl, hkk⟩
   have hqq := h_.stay hkk
   refine hK.out _ _ hqq (fun h_ => ?_)
   clear hK K
   try simp only [pu]
   refine tI 17 47 h_ ?_
   try simp only [pu]
   refine tI 18 48 h_ ?_
   try simp only [pu]
   refine tI 19 49 h_ ?_
   try simp only [pu]
   refine wpAnyH_done (by kernel_rfl) ?_ _
   have HO3 := H_ (MineS.keep HO.out h_.keep)
   have HCX : Hid (∀ j v, (memC x)[j]? = some v → vv3.cell? ⟨g1, o1 + j, none⟩ = some v) := H_ fun j v h => cell_keep h_.keep (HCX0.out j v h)
   clear h_
   obtain ⟨SX, hSX⟩ : ∃ SX, SX = memC x := ⟨_, rfl⟩
   rw [← hSX] at HCX
   have HSX := H_ hSX
   have HSL : Hid (SX.length = 7) := H_ (by rw [hSX]; exact memC_len HX6x.out.1)
   have HSI : Hid ((Tryz.prog.info? 210).map (·.size) = some SX.length) := H_ (by rw [HSL.out]; kernel_rfl)
   clear hSX
   go_wp2_with (first
    | ((with_reducible show wpList _ _ _ (⟨some 53, _, _, _, _, _⟩ :: _) _ _); refine wpList_load_mid rfl 210 _ rfl _ _ rfl SX _ HCX.out Tryz.underlying210 rfl HSI.out ?_)
    | ((with_reducible show wpList _ _ _ (⟨some 54, _, _, _, _, _⟩ :: _) _ _); refine wpList_box_S _ rfl 208 210 (.tmp 53) rfl (.agg #[.string .empty, .int .i64 0, .bool false, .int .u64 0, .string .empty, .slice none 0 0, .slice none 0 0]) 7 Tryz.underlying208 (by kernel_rfl) (by decide) (by decide) SX HSL.out rfl ?_)
    | (at_builtin; refine wpList_append_mine vv2 _ rfl (.tmp 50) (.tmp 54) 208 rfl 210 (.agg #[.string .empty, .int .i64 0, .bool false, .int .u64 0, .string .empty, .slice none 0 0, .slice none 0 0]) 7 104 Tryz.underlying208 (by kernel_rfl) rfl (by decide) rfl (HO3.out.alloc _) _ 1 1 SX rfl (RdS.blk (Blk.new _ 210 SX) (by rw [HSL.out])) (by rw [HSX.out]; exact memC_one HX6x.out.2) (by unfold maxLen; omega) (by omega) ?_; intro A4 c4 w4 ht4; have HT4 := H_ ht4; clear ht4))
   go_roundg (na - 1 + nb)
   case measure => rw [HGK.out]; omega
   case rel =>
    refine ⟨na - 1, nb, m + 1, cutS 7 (some ⟨g1, o1, none⟩) ca 1, ca - 1, some ⟨g2, o2, none⟩, cb, A4, c4, ra', rb, done ++ [x], by omega, hmm, rfl, by first | rfl | rw [HB0.out], rfl, rfl, HNX, ?_, ?_, ?_⟩
    ·have := HLL.out
     rw [HRA.out, List.length_cons] at this
     exact H_ ⟨by omega, by omega, by rw [List.length_append]; simp; omega, by omega, by omega, by omega⟩
    ·have := (HRR.out.1).cut (l := 1) (c := ca) (by omega) (by have := HLL.out; omega)
     rw [HRA.out, flatM_drop7 HX6x.out.1] at this
     exact H_ ⟨this, HRR.out.2⟩
    rw [flatM_app, show flatM [x] = memC x by simp [flatM], ← HSX.out]
    exact HT4
  have dq : decide (q ≤ 0) = false := decide_eq_false hle
  have HNX : Hid (MixM (ls1 ++ ls2) (done ++ [y]) ra rb') := H_ (by
   have h1 := HX.out
   rw [HRB.out] at h1
   refine h1.right (fun s h => (HRI.out s h).1.1) fun z hz => ?_
   rw [HRA.out] at hz
   injection hz with hz
   rw [← hz]
   intro h4
   exact ltS_irrefl _ (ltS_trans h4 (cmpS_gt (by rw [← hq]; exact hle))))
  clear hq
  go_upto_region 6 with fail
  refine wp_region_held_drew (S := fun W => TwoAt wr W ⟨g1, o1, none⟩ ⟨g2, o2, none⟩ (.string x.1) (.string y.1)) (by kernel_rfl) (HTA.out.stay (Keeps.refl _ _).drew) (fun h_ => ?_)
  refine tI 0 30 h_ ?_
  try simp only [pu]
  refine tI 1 31 h_ ?_
  try simp only [pu]
  refine tI 2 32 h_ ?_
  try simp only [pu]
  refine tI 3 33 h_ ?_
  try simp only [pu]
  refine tI 4 34 h_ ?_
  try simp only [pu]
  refine tI 5 35 h_ ?_
  try simp only [pu]
  refine tI 6 36 h_ ?_
  try simp only [pu]
  refine tI 7 37 h_ ?_
  try simp only [pu]
  refine tI 8 38 h_ ?_
  try simp only [pu]
  refine tI 9 39 h_ ?_
  try simp only [pu]
  refine tI 10 40 h_ ?_
  try simp only [pu]
  refine tI 11 41 h_ ?_ (hy := .inl ⟨by rfl, by intro w' hSw; have cv := hSw.c1; go_simp; first | done | rfl⟩)
  try simp only [pu]
  refine tI 12 42 h_ ?_
  try simp only [pu]
  refine tI 13 43 h_ ?_
  try simp only [pu]
  refine tI 14 44 h_ ?_
  try simp only [pu]
  refine tI 15 45 h_ ?_ (hy := .inl ⟨by rfl, by intro w' hSw; have cv := hSw.c2; go_simp; first | done | rfl⟩)
  try simp only [pu]
  refine rH 16 (some 46) fun K hK => ?_
  go_simp
  refine (HCMP.out _).mono ?_
  rintro e vv3 ⟨rfl, hkk⟩
  have hqq := h_.stay hkk
  refine hK.out _ _ hqq (fun h_ => ?_)
  clear hK K
  try simp only [pu]
  refine tI 17 47 h_ ?_
  try simp only [pu]
  refine tI 18 48 h_ ?_
  try simp only [pu]
  refine tI 19 49 h_ ?_
  try simp only [pu]
  refine wpAnyH_done (by kernel_rfl) ?_ _
  have HO3 := H_ (MineS.keep HO.out h_.keep)
  have HCX : Hid (∀ j v, (memC y)[j]? = some v → vv3.cell? ⟨g2, o2 + j, none⟩ = some v) := H_ fun j v h => cell_keep h_.keep (HCY0.out j v h)
  clear h_
  obtain ⟨SX, hSX⟩ : ∃ SX, SX = memC y := ⟨_, rfl⟩
  rw [← hSX] at HCX
  have HSX := H_ hSX
  have HSL : Hid (SX.length = 7) := H_ (by rw [hSX]; exact memC_len HX6y.out.1)
  have HSI : Hid ((Tryz.prog.info? 210).map (·.size) = some SX.length) := H_ (by rw [HSL.out]; kernel_rfl)
  clear hSX
  go_wp2_with (first
   | ((with_reducible show wpList _ _ _ (⟨some 61, _, _, _, _, _⟩ :: _) _ _); refine wpList_load_mid rfl 210 _ rfl _ _ rfl SX _ HCX.out Tryz.underlying210 rfl HSI.out ?_)
   | ((with_reducible show wpList _ _ _ (⟨some 62, _, _, _, _, _⟩ :: _) _ _); refine wpList_box_S _ rfl 208 210 (.tmp 61) rfl (.agg #[.string .empty, .int .i64 0, .bool false, .int .u64 0, .string .empty, .slice none 0 0, .slice none 0 0]) 7 Tryz.underlying208 (by kernel_rfl) (by decide) (by decide) SX HSL.out rfl ?_)
   | (at_builtin; refine wpList_append_mine vv2 _ rfl (.tmp 58) (.tmp 62) 208 rfl 210 (.agg #[.string .empty, .int .i64 0, .bool false, .int .u64 0, .string .empty, .slice none 0 0, .slice none 0 0]) 7 104 Tryz.underlying208 (by kernel_rfl) rfl (by decide) rfl (HO3.out.alloc _) _ 1 1 SX rfl (RdS.blk (Blk.new _ 210 SX) (by rw [HSL.out])) (by rw [HSX.out]; exact memC_one HX6y.out.2) (by unfold maxLen; omega) (by omega) ?_; intro A4 c4 w4 ht4; have HT4 := H_ ht4; clear ht4))
  go_roundg (na + (nb - 1))
  case measure => rw [HGK.out]; omega
  case rel =>
   refine ⟨na, nb - 1, m + 1, some ⟨g1, o1, none⟩, ca, cutS 7 (some ⟨g2, o2, none⟩) cb 1, cb - 1, A4, c4, ra, rb', done ++ [y], by omega, hmm, by first | rfl | rw [HA0.out], rfl, rfl, rfl, HNX, ?_, ?_, ?_⟩
   ·have := HLL.out
    rw [HRB.out, List.length_cons] at this
    exact H_ ⟨by omega, by omega, by rw [List.length_append]; simp; omega, by omega, by omega, by omega⟩
   ·have := (HRR.out.2).cut (l := 1) (c := cb) (by omega) (by have := HLL.out; omega)
    rw [HRB.out, flatM_drop7 HX6y.out.1] at this
    exact H_ ⟨HRR.out.1, this⟩
   rw [flatM_app, show flatM [y] = memC y by simp [flatM], ← HSX.out]
   exact HT4
theorem rordered_any : ∀ (n : Nat) (w : World) (B : Option Addr) (d : Nat) (ks : List MemV), ks.length = n → n ≤ d → RdS 7 w B n (flatM ks) → SixM ks → n ≤ 68719476736 → (∀ s ∈ ks, s.1.size ≤ 1099511627776) → (∀ s ∈ ks, rightS s.1 = true) →
  Calls Tryz.prog 109 #[.slice B n d] w (OrderedPost w ks) := by
 intro n
 induction n using Nat.strongRecOn with
 | ind n ih =>
  intro w B d ks hn hd hr h6 hm hs hri
  rcases Nat.lt_or_ge n 2 with h2 | h2
  ·exact rordered_few w B n d ks hn hd hr h2
  ·exact rordered_many w B n d ks hn hd hr h6 h2 hm hs hri fun W B' d' ls hl hld hrl hsub =>
    ih ls.length hl W B' d' ls rfl hld hrl (h6.of_mem hsub) (by omega) (fun s h => hs s (hsub s h)) (fun s h => hri s (hsub s h))
end Go.Proofs.YtdmcioghdindfaaGreatDoor
