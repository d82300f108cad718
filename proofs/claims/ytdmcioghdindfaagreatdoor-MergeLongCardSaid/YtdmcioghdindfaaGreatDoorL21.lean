/- Texts. -/
import Derived.Test.YtdmcioghdindfaaGreatDoorL20
set_option linter.unusedSimpArgs false
set_option maxRecDepth 100000
set_option maxHeartbeats 4000000
namespace Go.Proofs.YtdmcioghdindfaaGreatDoor
open Go Go.RowKit Go.Aff Go.Json
theorem doF_past {P : List JV} {s : StepV} (hu : usedF s = true) (h3 : s.sort = 3 → finiteF s.bits = true) (ht : rightS s.text = true) (hk : s.keys.all rightS = true) :
  doF P s = if ¬ s.keys.Nodup then .inl 101 else if P.length < s.count.toNat + s.keys.length then .inl 102
   else if ¬ (mkV s (P.drop (P.length - (s.count.toNat + s.keys.length)))).within then .inl 3
   else .inr (P.take (P.length - (s.count.toNat + s.keys.length)) ++ [mkV s (P.drop (P.length - (s.count.toNat + s.keys.length)))]) := by
 unfold doF
 rw [if_neg (by rw [hu]; decide), if_neg (fun e => by rw [h3 e.1] at e; exact absurd e.2 (by decide)), if_neg (fun e => by rw [ht, hk] at e; rcases e with e | e <;> cases e)]
theorem rdo_twice (w0 w : World) (A : Option Addr) (m c : Nat) (css : List (List Value)) (P : List JV) (h : RowR w0 w A m c css P) (hm : m ≤ 1048576) (hP : RowOk P) (s : StepV) (hf : StepFits s) (B : Option Addr) (d : Nat) (hk : Rd w B s.keys.length (s.keys.map .string)) (hd : s.keys.length ≤ d) (hu : usedF s = true) (h3 : s.sort = 3 → finiteF s.bits = true) (ht : rightS s.text = true) (hkk : s.keys.all rightS = true) (hn : ¬ s.keys.Nodup) :
  Calls Tryz.prog 54 #[.slice A m c, .agg (stepV s B d).toArray] w (DoRPost w0 w A m c P s) := by
 have HU := H_ hu
 have HT := H_ ht
 have HK := H_ hkk
 have HD : Hid (doF P s = .inl 101) := H_ (by rw [doF_past hu h3 ht hkk, if_pos hn])
 have HN : Hid (decide (¬ s.keys.Nodup) = true) := H_ (decide_eq_true hn)
 by_cases a3 : s.sort = 3
 ·have e3 : (s.sort == 3) = true := by rw [a3]; rfl
  have HF := H_ (h3 a3)
  clear hu h3 a3 ht hkk hn
  have HSF := H_ hf
  have HB0 := H_ (Boxed.made w 65 (stepV s B d))
  obtain ⟨SV, hSV⟩ : ∃ SV, SV = stepV s B d := ⟨_, rfl⟩
  rw [← hSV] at HB0 ⊢
  have HSV := H_ hSV
  have HSI : Hid ((Tryz.prog.info? 65).map (·.size) = some SV.length) := H_ (by rw [hSV, stepV_len]; kernel_rfl)
  have HUS : Hid (∀ W, Calls Tryz.prog 91 #[.agg SV.toArray] W fun e w' => e = .returned (.bool (usedF s)) ∧ Keeps (fun _ => False) W w') := H_ fun W => by rw [hSV]; exact rused_any W s B d
  have HFI : Hid (∀ W, Calls Tryz.prog 92 #[.int .u64 s.bits] W fun e w' => e = .returned (.bool (finiteF s.bits)) ∧ w' = W) := H_ fun W => rfinite_any W s.bits hf.bits
  have HRT : Hid (∀ W, Calls Tryz.prog 93 #[.string s.text] W fun e w' => e = .returned (.bool (rightS s.text)) ∧ w' = W) := H_ fun W => rright_any W s.text hf.text
  have HRK : Hid (∀ W, Keeps (fun _ => False) w W → Calls Tryz.prog 94 #[.slice B s.keys.length d] W fun e w' => e = .returned (.bool (s.keys.all rightS)) ∧ w' = W) := H_ fun W hW =>
   rkeys_any W B _ d s.keys rfl (hk.keep hW (fun _ _ _ h => h)) (fun k hk => by have := size_le hk; have := hf.keys; omega) (by have := hf.many; omega)
  have HTW : Hid (s.keys.all rightS = true → ∀ W, Keeps (fun _ => False) w W → Calls Tryz.prog 95 #[.slice B s.keys.length d] W fun e w' => e = .returned (.bool (decide (¬ s.keys.Nodup))) ∧ Keeps (fun _ => False) W w') := H_ fun hr W hW =>
   rtwice_any W B _ d s.keys rfl hd (hk.keep hW (fun _ _ _ h => h)) (by have := hf.many; omega) (fun k hk => by have := size_le hk; have := hf.keys; omega) (fun k hk => List.all_eq_true.1 hr k hk)
  have HNK := H_ hf.many
  have HH := H_ h
  have HPO := H_ hP
  have HKR := H_ hk
  have HHD := H_ hd
  clear h hP hf hk hd hSV
  have HMM := H_ hm
  go_enter Tryz.func54, Tryz.ntmps54
  go_wp2_with (first
   | ((with_reducible show wpList _ _ _ (⟨some 9, _, _, _, _, _⟩ :: _) _ _); refine wpList_load_whole rfl 65 _ rfl _ rfl HB0.out.blk Tryz.underlying65 rfl HSI.out ?_)
   | (go_at_call 91; refine (HUS.out _).mono ?_; rintro e w2 ⟨rfl, hk2⟩; rw [HU.out]; have HB2 := H_ (HB0.out.stay hk2); obtain ⟨s0, s1, s2, s3, s4, s5⟩ := HB2.out.step HSV.out; clear hk2)
   | (go_at_call 92; refine (HFI.out _).mono ?_; rintro e w3 ⟨rfl, hw3⟩; subst w3; rw [HF.out])
   | (go_at_call 93; refine (HRT.out _).mono ?_; rintro e w3 ⟨rfl, hw3⟩; subst w3; rw [HT.out])
   | (go_at_call 94; refine (HRK.out _ HB2.out.keep).mono ?_; rintro e w3 ⟨rfl, hw3⟩; subst w3; rw [HK.out])
   | (go_at_call 95; refine (HTW.out HK.out _ HB2.out.keep).mono ?_; rintro e w4 ⟨rfl, hk4⟩; rw [HN.out]; have HB4 := H_ (HB2.out.stay hk4); obtain ⟨t0, t1, t2, t3, t4, t5⟩ := HB4.out.step HSV.out; clear hk4)
   )
  go_ret2
  unfold DoRPost
  rw [HD.out]
  exact ⟨rfl, HB4.out.keep⟩
 have e3 : (s.sort == 3) = false := beq_eq_false_iff_ne.2 a3
 clear hu h3 a3 ht hkk hn
 have HSF := H_ hf
 have HB0 := H_ (Boxed.made w 65 (stepV s B d))
 obtain ⟨SV, hSV⟩ : ∃ SV, SV = stepV s B d := ⟨_, rfl⟩
 rw [← hSV] at HB0 ⊢
 have HSV := H_ hSV
 have HSI : Hid ((Tryz.prog.info? 65).map (·.size) = some SV.length) := H_ (by rw [hSV, stepV_len]; kernel_rfl)
 have HUS : Hid (∀ W, Calls Tryz.prog 91 #[.agg SV.toArray] W fun e w' => e = .returned (.bool (usedF s)) ∧ Keeps (fun _ => False) W w') := H_ fun W => by rw [hSV]; exact rused_any W s B d
 have HFI : Hid (∀ W, Calls Tryz.prog 92 #[.int .u64 s.bits] W fun e w' => e = .returned (.bool (finiteF s.bits)) ∧ w' = W) := H_ fun W => rfinite_any W s.bits hf.bits
 have HRT : Hid (∀ W, Calls Tryz.prog 93 #[.string s.text] W fun e w' => e = .returned (.bool (rightS s.text)) ∧ w' = W) := H_ fun W => rright_any W s.text hf.text
 have HRK : Hid (∀ W, Keeps (fun _ => False) w W → Calls Tryz.prog 94 #[.slice B s.keys.length d] W fun e w' => e = .returned (.bool (s.keys.all rightS)) ∧ w' = W) := H_ fun W hW =>
  rkeys_any W B _ d s.keys rfl (hk.keep hW (fun _ _ _ h => h)) (fun k hk => by have := size_le hk; have := hf.keys; omega) (by have := hf.many; omega)
 have HTW : Hid (s.keys.all rightS = true → ∀ W, Keeps (fun _ => False) w W → Calls Tryz.prog 95 #[.slice B s.keys.length d] W fun e w' => e = .returned (.bool (decide (¬ s.keys.Nodup))) ∧ Keeps (fun _ => False) W w') := H_ fun hr W hW =>
  rtwice_any W B _ d s.keys rfl hd (hk.keep hW (fun _ _ _ h => h)) (by have := hf.many; omega) (fun k hk => by have := size_le hk; have := hf.keys; omega) (fun k hk => List.all_eq_true.1 hr k hk)
 have HNK := H_ hf.many
 have HH := H_ h
 have HPO := H_ hP
 have HKR := H_ hk
 have HHD := H_ hd
 clear h hP hf hk hd hSV
 have HMM := H_ hm
 go_enter Tryz.func54, Tryz.ntmps54
 go_wp2_with (first
  | ((with_reducible show wpList _ _ _ (⟨some 9, _, _, _, _, _⟩ :: _) _ _); refine wpList_load_whole rfl 65 _ rfl _ rfl HB0.out.blk Tryz.underlying65 rfl HSI.out ?_)
  | (go_at_call 91; refine (HUS.out _).mono ?_; rintro e w2 ⟨rfl, hk2⟩; rw [HU.out]; have HB2 := H_ (HB0.out.stay hk2); obtain ⟨s0, s1, s2, s3, s4, s5⟩ := HB2.out.step HSV.out; clear hk2)
  | (go_at_call 92; refine (HFI.out _).mono ?_; rintro e w3 ⟨rfl, hw3⟩; subst w3; rw [HF.out])
  | (go_at_call 93; refine (HRT.out _).mono ?_; rintro e w3 ⟨rfl, hw3⟩; subst w3; rw [HT.out])
  | (go_at_call 94; refine (HRK.out _ HB2.out.keep).mono ?_; rintro e w3 ⟨rfl, hw3⟩; subst w3; rw [HK.out])
  | (go_at_call 95; refine (HTW.out HK.out _ HB2.out.keep).mono ?_; rintro e w4 ⟨rfl, hk4⟩; rw [HN.out]; have HB4 := H_ (HB2.out.stay hk4); obtain ⟨t0, t1, t2, t3, t4, t5⟩ := HB4.out.step HSV.out; clear hk4)
  )
 go_ret2
 unfold DoRPost
 rw [HD.out]
 exact ⟨rfl, HB4.out.keep⟩
theorem rdo_few (w0 w : World) (A : Option Addr) (m c : Nat) (css : List (List Value)) (P : List JV) (h : RowR w0 w A m c css P) (hm : m ≤ 1048576) (hP : RowOk P) (s : StepV) (hf : StepFits s) (B : Option Addr) (d : Nat) (hk : Rd w B s.keys.length (s.keys.map .string)) (hd : s.keys.length ≤ d) (hu : usedF s = true) (h3 : s.sort = 3 → finiteF s.bits = true) (ht : rightS s.text = true) (hkk : s.keys.all rightS = true) (hn : s.keys.Nodup) (hcn : s.count ≤ 9223372036854775807) (hfew : m < s.count.toNat + s.keys.length) :
  Calls Tryz.prog 54 #[.slice A m c, .agg (stepV s B d).toArray] w (DoRPost w0 w A m c P s) := by
 have HU := H_ hu
 have HT := H_ ht
 have HK := H_ hkk
 have HD : Hid (doF P s = .inl 102) := H_ (by rw [doF_past hu h3 ht hkk, if_neg (by simpa using hn), if_pos (by rw [h.len]; exact hfew)])
 have HN : Hid (decide (¬ s.keys.Nodup) = false) := H_ (decide_eq_false (by simpa using hn))
 obtain ⟨N, hN⟩ : ∃ N : Int, N = s.count + (s.keys.length : Int) := ⟨_, rfl⟩
 have hwr : IntKind.i64.wrap (s.count + (s.keys.length : Int)) = N := by
  obtain ⟨_, u2, u3, _, _, u0⟩ := used_parts hu
  rw [hN]
  refine IntWalk.i64_in _ ?_
  have := hf.many
  by_cases a5 : s.sort = 5
  ·rw [u3 (by omega)]
   simp
   omega
  rw [u2 a5]
  omega
 have hgt : decide ((m : Int) < N) = true := by
  obtain ⟨_, _, _, _, _, u0⟩ := used_parts hu
  exact decide_eq_true (by omega)
 clear hfew hN hcn
 by_cases a3 : s.sort = 3
 ·have e3 : (s.sort == 3) = true := by rw [a3]; rfl
  have HF := H_ (h3 a3)
  clear hu h3 a3 ht hkk hn
  have HSF := H_ hf
  have HB0 := H_ (Boxed.made w 65 (stepV s B d))
  obtain ⟨SV, hSV⟩ : ∃ SV, SV = stepV s B d := ⟨_, rfl⟩
  rw [← hSV] at HB0 ⊢
  have HSV := H_ hSV
  have HSI : Hid ((Tryz.prog.info? 65).map (·.size) = some SV.length) := H_ (by rw [hSV, stepV_len]; kernel_rfl)
  have HUS : Hid (∀ W, Calls Tryz.prog 91 #[.agg SV.toArray] W fun e w' => e = .returned (.bool (usedF s)) ∧ Keeps (fun _ => False) W w') := H_ fun W => by rw [hSV]; exact rused_any W s B d
  have HFI : Hid (∀ W, Calls Tryz.prog 92 #[.int .u64 s.bits] W fun e w' => e = .returned (.bool (finiteF s.bits)) ∧ w' = W) := H_ fun W => rfinite_any W s.bits hf.bits
  have HRT : Hid (∀ W, Calls Tryz.prog 93 #[.string s.text] W fun e w' => e = .returned (.bool (rightS s.text)) ∧ w' = W) := H_ fun W => rright_any W s.text hf.text
  have HRK : Hid (∀ W, Keeps (fun _ => False) w W → Calls Tryz.prog 94 #[.slice B s.keys.length d] W fun e w' => e = .returned (.bool (s.keys.all rightS)) ∧ w' = W) := H_ fun W hW =>
   rkeys_any W B _ d s.keys rfl (hk.keep hW (fun _ _ _ h => h)) (fun k hk => by have := size_le hk; have := hf.keys; omega) (by have := hf.many; omega)
  have HTW : Hid (s.keys.all rightS = true → ∀ W, Keeps (fun _ => False) w W → Calls Tryz.prog 95 #[.slice B s.keys.length d] W fun e w' => e = .returned (.bool (decide (¬ s.keys.Nodup))) ∧ Keeps (fun _ => False) W w') := H_ fun hr W hW =>
   rtwice_any W B _ d s.keys rfl hd (hk.keep hW (fun _ _ _ h => h)) (by have := hf.many; omega) (fun k hk => by have := size_le hk; have := hf.keys; omega) (fun k hk => List.all_eq_true.1 hr k hk)
  have HNK := H_ hf.many
  have HH := H_ h
  have HPO := H_ hP
  have HKR := H_ hk
  have HHD := H_ hd
  clear h hP hf hk hd hSV
  have HMM := H_ hm
  go_enter Tryz.func54, Tryz.ntmps54
  go_wp2_with (first
   | ((with_reducible show wpList _ _ _ (⟨some 9, _, _, _, _, _⟩ :: _) _ _); refine wpList_load_whole rfl 65 _ rfl _ rfl HB0.out.blk Tryz.underlying65 rfl HSI.out ?_)
   | (go_at_call 91; refine (HUS.out _).mono ?_; rintro e w2 ⟨rfl, hk2⟩; rw [HU.out]; have HB2 := H_ (HB0.out.stay hk2); obtain ⟨s0, s1, s2, s3, s4, s5⟩ := HB2.out.step HSV.out; clear hk2)
   | (go_at_call 92; refine (HFI.out _).mono ?_; rintro e w3 ⟨rfl, hw3⟩; subst w3; rw [HF.out])
   | (go_at_call 93; refine (HRT.out _).mono ?_; rintro e w3 ⟨rfl, hw3⟩; subst w3; rw [HT.out])
   | (go_at_call 94; refine (HRK.out _ HB2.out.keep).mono ?_; rintro e w3 ⟨rfl, hw3⟩; subst w3; rw [HK.out])
   | (go_at_call 95; refine (HTW.out HK.out _ HB2.out.keep).mono ?_; rintro e w4 ⟨rfl, hk4⟩; rw [HN.out]; have HB4 := H_ (HB2.out.stay hk4); obtain ⟨t0, t1, t2, t3, t4, t5⟩ := HB4.out.step HSV.out; clear hk4)
   )
  go_ret2
  unfold DoRPost
  rw [HD.out]
  exact ⟨rfl, HB4.out.keep⟩
 have e3 : (s.sort == 3) = false := beq_eq_false_iff_ne.2 a3
 clear hu h3 a3 ht hkk hn
 have HSF := H_ hf
 have HB0 := H_ (Boxed.made w 65 (stepV s B d))
 obtain ⟨SV, hSV⟩ : ∃ SV, SV = stepV s B d := ⟨_, rfl⟩
 rw [← hSV] at HB0 ⊢
 have HSV := H_ hSV
 have HSI : Hid ((Tryz.prog.info? 65).map (·.size) = some SV.length) := H_ (by rw [hSV, stepV_len]; kernel_rfl)
 have HUS : Hid (∀ W, Calls Tryz.prog 91 #[.agg SV.toArray] W fun e w' => e = .returned (.bool (usedF s)) ∧ Keeps (fun _ => False) W w') := H_ fun W => by rw [hSV]; exact rused_any W s B d
 have HFI : Hid (∀ W, Calls Tryz.prog 92 #[.int .u64 s.bits] W fun e w' => e = .returned (.bool (finiteF s.bits)) ∧ w' = W) := H_ fun W => rfinite_any W s.bits hf.bits
 have HRT : Hid (∀ W, Calls Tryz.prog 93 #[.string s.text] W fun e w' => e = .returned (.bool (rightS s.text)) ∧ w' = W) := H_ fun W => rright_any W s.text hf.text
 have HRK : Hid (∀ W, Keeps (fun _ => False) w W → Calls Tryz.prog 94 #[.slice B s.keys.length d] W fun e w' => e = .returned (.bool (s.keys.all rightS)) ∧ w' = W) := H_ fun W hW =>
  rkeys_any W B _ d s.keys rfl (hk.keep hW (fun _ _ _ h => h)) (fun k hk => by have := size_le hk; have := hf.keys; omega) (by have := hf.many; omega)
 have HTW : Hid (s.keys.all rightS = true → ∀ W, Keeps (fun _ => False) w W → Calls Tryz.prog 95 #[.slice B s.keys.length d] W fun e w' => e = .returned (.bool (decide (¬ s.keys.Nodup))) ∧ Keeps (fun _ => False) W w') := H_ fun hr W hW =>
  rtwice_any W B _ d s.keys rfl hd (hk.keep hW (fun _ _ _ h => h)) (by have := hf.many; omega) (fun k hk => by have := size_le hk; have := hf.keys; omega) (fun k hk => List.all_eq_true.1 hr k hk)
 have HNK := H_ hf.many
 have HH := H_ h
 have HPO := H_ hP
 have HKR := H_ hk
 have HHD := H_ hd
 clear h hP hf hk hd hSV
 have HMM := H_ hm
 go_enter Tryz.func54, Tryz.ntmps54
 go_wp2_with (first
  | ((with_reducible show wpList _ _ _ (⟨some 9, _, _, _, _, _⟩ :: _) _ _); refine wpList_load_whole rfl 65 _ rfl _ rfl HB0.out.blk Tryz.underlying65 rfl HSI.out ?_)
  | (go_at_call 91; refine (HUS.out _).mono ?_; rintro e w2 ⟨rfl, hk2⟩; rw [HU.out]; have HB2 := H_ (HB0.out.stay hk2); obtain ⟨s0, s1, s2, s3, s4, s5⟩ := HB2.out.step HSV.out; clear hk2)
  | (go_at_call 92; refine (HFI.out _).mono ?_; rintro e w3 ⟨rfl, hw3⟩; subst w3; rw [HF.out])
  | (go_at_call 93; refine (HRT.out _).mono ?_; rintro e w3 ⟨rfl, hw3⟩; subst w3; rw [HT.out])
  | (go_at_call 94; refine (HRK.out _ HB2.out.keep).mono ?_; rintro e w3 ⟨rfl, hw3⟩; subst w3; rw [HK.out])
  | (go_at_call 95; refine (HTW.out HK.out _ HB2.out.keep).mono ?_; rintro e w4 ⟨rfl, hk4⟩; rw [HN.out]; have HB4 := H_ (HB2.out.stay hk4); obtain ⟨t0, t1, t2, t3, t4, t5⟩ := HB4.out.step HSV.out; clear hk4)
  )
 go_ret2
 unfold DoRPost
 rw [HD.out]
 exact ⟨rfl, HB4.out.keep⟩
structure DoM (w W : World) (b p : Nat) (SV VV : List Value) : Prop where
 box : Boxed w W b 65 SV
 blk : Blk W p 31 VV
 lo : w.heap.size ≤ b
 lt : b < p
section
variable {w W W' : World} {b p : Nat} {SV VV : List Value}
theorem DoM.stay (h : DoM w W b p SV VV) (hk : Keeps (fun _ => False) W W') : DoM w W' b p SV VV := ⟨h.box.stay hk, hk.blk h.blk (fun h => h), h.lo, h.lt⟩
theorem DoM.set (h : DoM w W b p SV VV) (i : Nat) (v : Value) : DoM w (W.setCell ⟨p, i, none⟩ v) b p SV (VV.set i v) := by
 have hk : Keeps (fun j => j = p) W (W.setCell ⟨p, i, none⟩ v) := (Keeps.refl (fun j => j = p) W).setCell (p := ⟨p, i, none⟩) (.inl rfl) v
 have := h.lo
 have := h.lt
 exact ⟨⟨h.box.keep.trans hk (fun j hj e => by omega), hk.blk h.box.blk (by omega)⟩, h.blk.set_ i v, h.lo, h.lt⟩
theorem DoM.six (h : DoM w W b p SV VV) {z0 z1 z2 z3 z4 z5 : Value} (hz : VV = [z0, z1, z2, z3, z4, z5]) (v0 v1 v2 v3 v4 v5 : Value) : DoM w (sixSet W p v0 v1 v2 v3 v4 v5) b p SV [v0, v1, v2, v3, v4, v5] := by
 subst hz
 exact (((((h.set 0 v0).set 1 v1).set 2 v2).set 3 v3).set 4 v4).set 5 v5
theorem DoM.made (w : World) {w4 : World} (h : Boxed w w4 b 65 SV) (hlo : w.heap.size ≤ b) (VV : List Value) : DoM w (w4.alloc (.cells VV.toArray 31)) b w4.heap.size SV VV :=
 ⟨h.stay ((Keeps.refl _ w4).alloc _), Blk.new w4 _ VV, hlo, h.blk.lt⟩
end
theorem text_empty {t : ByteArray} (h : t.size = 0) : t = .empty := ByteArray.ext (Array.eq_empty_of_size_eq_zero h)
theorem flag_used {s : StepV} (hu : usedF s = true) (h : s.sort ≠ 2) : s.flag = false := by
 unfold usedF at hu
 simp only [Bool.and_eq_true, Bool.or_eq_true, decide_eq_true_eq] at hu
 obtain ⟨⟨⟨⟨⟨⟨⟨_, _⟩, _⟩, h4⟩, _⟩, _⟩, _⟩, _⟩ := hu
 rcases h4 with h4 | h4
 ·simpa using h4
 exact absurd h4 h
theorem leaf_cells {s : StepV} (hu : usedF s = true) (L : List JV) (hs : s.sort = 1 ∨ s.sort = 2 ∨ s.sort = 4) : refC (mkV s L) none 0 none 0 = [.int .i64 s.sort, .bool s.flag, .int .u64 0, .string s.text, .slice none 0 0, .slice none 0 0] := by
 obtain ⟨u1, _, _, _, _, _⟩ := used_parts hu
 rcases hs with hs | hs | hs
 ·rw [flag_used hu (by omega), text_empty (u1 (by omega)), hs]
  simp [mkV, hs, refC, JV.sort, JV.last, JV.items, JV.keys, step0]
 ·rw [text_empty (u1 (by omega)), hs]
  simp [mkV, hs, refC, JV.sort, JV.last, JV.items, JV.keys, step0]
 rw [flag_used hu (by omega), hs]
 simp [mkV, hs, refC, JV.sort, JV.last, JV.items, JV.keys, step0]
theorem leaf_mk {s : StepV} (L : List JV) (hs : s.sort = 1 ∨ s.sort = 2 ∨ s.sort = 3 ∨ s.sort = 4) : (mkV s L).items = [] ∧ (mkV s L).keys = [] := by
 rcases hs with hs | hs | hs | hs <;> simp [mkV, hs, JV.items, JV.keys]
theorem cutS_zero (s : Nat) (A : Option Addr) (c : Nat) : cutS s A c 0 = A := by
 unfold cutS
 split
 ·rfl
 cases A with
 | none => rfl
 | some a => cases a; simp [Addr.add]
theorem blk_range {w : World} {p : Nat} {T : TypeId} {cs : List Value} (h : Blk w p T cs) : w.rangeAt p 0 cs := fun j v hv => by
 rw [Nat.zero_add, h.cell]
 exact hv
theorem infoVal : (Tryz.prog.info? 31).map (fun i => (i.zero, i.size, i.bytes)) = some (some (.agg #[.int .i64 0, .bool false, .int .u64 0, .string .empty, .slice none 0 0, .slice none 0 0]), 6, 88) := by kernel_rfl
theorem infoVal2 : (Tryz.prog.info? 31).map (fun i => (i.zero, i.size)) = some (some (.agg #[.int .i64 0, .bool false, .int .u64 0, .string .empty, .slice none 0 0, .slice none 0 0]), 6) := by kernel_rfl
theorem rdo_leaf (w0 w : World) (A : Option Addr) (m c : Nat) (css : List (List Value)) (P : List JV) (h : RowR w0 w A m c css P) (hm : m ≤ 1048576) (hP : RowOk P) (s : StepV) (hf : StepFits s) (B : Option Addr) (d : Nat) (hk : Rd w B s.keys.length (s.keys.map .string)) (hd : s.keys.length ≤ d) (hu : usedF s = true) (h3 : s.sort = 3 → finiteF s.bits = true) (ht : rightS s.text = true) (hkk : s.keys.all rightS = true) (hn : s.keys.Nodup) (n : Nat) (hcn : s.count.toNat + s.keys.length = n) (hnm : n ≤ m) (hks : s.sort = 1 ∨ s.sort = 2 ∨ s.sort = 4) :
  Calls Tryz.prog 54 #[.slice A m c, .agg (stepV s B d).toArray] w (DoRPost w0 w A m c P s) := by
 have e3 : (s.sort == 3) = false := beq_eq_false_iff_ne.2 (by omega)
 have e5 : (s.sort == 5) = false := beq_eq_false_iff_ne.2 (by omega)
 have e6 : (s.sort == 6) = false := beq_eq_false_iff_ne.2 (by omega)
 have HKS := H_ hks
 clear hks
 have HU := H_ hu
 have HT := H_ ht
 have HK := H_ hkk
 have HN : Hid (decide (¬ s.keys.Nodup) = false) := H_ (decide_eq_false (by simpa using hn))
 have hwr : IntKind.i64.wrap (s.count + (s.keys.length : Int)) = (n : Int) := by
  obtain ⟨_, _, _, _, _, u0⟩ := used_parts hu
  rw [IntWalk.i64_in _ (by omega)]
  omega
 have hgt : decide ((m : Int) < (n : Int)) = false := decide_eq_false (by omega)
 obtain ⟨l, hl⟩ : ∃ l, l = m - n := ⟨_, rfl⟩
 obtain ⟨L, hL⟩ : ∃ L, L = P.drop l := ⟨_, rfl⟩
 obtain ⟨j, hj⟩ : ∃ j, j = mkV s L := ⟨_, rfl⟩
 have hLn : L.length = n := by rw [hL, List.length_drop, h.len]; omega
 have HDF : Hid (doF P s = if ¬ j.within then .inl 3 else .inr (P.take l ++ [j])) := H_ (by
  rw [doF_past hu h3 ht hkk, if_neg (by simpa using hn), if_neg (by rw [h.len, hcn]; omega), h.len, hcn, ← hl, ← hL, ← hj])
 have HSJ : Hid (SmallJ j ∧ JOk j) := H_ (by
  obtain ⟨_, u2, _, _, _, _⟩ := used_parts hu
  have hq : s.sort = 6 → L.length = s.keys.length := fun e => by rw [hLn, ← hcn, u2 (by omega)]; simp
  have hLP : ∀ x ∈ L, x ∈ P := fun x hx => by rw [hL] at hx; exact List.mem_of_mem_drop hx
  rw [hj]
  exact ⟨small_mkV hf (fun x hx => (hP x (hLP x hx)).2) (by omega) hq hu, mkV_ok hu ht (fun k hk => List.all_eq_true.1 hkk k hk) hn hq (fun x hx => (hP x (hLP x hx)).1)⟩)
 have HPL : Hid ((P.take l ++ [j]).length = l + 1) := H_ (by rw [List.length_append, List.length_take, h.len]; simp; omega)
 have HLL : Hid (L = P.drop l ∧ j = mkV s L ∧ L.length = n ∧ l ≤ m ∧ m - l = n) := H_ ⟨hL, hj, hLn, by omega, by omega⟩
 have hsl : ∀ W, (Instr.sliceAt 28 (.slice A m c) (some (.int .i64 ((m : Int) - (n : Int)))) none none).run Tryz.prog W = .ok (.slice (cutS 6 A c l) n (c - l)) W := fun W => by
  have := cutS_l Tryz.underlying28 (by kernel_rfl : (Tryz.prog.info? 31).map (·.size) = some 6) A m c l ((m : Int) - (n : Int)) (by omega) (by omega) W
  rwa [show m - l = n by omega] at this
 have HS2 : Hid (∀ W, (Instr.sliceAt 28 (.slice A m c) none (some (.int .i64 (l : Int))) none).run Tryz.prog W = .ok (.slice A l c) W) := H_ fun W => by
  have hcap := MineS.cap h.own
  have := cutS_h Tryz.underlying28 (by kernel_rfl : (Tryz.prog.info? 31).map (·.size) = some 6) A m c l (l : Int) rfl (by omega) W
  rwa [cutS_zero] at this
 have HWL : Hid (IntKind.i64.wrap ((m : Int) - (n : Int)) = (l : Int)) := H_ (by rw [IntWalk.i64_in _ (by omega)]; omega)
 have HTK : Hid (∀ W, Keeps (fun _ => False) w W → RdS 6 W (cutS 6 A c l) n (css.flatten.drop (l * 6))) := H_ fun W hW => by
  have hcap := MineS.cap h.own
  have := ((MineS.rdS h.own).stay hW).cut (l := l) (c := c) (by omega) hcap
  rwa [show m - l = n by omega] at this
 have HTC : Hid (∀ u ∈ css.flatten.drop (l * 6), u.oneCell' = true) := H_ fun u hu => h.lst.cells u (List.mem_of_mem_drop hu)
 have HUU := H_ (And.intro hu (And.intro h3 (And.intro hkk hn)))
 have hnmI : (n : Int) ≤ (m : Int) := by omega
 clear hu h3 ht hkk hn hcn hl hL hj hLn
 have HSF := H_ hf
 have HB0 := H_ (Boxed.made w 65 (stepV s B d))
 obtain ⟨SV, hSV⟩ : ∃ SV, SV = stepV s B d := ⟨_, rfl⟩
 rw [← hSV] at HB0 ⊢
 have HSV := H_ hSV
 have HSI : Hid ((Tryz.prog.info? 65).map (·.size) = some SV.length) := H_ (by rw [hSV, stepV_len]; kernel_rfl)
 have HUS : Hid (∀ W, Calls Tryz.prog 91 #[.agg SV.toArray] W fun e w' => e = .returned (.bool (usedF s)) ∧ Keeps (fun _ => False) W w') := H_ fun W => by rw [hSV]; exact rused_any W s B d
 have HFI : Hid (∀ W, Calls Tryz.prog 92 #[.int .u64 s.bits] W fun e w' => e = .returned (.bool (finiteF s.bits)) ∧ w' = W) := H_ fun W => rfinite_any W s.bits hf.bits
 have HRT : Hid (∀ W, Calls Tryz.prog 93 #[.string s.text] W fun e w' => e = .returned (.bool (rightS s.text)) ∧ w' = W) := H_ fun W => rright_any W s.text hf.text
 have HRK : Hid (∀ W, Keeps (fun _ => False) w W → Calls Tryz.prog 94 #[.slice B s.keys.length d] W fun e w' => e = .returned (.bool (s.keys.all rightS)) ∧ w' = W) := H_ fun W hW =>
  rkeys_any W B _ d s.keys rfl (hk.keep hW (fun _ _ _ h => h)) (fun k hk => by have := size_le hk; have := hf.keys; omega) (by have := hf.many; omega)
 have HTW : Hid (s.keys.all rightS = true → ∀ W, Keeps (fun _ => False) w W → Calls Tryz.prog 95 #[.slice B s.keys.length d] W fun e w' => e = .returned (.bool (decide (¬ s.keys.Nodup))) ∧ Keeps (fun _ => False) W w') := H_ fun hr W hW =>
  rtwice_any W B _ d s.keys rfl hd (hk.keep hW (fun _ _ _ h => h)) (by have := hf.many; omega) (fun k hk => by have := size_le hk; have := hf.keys; omega) (fun k hk => List.all_eq_true.1 hr k hk)
 have HNK := H_ hf.many
 have HH := H_ h
 have HPO := H_ hP
 have HKR := H_ hk
 have HHD := H_ hd
 clear h hP hf hk hd hSV
 have HMM := H_ hm
 go_enter Tryz.func54, Tryz.ntmps54
 go_upto_region 13 with (first
  | (go_at_call 95; refine (HTW.out HK.out _ HB2.out.keep).mono ?_; rintro e w4 ⟨rfl, hk4⟩; rw [HN.out]; have HB4 := H_ (HB2.out.stay hk4); obtain ⟨t0, t1, t2, t3, t4, t5⟩ := HB4.out.step HSV.out; have hbz := Blk.new w4 31 [.int .i64 0, .bool false, .int .u64 0, .string .empty, .slice none 0 0, .slice none 0 0]; have f0 := hbz.frozen 0; have f1 := hbz.frozen 1; have f2 := hbz.frozen 2; have f3 := hbz.frozen 3; have f4 := hbz.frozen 4; have f5 := hbz.frozen 5; clear hk4 hbz)
  | ((with_reducible show wpList _ _ _ (⟨some 9, _, _, _, _, _⟩ :: _) _ _); refine wpList_load_whole rfl 65 _ rfl _ rfl HB0.out.blk Tryz.underlying65 rfl HSI.out ?_)
  | (go_at_call 91; refine (HUS.out _).mono ?_; rintro e w2 ⟨rfl, hk2⟩; rw [HU.out]; have HB2 := H_ (HB0.out.stay hk2); obtain ⟨s0, s1, s2, s3, s4, s5⟩ := HB2.out.step HSV.out; clear hk2)
  | (go_at_call 92; refine (HFI.out _).mono ?_; rintro e w3 ⟨rfl, hw3⟩; subst w3; rw [HF.out])
  | (go_at_call 93; refine (HRT.out _).mono ?_; rintro e w3 ⟨rfl, hw3⟩; subst w3; rw [HT.out])
  | (go_at_call 94; refine (HRK.out _ HB2.out.keep).mono ?_; rintro e w3 ⟨rfl, hw3⟩; subst w3; rw [HK.out])
  | (go_at_call 95; refine (HTW.out HK.out _ HB2.out.keep).mono ?_; rintro e w4 ⟨rfl, hk4⟩; rw [HN.out]; have HB4 := H_ (HB2.out.stay hk4); obtain ⟨t0, t1, t2, t3, t4, t5⟩ := HB4.out.step HSV.out; clear hk4)
  )
 obtain ⟨b, hb⟩ : ∃ b, b = w.heap.size := ⟨_, rfl⟩
 obtain ⟨p, hp⟩ : ∃ p, p = w4.heap.size := ⟨_, rfl⟩
 rw [← hb] at HB4 ⊢
 rw [← hp]
 refine gen_codeF (fun W => DoM w W b p SV [.int .i64 s.sort, .bool s.flag, .int .u64 0, .string s.text, .slice none 0 0, .slice none 0 0]) (by rw [hp]; exact DoM.made w HB4.out (by omega) _) ?_
 intro w5 hm5
 obtain ⟨r0, r1, r2, r3, r4, r5⟩ := hm5.box.step HSV.out
 have HM5 := H_ hm5
 clear hm5 f0 f1 f2 f3 f4 f5 t0 t1 t2 t3 t4 t5 s0 s1 s2 s3 s4 s5 HB2 HB4 hb hp HTW HRK HRT HFI HUS hwr
 go_upto_region 20 with
  (at_builtin; refine wpList_append_mine w5 _ rfl (.tmp 62) (.tmp 68) 28 rfl 31 (.agg #[.int .i64 0, .bool false, .int .u64 0, .string .empty, .slice none 0 0, .slice none 0 0]) 6 88 Tryz.underlying28 infoVal rfl (by decide) rfl (MineS.none0 6 w5 w5 _ (Keeps.refl _ w5)) (cutS 6 A c l) n (c - l) (css.flatten.drop (l * 6)) rfl (HTK.out _ ((HM5.out.box.keep).alloc _)) HTC.out (by have := HMM.out; unfold maxLen; omega) (by have := HMM.out; omega) ?_; intro A8 c8 w8 ht8; rw [Nat.zero_add, List.nil_append] at ht8; rw [Nat.zero_add]; have HM8 := H_ (HM5.out.stay ht8.2.1); have HT8 := H_ ht8; obtain ⟨q0, q1, q2, q3, q4, q5⟩ := HM8.out.box.step HSV.out; clear ht8)
 obtain ⟨VV, hVV⟩ : ∃ VV, VV = [Value.int .i64 s.sort, .bool s.flag, .int .u64 0, .string s.text, .slice none 0 0, .slice none 0 0] := ⟨_, rfl⟩
 rw [← hVV] at HM8
 have HFV : Hid (RAt (Br w0 (.slice A m c)) w8 VV j) := H_ (by
  have hi := leaf_mk (s := s) L (by have := HKS.out; omega)
  rw [hVV, ← leaf_cells HU.out L HKS.out, HLL.out.2.1]
  exact RAt.leaf _ hi.1 hi.2)
 obtain ⟨w9, hw9⟩ : ∃ w9, w9 = w8 := ⟨_, rfl⟩
 rw [← hw9] at HM8 HFV HT8 ⊢
 have HM9 := H_ HM8.out
 clear hVV HM8 hw9
 have HSI2 : Hid ((Tryz.prog.info? 31).map (·.size) = some VV.length) := H_ (by rw [HFV.out.len]; kernel_rfl)
 have HWI : Hid (∀ W, Keeps (fun _ => False) w9 W → Calls Tryz.prog 11 #[.agg VV.toArray] W fun e w' => e = .returned (.bool (decide j.within)) ∧ Keeps (fun _ => False) W w') := H_ fun W hW => rwithin_any W VV j (HFV.out.stay hW) HSJ.out.1 HSJ.out.2
 by_cases hw : j.within
 ·have HW : Hid (decide j.within = true) := H_ (decide_eq_true hw)
  have HD : Hid (doF P s = .inr (P.take l ++ [j])) := H_ (by rw [HDF.out, if_neg (by simpa using hw)])
  have HLE : Hid (l ≤ m ∧ l ≤ 1048576) := H_ (by have := HLL.out; have := HMM.out; omega)
  clear hw HDF
  go_upto_region 22 with (first
   | ((with_reducible show wpList _ _ _ (⟨some 82, _, _, _, _, _⟩ :: _) _ _); refine wpList_load_whole rfl 31 _ rfl _ rfl HM9.out.blk Tryz.underlying31 rfl HSI2.out ?_)
   | (go_at_call 11; refine (HWI.out _ (Keeps.refl _ _)).mono ?_; rintro e w10 ⟨rfl, hk10⟩; rw [HW.out]; have HM10 := H_ (HM9.out.stay hk10); have HFV10 := H_ (HFV.out.stay hk10); clear hk10))
  have hwl := HWL.out
  have hs2 := HS2.out
  clear hsl
  refine wp_region_tail (S := Keeps (fun _ => False) w10) 8 (by kernel_rfl) (Keeps.refl _ _).drew (fun h_ => ?_)
  refine tJ 0 86 ?_
  try simp only [pu]
  refine tJ 1 87 ?_
  try simp only [pu]
  refine tT [2, 4, 5] (i := 2) (oi := ⟨some 88, _, _, _, _, _⟩) (v := ?_) rfl (Or.inl ⟨by rfl, ?_⟩) h_ ?_
  rotate_left
  ·intro w' hSw
   go_simp
   first | done | rfl
  try simp only [pu]
  refine tJ 3 89 ?_
  try simp only [pu]
  refine tJ 4 90 ?_
  try simp only [pu]
  refine tJ 5 91 ?_
  try simp only [pu]
  refine tT [6, 7] (i := 6) (oi := ⟨some 92, _, _, _, _, _⟩) (v := _) rfl (yieldsIf_load_mid (by rfl) _ _ rfl _ _ rfl VV _ (fun w' h => blk_range ((HM10.out.stay h).blk)) Tryz.underlying31 rfl HSI2.out) h_ ?_
  try simp only [pu]
  refine wpAnyT_step (i := 7) (o := ⟨some 93, _, _, _, _, _⟩) (by kernel_rfl) rfl (fun K hK => ?_)
  refine step_box_S rfl 28 31 (.tmp 92) rfl (.agg #[.int .i64 0, .bool false, .int .u64 0, .string .empty, .slice none 0 0, .slice none 0 0]) 6 Tryz.underlying28 infoVal2 (by decide) (by decide) VV HFV.out.len rfl ?_
  refine hK.out _ _ (h_.alloc _) (fun h_ => ?_)
  clear hK K
  try simp only [pu]
  refine wpAnyT_tail (i := 8) (o := ⟨some 94, _, _, _, _, _⟩) (by kernel_rfl) (by kernel_rfl) rfl (fun K hK => ?_)
  refine step_append_own rfl (.tmp 91) (.tmp 93) 28 rfl 31 (.agg #[.int .i64 0, .bool false, .int .u64 0, .string .empty, .slice none 0 0, .slice none 0 0]) 6 88 Tryz.underlying28 infoVal rfl (by decide) A l c _ rfl ((HH.out.stay (HM10.out.box.keep.trans h_ (fun _ _ h => h))).own.short HLE.out.1).1 ⟨w10.drew.heap.size, 0, none⟩ 1 1 VV rfl (by rw [HFV.out.len]) (fun j u hu => by rw [add_at, Nat.zero_add]; exact ((Blk.new _ _ _).cell j).trans hu) HFV.out.one (by have := HLE.out; simp only [maxLen]; omega) (by have := HLE.out; omega) ?_
  intro A12 c12 w12 hown12 hg12 hb12
  have HEND := H_ ((HH.out.stay HM10.out.box.keep).grouped HLE.out.1 HFV10.out h_ hown12 hg12 hb12)
  refine hK.out _ _ ?_
  clear hK K
  try simp only [pu]
  refine wpAnyT_tail (i := 9) (o := ⟨some 4, _, _, _, _, _⟩) (by kernel_rfl) (by kernel_rfl) rfl (fun K hK => ?_)
  go_simp
  refine hK.out _ _ ?_
  clear hK K
  try simp only [pu]
  refine wpAnyT_tail (i := 10) (o := ⟨some 5, _, _, _, _, _⟩) (by kernel_rfl) (by kernel_rfl) rfl (fun K hK => ?_)
  go_simp
  refine hK.out _ _ ?_
  clear hK K
  try simp only [pu]
  refine wpAnyT_done (by kernel_rfl) ?_
  clear hwl hs2
  go_wp2
  go_ret2
  unfold DoRPost
  rw [HD.out]
  exact ⟨A12, c12, _, by rw [HPL.out]; rfl, by rw [HPL.out]; exact HEND.out⟩
 have HW : Hid (decide j.within = false) := H_ (decide_eq_false hw)
 have HD : Hid (doF P s = .inl 3) := H_ (by rw [HDF.out, if_pos (by simpa using hw)])
 clear hw HDF
 go_wp2_with (first
  | ((with_reducible show wpList _ _ _ (⟨some 82, _, _, _, _, _⟩ :: _) _ _); refine wpList_load_whole rfl 31 _ rfl _ rfl HM9.out.blk Tryz.underlying31 rfl HSI2.out ?_)
  | (go_at_call 11; refine (HWI.out _ (Keeps.refl _ _)).mono ?_; rintro e w10 ⟨rfl, hk10⟩; rw [HW.out]; have HM10 := H_ (HM9.out.stay hk10); clear hk10))
 go_ret2
 unfold DoRPost
 rw [HD.out]
 exact ⟨rfl, HM10.out.box.keep⟩
end Go.Proofs.YtdmcioghdindfaaGreatDoor
