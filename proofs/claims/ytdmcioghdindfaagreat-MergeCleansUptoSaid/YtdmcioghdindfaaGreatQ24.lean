/-
  Texts put together: RDoW; RDo2W.
-/
import Derived.Test.YtdmcioghdindfaaGreatQ23
set_option linter.unusedSimpArgs false
namespace Go.Proofs.YtdmcioghdindfaaGreat
open Go Go.RowKit Go.Aff Go.Json
/-- The cells of a step that came in, at a later world. -/
theorem Boxed.step {w W : World} {b : Nat} {s : StepV} {B : Option Addr} {d : Nat} {SV : List Value} (h : Boxed w W b 47 SV) (hs : SV = stepV s B d) : StepCells W b SV s B d := by
  have hb := h.blk
  rw [hs] at hb
  exact ⟨hb.cell 0, hb.cell 1, hb.cell 2, hb.cell 3, hb.cell 4, hb.cell 5⟩
set_option maxHeartbeats 4000000 in
set_option maxRecDepth 100000 in
theorem rdo_unused (w0 w : World) (A : Option Addr) (m c : Nat) (css : List (List Value)) (P : List JV) (h : RowR w0 w A m c css P) (hm : m ≤ 1048576) (hP : RowOk P) (s : StepV) (hf : StepFits s) (B : Option Addr) (d : Nat) (hk : Rd w B s.keys.length (s.keys.map .string)) (hd : s.keys.length ≤ d) (hu : usedF s = false) :
    Calls Tryz.prog 27 #[.slice A m c, .agg (stepV s B d).toArray] w (DoRPost w0 w A m c P s) := by
  have HU := Lib.hid hu
  have HD : Hid (doF P s = .inl 2) := Lib.hid (by unfold doF; rw [if_pos hu])
  clear hu
  have HSF := Lib.hid hf
  have HB0 := Lib.hid (Boxed.made w 47 (stepV s B d))
  obtain ⟨SV, hSV⟩ : ∃ SV, SV = stepV s B d := ⟨_, rfl⟩
  rw [← hSV] at HB0 ⊢
  have HSV := Lib.hid hSV
  have HSI : Hid ((Tryz.prog.info? 47).map (·.size) = some SV.length) := Lib.hid (by rw [hSV, stepV_len]; kernel_rfl)
  have HUS : Hid (∀ W, Calls Tryz.prog 42 #[.agg SV.toArray] W fun e w' => e = .returned (.bool (usedF s)) ∧ Keeps (fun _ => False) W w') := Lib.hid fun W => by rw [hSV]; exact rused_any W s B d
  have HFI : Hid (∀ W, Calls Tryz.prog 43 #[.int .u64 s.bits] W fun e w' => e = .returned (.bool (finiteF s.bits)) ∧ w' = W) := Lib.hid fun W => rfinite_any W s.bits hf.bits
  have HRT : Hid (∀ W, Calls Tryz.prog 44 #[.string s.text] W fun e w' => e = .returned (.bool (rightS s.text)) ∧ w' = W) := Lib.hid fun W => rright_any W s.text hf.text
  have HRK : Hid (∀ W, Keeps (fun _ => False) w W → Calls Tryz.prog 45 #[.slice B s.keys.length d] W fun e w' => e = .returned (.bool (s.keys.all rightS)) ∧ w' = W) := Lib.hid fun W hW =>
    rkeys_any W B _ d s.keys rfl (hk.keep hW (fun _ _ _ h => h)) (fun k hk => by have := size_le hk; have := hf.keys; omega) (by have := hf.many; omega)
  have HTW : Hid (s.keys.all rightS = true → ∀ W, Keeps (fun _ => False) w W → Calls Tryz.prog 46 #[.slice B s.keys.length d] W fun e w' => e = .returned (.bool (decide (¬ s.keys.Nodup))) ∧ Keeps (fun _ => False) W w') := Lib.hid fun hr W hW =>
    rtwice_any W B _ d s.keys rfl hd (hk.keep hW (fun _ _ _ h => h)) (by have := hf.many; omega) (fun k hk => by have := size_le hk; have := hf.keys; omega) (fun k hk => List.all_eq_true.1 hr k hk)
  have HNK := Lib.hid hf.many
  have HH := Lib.hid h
  have HPO := Lib.hid hP
  have HKR := Lib.hid hk
  have HHD := Lib.hid hd
  clear h hP hf hk hd hSV
  have HMM := Lib.hid hm
  go_enter Tryz.func27, Tryz.ntmps27
  go_wp2_with (first
    | ((with_reducible show wpList _ _ _ (⟨some 9, _, _, _, _, _⟩ :: _) _ _); refine wpList_load_whole rfl 47 _ rfl _ rfl HB0.out.blk Tryz.underlying47 rfl HSI.out ?_)
    | (go_at_call 42; refine (HUS.out _).mono ?_; rintro e w2 ⟨rfl, hk2⟩; rw [HU.out]; have HB2 := Lib.hid (HB0.out.stay hk2); obtain ⟨s0, s1, s2, s3, s4, s5⟩ := HB2.out.step HSV.out; clear hk2)
    | (go_at_call 43; refine (HFI.out _).mono ?_; rintro e w3 ⟨rfl, hw3⟩; subst w3; rw [HF.out])
    | (go_at_call 44; refine (HRT.out _).mono ?_; rintro e w3 ⟨rfl, hw3⟩; subst w3; rw [HT.out])
    | (go_at_call 45; refine (HRK.out _ HB2.out.keep).mono ?_; rintro e w3 ⟨rfl, hw3⟩; subst w3; rw [HK.out])
    | (go_at_call 46; refine (HTW.out HK.out _ HB2.out.keep).mono ?_; rintro e w4 ⟨rfl, hk4⟩; rw [HN.out]; have HB4 := Lib.hid (HB2.out.stay hk4); obtain ⟨t0, t1, t2, t3, t4, t5⟩ := HB4.out.step HSV.out; clear hk4)
    )
  go_ret2
  unfold DoRPost
  rw [HD.out]
  exact ⟨rfl, HB2.out.keep⟩
set_option maxHeartbeats 4000000 in
set_option maxRecDepth 100000 in
theorem rdo_inf (w0 w : World) (A : Option Addr) (m c : Nat) (css : List (List Value)) (P : List JV) (h : RowR w0 w A m c css P) (hm : m ≤ 1048576) (hP : RowOk P) (s : StepV) (hf : StepFits s) (B : Option Addr) (d : Nat) (hk : Rd w B s.keys.length (s.keys.map .string)) (hd : s.keys.length ≤ d) (hu : usedF s = true) (h3 : s.sort = 3) (hfi : finiteF s.bits = false) :
    Calls Tryz.prog 27 #[.slice A m c, .agg (stepV s B d).toArray] w (DoRPost w0 w A m c P s) := by
  have HU := Lib.hid hu
  have HF := Lib.hid hfi
  have HD : Hid (doF P s = .inl 104) := Lib.hid (by unfold doF; rw [if_neg (by rw [hu]; decide), if_pos ⟨h3, hfi⟩])
  have e3 : (s.sort == 3) = true := by rw [h3]; rfl
  clear hu h3 hfi
  have HSF := Lib.hid hf
  have HB0 := Lib.hid (Boxed.made w 47 (stepV s B d))
  obtain ⟨SV, hSV⟩ : ∃ SV, SV = stepV s B d := ⟨_, rfl⟩
  rw [← hSV] at HB0 ⊢
  have HSV := Lib.hid hSV
  have HSI : Hid ((Tryz.prog.info? 47).map (·.size) = some SV.length) := Lib.hid (by rw [hSV, stepV_len]; kernel_rfl)
  have HUS : Hid (∀ W, Calls Tryz.prog 42 #[.agg SV.toArray] W fun e w' => e = .returned (.bool (usedF s)) ∧ Keeps (fun _ => False) W w') := Lib.hid fun W => by rw [hSV]; exact rused_any W s B d
  have HFI : Hid (∀ W, Calls Tryz.prog 43 #[.int .u64 s.bits] W fun e w' => e = .returned (.bool (finiteF s.bits)) ∧ w' = W) := Lib.hid fun W => rfinite_any W s.bits hf.bits
  have HRT : Hid (∀ W, Calls Tryz.prog 44 #[.string s.text] W fun e w' => e = .returned (.bool (rightS s.text)) ∧ w' = W) := Lib.hid fun W => rright_any W s.text hf.text
  have HRK : Hid (∀ W, Keeps (fun _ => False) w W → Calls Tryz.prog 45 #[.slice B s.keys.length d] W fun e w' => e = .returned (.bool (s.keys.all rightS)) ∧ w' = W) := Lib.hid fun W hW =>
    rkeys_any W B _ d s.keys rfl (hk.keep hW (fun _ _ _ h => h)) (fun k hk => by have := size_le hk; have := hf.keys; omega) (by have := hf.many; omega)
  have HTW : Hid (s.keys.all rightS = true → ∀ W, Keeps (fun _ => False) w W → Calls Tryz.prog 46 #[.slice B s.keys.length d] W fun e w' => e = .returned (.bool (decide (¬ s.keys.Nodup))) ∧ Keeps (fun _ => False) W w') := Lib.hid fun hr W hW =>
    rtwice_any W B _ d s.keys rfl hd (hk.keep hW (fun _ _ _ h => h)) (by have := hf.many; omega) (fun k hk => by have := size_le hk; have := hf.keys; omega) (fun k hk => List.all_eq_true.1 hr k hk)
  have HNK := Lib.hid hf.many
  have HH := Lib.hid h
  have HPO := Lib.hid hP
  have HKR := Lib.hid hk
  have HHD := Lib.hid hd
  clear h hP hf hk hd hSV
  have HMM := Lib.hid hm
  go_enter Tryz.func27, Tryz.ntmps27
  go_wp2_with (first
    | ((with_reducible show wpList _ _ _ (⟨some 9, _, _, _, _, _⟩ :: _) _ _); refine wpList_load_whole rfl 47 _ rfl _ rfl HB0.out.blk Tryz.underlying47 rfl HSI.out ?_)
    | (go_at_call 42; refine (HUS.out _).mono ?_; rintro e w2 ⟨rfl, hk2⟩; rw [HU.out]; have HB2 := Lib.hid (HB0.out.stay hk2); obtain ⟨s0, s1, s2, s3, s4, s5⟩ := HB2.out.step HSV.out; clear hk2)
    | (go_at_call 43; refine (HFI.out _).mono ?_; rintro e w3 ⟨rfl, hw3⟩; subst w3; rw [HF.out])
    | (go_at_call 44; refine (HRT.out _).mono ?_; rintro e w3 ⟨rfl, hw3⟩; subst w3; rw [HT.out])
    | (go_at_call 45; refine (HRK.out _ HB2.out.keep).mono ?_; rintro e w3 ⟨rfl, hw3⟩; subst w3; rw [HK.out])
    | (go_at_call 46; refine (HTW.out HK.out _ HB2.out.keep).mono ?_; rintro e w4 ⟨rfl, hk4⟩; rw [HN.out]; have HB4 := Lib.hid (HB2.out.stay hk4); obtain ⟨t0, t1, t2, t3, t4, t5⟩ := HB4.out.step HSV.out; clear hk4)
    )
  go_ret2
  unfold DoRPost
  rw [HD.out]
  exact ⟨rfl, HB2.out.keep⟩
set_option maxHeartbeats 4000000 in
set_option maxRecDepth 100000 in
theorem rdo_text (w0 w : World) (A : Option Addr) (m c : Nat) (css : List (List Value)) (P : List JV) (h : RowR w0 w A m c css P) (hm : m ≤ 1048576) (hP : RowOk P) (s : StepV) (hf : StepFits s) (B : Option Addr) (d : Nat) (hk : Rd w B s.keys.length (s.keys.map .string)) (hd : s.keys.length ≤ d) (hu : usedF s = true) (h3 : s.sort = 3 → finiteF s.bits = true) (ht : rightS s.text = false) :
    Calls Tryz.prog 27 #[.slice A m c, .agg (stepV s B d).toArray] w (DoRPost w0 w A m c P s) := by
  have HU := Lib.hid hu
  have HT := Lib.hid ht
  have HD : Hid (doF P s = .inl 100) := Lib.hid (by unfold doF; rw [if_neg (by rw [hu]; decide), if_neg (fun e => by rw [h3 e.1] at e; exact absurd e.2 (by decide)), if_pos (.inl ht)])
  by_cases a3 : s.sort = 3
  · have e3 : (s.sort == 3) = true := by rw [a3]; rfl
    have HF := Lib.hid (h3 a3)
    clear hu h3 a3 ht
    have HSF := Lib.hid hf
    have HB0 := Lib.hid (Boxed.made w 47 (stepV s B d))
    obtain ⟨SV, hSV⟩ : ∃ SV, SV = stepV s B d := ⟨_, rfl⟩
    rw [← hSV] at HB0 ⊢
    have HSV := Lib.hid hSV
    have HSI : Hid ((Tryz.prog.info? 47).map (·.size) = some SV.length) := Lib.hid (by rw [hSV, stepV_len]; kernel_rfl)
    have HUS : Hid (∀ W, Calls Tryz.prog 42 #[.agg SV.toArray] W fun e w' => e = .returned (.bool (usedF s)) ∧ Keeps (fun _ => False) W w') := Lib.hid fun W => by rw [hSV]; exact rused_any W s B d
    have HFI : Hid (∀ W, Calls Tryz.prog 43 #[.int .u64 s.bits] W fun e w' => e = .returned (.bool (finiteF s.bits)) ∧ w' = W) := Lib.hid fun W => rfinite_any W s.bits hf.bits
    have HRT : Hid (∀ W, Calls Tryz.prog 44 #[.string s.text] W fun e w' => e = .returned (.bool (rightS s.text)) ∧ w' = W) := Lib.hid fun W => rright_any W s.text hf.text
    have HRK : Hid (∀ W, Keeps (fun _ => False) w W → Calls Tryz.prog 45 #[.slice B s.keys.length d] W fun e w' => e = .returned (.bool (s.keys.all rightS)) ∧ w' = W) := Lib.hid fun W hW =>
      rkeys_any W B _ d s.keys rfl (hk.keep hW (fun _ _ _ h => h)) (fun k hk => by have := size_le hk; have := hf.keys; omega) (by have := hf.many; omega)
    have HTW : Hid (s.keys.all rightS = true → ∀ W, Keeps (fun _ => False) w W → Calls Tryz.prog 46 #[.slice B s.keys.length d] W fun e w' => e = .returned (.bool (decide (¬ s.keys.Nodup))) ∧ Keeps (fun _ => False) W w') := Lib.hid fun hr W hW =>
      rtwice_any W B _ d s.keys rfl hd (hk.keep hW (fun _ _ _ h => h)) (by have := hf.many; omega) (fun k hk => by have := size_le hk; have := hf.keys; omega) (fun k hk => List.all_eq_true.1 hr k hk)
    have HNK := Lib.hid hf.many
    have HH := Lib.hid h
    have HPO := Lib.hid hP
    have HKR := Lib.hid hk
    have HHD := Lib.hid hd
    clear h hP hf hk hd hSV
    have HMM := Lib.hid hm
    go_enter Tryz.func27, Tryz.ntmps27
    go_wp2_with (first
      | ((with_reducible show wpList _ _ _ (⟨some 9, _, _, _, _, _⟩ :: _) _ _); refine wpList_load_whole rfl 47 _ rfl _ rfl HB0.out.blk Tryz.underlying47 rfl HSI.out ?_)
      | (go_at_call 42; refine (HUS.out _).mono ?_; rintro e w2 ⟨rfl, hk2⟩; rw [HU.out]; have HB2 := Lib.hid (HB0.out.stay hk2); obtain ⟨s0, s1, s2, s3, s4, s5⟩ := HB2.out.step HSV.out; clear hk2)
      | (go_at_call 43; refine (HFI.out _).mono ?_; rintro e w3 ⟨rfl, hw3⟩; subst w3; rw [HF.out])
      | (go_at_call 44; refine (HRT.out _).mono ?_; rintro e w3 ⟨rfl, hw3⟩; subst w3; rw [HT.out])
      | (go_at_call 45; refine (HRK.out _ HB2.out.keep).mono ?_; rintro e w3 ⟨rfl, hw3⟩; subst w3; rw [HK.out])
      | (go_at_call 46; refine (HTW.out HK.out _ HB2.out.keep).mono ?_; rintro e w4 ⟨rfl, hk4⟩; rw [HN.out]; have HB4 := Lib.hid (HB2.out.stay hk4); obtain ⟨t0, t1, t2, t3, t4, t5⟩ := HB4.out.step HSV.out; clear hk4)
      )
    go_ret2
    unfold DoRPost
    rw [HD.out]
    exact ⟨rfl, HB2.out.keep⟩
  · have e3 : (s.sort == 3) = false := beq_eq_false_iff_ne.2 a3
    clear hu h3 a3 ht
    have HSF := Lib.hid hf
    have HB0 := Lib.hid (Boxed.made w 47 (stepV s B d))
    obtain ⟨SV, hSV⟩ : ∃ SV, SV = stepV s B d := ⟨_, rfl⟩
    rw [← hSV] at HB0 ⊢
    have HSV := Lib.hid hSV
    have HSI : Hid ((Tryz.prog.info? 47).map (·.size) = some SV.length) := Lib.hid (by rw [hSV, stepV_len]; kernel_rfl)
    have HUS : Hid (∀ W, Calls Tryz.prog 42 #[.agg SV.toArray] W fun e w' => e = .returned (.bool (usedF s)) ∧ Keeps (fun _ => False) W w') := Lib.hid fun W => by rw [hSV]; exact rused_any W s B d
    have HFI : Hid (∀ W, Calls Tryz.prog 43 #[.int .u64 s.bits] W fun e w' => e = .returned (.bool (finiteF s.bits)) ∧ w' = W) := Lib.hid fun W => rfinite_any W s.bits hf.bits
    have HRT : Hid (∀ W, Calls Tryz.prog 44 #[.string s.text] W fun e w' => e = .returned (.bool (rightS s.text)) ∧ w' = W) := Lib.hid fun W => rright_any W s.text hf.text
    have HRK : Hid (∀ W, Keeps (fun _ => False) w W → Calls Tryz.prog 45 #[.slice B s.keys.length d] W fun e w' => e = .returned (.bool (s.keys.all rightS)) ∧ w' = W) := Lib.hid fun W hW =>
      rkeys_any W B _ d s.keys rfl (hk.keep hW (fun _ _ _ h => h)) (fun k hk => by have := size_le hk; have := hf.keys; omega) (by have := hf.many; omega)
    have HTW : Hid (s.keys.all rightS = true → ∀ W, Keeps (fun _ => False) w W → Calls Tryz.prog 46 #[.slice B s.keys.length d] W fun e w' => e = .returned (.bool (decide (¬ s.keys.Nodup))) ∧ Keeps (fun _ => False) W w') := Lib.hid fun hr W hW =>
      rtwice_any W B _ d s.keys rfl hd (hk.keep hW (fun _ _ _ h => h)) (by have := hf.many; omega) (fun k hk => by have := size_le hk; have := hf.keys; omega) (fun k hk => List.all_eq_true.1 hr k hk)
    have HNK := Lib.hid hf.many
    have HH := Lib.hid h
    have HPO := Lib.hid hP
    have HKR := Lib.hid hk
    have HHD := Lib.hid hd
    clear h hP hf hk hd hSV
    have HMM := Lib.hid hm
    go_enter Tryz.func27, Tryz.ntmps27
    go_wp2_with (first
      | ((with_reducible show wpList _ _ _ (⟨some 9, _, _, _, _, _⟩ :: _) _ _); refine wpList_load_whole rfl 47 _ rfl _ rfl HB0.out.blk Tryz.underlying47 rfl HSI.out ?_)
      | (go_at_call 42; refine (HUS.out _).mono ?_; rintro e w2 ⟨rfl, hk2⟩; rw [HU.out]; have HB2 := Lib.hid (HB0.out.stay hk2); obtain ⟨s0, s1, s2, s3, s4, s5⟩ := HB2.out.step HSV.out; clear hk2)
      | (go_at_call 43; refine (HFI.out _).mono ?_; rintro e w3 ⟨rfl, hw3⟩; subst w3; rw [HF.out])
      | (go_at_call 44; refine (HRT.out _).mono ?_; rintro e w3 ⟨rfl, hw3⟩; subst w3; rw [HT.out])
      | (go_at_call 45; refine (HRK.out _ HB2.out.keep).mono ?_; rintro e w3 ⟨rfl, hw3⟩; subst w3; rw [HK.out])
      | (go_at_call 46; refine (HTW.out HK.out _ HB2.out.keep).mono ?_; rintro e w4 ⟨rfl, hk4⟩; rw [HN.out]; have HB4 := Lib.hid (HB2.out.stay hk4); obtain ⟨t0, t1, t2, t3, t4, t5⟩ := HB4.out.step HSV.out; clear hk4)
      )
    go_ret2
    unfold DoRPost
    rw [HD.out]
    exact ⟨rfl, HB2.out.keep⟩
set_option maxHeartbeats 4000000 in
set_option maxRecDepth 100000 in
theorem rdo_keys (w0 w : World) (A : Option Addr) (m c : Nat) (css : List (List Value)) (P : List JV) (h : RowR w0 w A m c css P) (hm : m ≤ 1048576) (hP : RowOk P) (s : StepV) (hf : StepFits s) (B : Option Addr) (d : Nat) (hk : Rd w B s.keys.length (s.keys.map .string)) (hd : s.keys.length ≤ d) (hu : usedF s = true) (h3 : s.sort = 3 → finiteF s.bits = true) (ht : rightS s.text = true) (hkk : s.keys.all rightS = false) :
    Calls Tryz.prog 27 #[.slice A m c, .agg (stepV s B d).toArray] w (DoRPost w0 w A m c P s) := by
  have HU := Lib.hid hu
  have HT := Lib.hid ht
  have HK := Lib.hid hkk
  have HD : Hid (doF P s = .inl 100) := Lib.hid (by unfold doF; rw [if_neg (by rw [hu]; decide), if_neg (fun e => by rw [h3 e.1] at e; exact absurd e.2 (by decide)), if_pos (.inr hkk)])
  by_cases a3 : s.sort = 3
  · have e3 : (s.sort == 3) = true := by rw [a3]; rfl
    have HF := Lib.hid (h3 a3)
    clear hu h3 a3 ht hkk
    have HSF := Lib.hid hf
    have HB0 := Lib.hid (Boxed.made w 47 (stepV s B d))
    obtain ⟨SV, hSV⟩ : ∃ SV, SV = stepV s B d := ⟨_, rfl⟩
    rw [← hSV] at HB0 ⊢
    have HSV := Lib.hid hSV
    have HSI : Hid ((Tryz.prog.info? 47).map (·.size) = some SV.length) := Lib.hid (by rw [hSV, stepV_len]; kernel_rfl)
    have HUS : Hid (∀ W, Calls Tryz.prog 42 #[.agg SV.toArray] W fun e w' => e = .returned (.bool (usedF s)) ∧ Keeps (fun _ => False) W w') := Lib.hid fun W => by rw [hSV]; exact rused_any W s B d
    have HFI : Hid (∀ W, Calls Tryz.prog 43 #[.int .u64 s.bits] W fun e w' => e = .returned (.bool (finiteF s.bits)) ∧ w' = W) := Lib.hid fun W => rfinite_any W s.bits hf.bits
    have HRT : Hid (∀ W, Calls Tryz.prog 44 #[.string s.text] W fun e w' => e = .returned (.bool (rightS s.text)) ∧ w' = W) := Lib.hid fun W => rright_any W s.text hf.text
    have HRK : Hid (∀ W, Keeps (fun _ => False) w W → Calls Tryz.prog 45 #[.slice B s.keys.length d] W fun e w' => e = .returned (.bool (s.keys.all rightS)) ∧ w' = W) := Lib.hid fun W hW =>
      rkeys_any W B _ d s.keys rfl (hk.keep hW (fun _ _ _ h => h)) (fun k hk => by have := size_le hk; have := hf.keys; omega) (by have := hf.many; omega)
    have HTW : Hid (s.keys.all rightS = true → ∀ W, Keeps (fun _ => False) w W → Calls Tryz.prog 46 #[.slice B s.keys.length d] W fun e w' => e = .returned (.bool (decide (¬ s.keys.Nodup))) ∧ Keeps (fun _ => False) W w') := Lib.hid fun hr W hW =>
      rtwice_any W B _ d s.keys rfl hd (hk.keep hW (fun _ _ _ h => h)) (by have := hf.many; omega) (fun k hk => by have := size_le hk; have := hf.keys; omega) (fun k hk => List.all_eq_true.1 hr k hk)
    have HNK := Lib.hid hf.many
    have HH := Lib.hid h
    have HPO := Lib.hid hP
    have HKR := Lib.hid hk
    have HHD := Lib.hid hd
    clear h hP hf hk hd hSV
    have HMM := Lib.hid hm
    go_enter Tryz.func27, Tryz.ntmps27
    go_wp2_with (first
      | ((with_reducible show wpList _ _ _ (⟨some 9, _, _, _, _, _⟩ :: _) _ _); refine wpList_load_whole rfl 47 _ rfl _ rfl HB0.out.blk Tryz.underlying47 rfl HSI.out ?_)
      | (go_at_call 42; refine (HUS.out _).mono ?_; rintro e w2 ⟨rfl, hk2⟩; rw [HU.out]; have HB2 := Lib.hid (HB0.out.stay hk2); obtain ⟨s0, s1, s2, s3, s4, s5⟩ := HB2.out.step HSV.out; clear hk2)
      | (go_at_call 43; refine (HFI.out _).mono ?_; rintro e w3 ⟨rfl, hw3⟩; subst w3; rw [HF.out])
      | (go_at_call 44; refine (HRT.out _).mono ?_; rintro e w3 ⟨rfl, hw3⟩; subst w3; rw [HT.out])
      | (go_at_call 45; refine (HRK.out _ HB2.out.keep).mono ?_; rintro e w3 ⟨rfl, hw3⟩; subst w3; rw [HK.out])
      | (go_at_call 46; refine (HTW.out HK.out _ HB2.out.keep).mono ?_; rintro e w4 ⟨rfl, hk4⟩; rw [HN.out]; have HB4 := Lib.hid (HB2.out.stay hk4); obtain ⟨t0, t1, t2, t3, t4, t5⟩ := HB4.out.step HSV.out; clear hk4)
      )
    go_ret2
    unfold DoRPost
    rw [HD.out]
    exact ⟨rfl, HB2.out.keep⟩
  · have e3 : (s.sort == 3) = false := beq_eq_false_iff_ne.2 a3
    clear hu h3 a3 ht hkk
    have HSF := Lib.hid hf
    have HB0 := Lib.hid (Boxed.made w 47 (stepV s B d))
    obtain ⟨SV, hSV⟩ : ∃ SV, SV = stepV s B d := ⟨_, rfl⟩
    rw [← hSV] at HB0 ⊢
    have HSV := Lib.hid hSV
    have HSI : Hid ((Tryz.prog.info? 47).map (·.size) = some SV.length) := Lib.hid (by rw [hSV, stepV_len]; kernel_rfl)
    have HUS : Hid (∀ W, Calls Tryz.prog 42 #[.agg SV.toArray] W fun e w' => e = .returned (.bool (usedF s)) ∧ Keeps (fun _ => False) W w') := Lib.hid fun W => by rw [hSV]; exact rused_any W s B d
    have HFI : Hid (∀ W, Calls Tryz.prog 43 #[.int .u64 s.bits] W fun e w' => e = .returned (.bool (finiteF s.bits)) ∧ w' = W) := Lib.hid fun W => rfinite_any W s.bits hf.bits
    have HRT : Hid (∀ W, Calls Tryz.prog 44 #[.string s.text] W fun e w' => e = .returned (.bool (rightS s.text)) ∧ w' = W) := Lib.hid fun W => rright_any W s.text hf.text
    have HRK : Hid (∀ W, Keeps (fun _ => False) w W → Calls Tryz.prog 45 #[.slice B s.keys.length d] W fun e w' => e = .returned (.bool (s.keys.all rightS)) ∧ w' = W) := Lib.hid fun W hW =>
      rkeys_any W B _ d s.keys rfl (hk.keep hW (fun _ _ _ h => h)) (fun k hk => by have := size_le hk; have := hf.keys; omega) (by have := hf.many; omega)
    have HTW : Hid (s.keys.all rightS = true → ∀ W, Keeps (fun _ => False) w W → Calls Tryz.prog 46 #[.slice B s.keys.length d] W fun e w' => e = .returned (.bool (decide (¬ s.keys.Nodup))) ∧ Keeps (fun _ => False) W w') := Lib.hid fun hr W hW =>
      rtwice_any W B _ d s.keys rfl hd (hk.keep hW (fun _ _ _ h => h)) (by have := hf.many; omega) (fun k hk => by have := size_le hk; have := hf.keys; omega) (fun k hk => List.all_eq_true.1 hr k hk)
    have HNK := Lib.hid hf.many
    have HH := Lib.hid h
    have HPO := Lib.hid hP
    have HKR := Lib.hid hk
    have HHD := Lib.hid hd
    clear h hP hf hk hd hSV
    have HMM := Lib.hid hm
    go_enter Tryz.func27, Tryz.ntmps27
    go_wp2_with (first
      | ((with_reducible show wpList _ _ _ (⟨some 9, _, _, _, _, _⟩ :: _) _ _); refine wpList_load_whole rfl 47 _ rfl _ rfl HB0.out.blk Tryz.underlying47 rfl HSI.out ?_)
      | (go_at_call 42; refine (HUS.out _).mono ?_; rintro e w2 ⟨rfl, hk2⟩; rw [HU.out]; have HB2 := Lib.hid (HB0.out.stay hk2); obtain ⟨s0, s1, s2, s3, s4, s5⟩ := HB2.out.step HSV.out; clear hk2)
      | (go_at_call 43; refine (HFI.out _).mono ?_; rintro e w3 ⟨rfl, hw3⟩; subst w3; rw [HF.out])
      | (go_at_call 44; refine (HRT.out _).mono ?_; rintro e w3 ⟨rfl, hw3⟩; subst w3; rw [HT.out])
      | (go_at_call 45; refine (HRK.out _ HB2.out.keep).mono ?_; rintro e w3 ⟨rfl, hw3⟩; subst w3; rw [HK.out])
      | (go_at_call 46; refine (HTW.out HK.out _ HB2.out.keep).mono ?_; rintro e w4 ⟨rfl, hk4⟩; rw [HN.out]; have HB4 := Lib.hid (HB2.out.stay hk4); obtain ⟨t0, t1, t2, t3, t4, t5⟩ := HB4.out.step HSV.out; clear hk4)
      )
    go_ret2
    unfold DoRPost
    rw [HD.out]
    exact ⟨rfl, HB2.out.keep⟩
end Go.Proofs.YtdmcioghdindfaaGreat

set_option linter.unusedSimpArgs false
namespace Go.Proofs.YtdmcioghdindfaaGreat
open Go Go.RowKit Go.Aff Go.Json
theorem doF_past {P : List JV} {s : StepV} (hu : usedF s = true) (h3 : s.sort = 3 → finiteF s.bits = true) (ht : rightS s.text = true) (hk : s.keys.all rightS = true) :
    doF P s = if ¬ s.keys.Nodup then .inl 101 else if P.length < s.count.toNat + s.keys.length then .inl 102
      else if ¬ (mkV s (P.drop (P.length - (s.count.toNat + s.keys.length)))).within then .inl 3
      else .inr (P.take (P.length - (s.count.toNat + s.keys.length)) ++ [mkV s (P.drop (P.length - (s.count.toNat + s.keys.length)))]) := by
  unfold doF
  rw [if_neg (by rw [hu]; decide), if_neg (fun e => by rw [h3 e.1] at e; exact absurd e.2 (by decide)), if_neg (fun e => by rw [ht, hk] at e; rcases e with e | e <;> cases e)]
set_option maxHeartbeats 4000000 in
set_option maxRecDepth 100000 in
theorem rdo_twice (w0 w : World) (A : Option Addr) (m c : Nat) (css : List (List Value)) (P : List JV) (h : RowR w0 w A m c css P) (hm : m ≤ 1048576) (hP : RowOk P) (s : StepV) (hf : StepFits s) (B : Option Addr) (d : Nat) (hk : Rd w B s.keys.length (s.keys.map .string)) (hd : s.keys.length ≤ d) (hu : usedF s = true) (h3 : s.sort = 3 → finiteF s.bits = true) (ht : rightS s.text = true) (hkk : s.keys.all rightS = true) (hn : ¬ s.keys.Nodup) :
    Calls Tryz.prog 27 #[.slice A m c, .agg (stepV s B d).toArray] w (DoRPost w0 w A m c P s) := by
  have HU := Lib.hid hu
  have HT := Lib.hid ht
  have HK := Lib.hid hkk
  have HD : Hid (doF P s = .inl 101) := Lib.hid (by rw [doF_past hu h3 ht hkk, if_pos hn])
  have HN : Hid (decide (¬ s.keys.Nodup) = true) := Lib.hid (decide_eq_true hn)
  by_cases a3 : s.sort = 3
  · have e3 : (s.sort == 3) = true := by rw [a3]; rfl
    have HF := Lib.hid (h3 a3)
    clear hu h3 a3 ht hkk hn
    have HSF := Lib.hid hf
    have HB0 := Lib.hid (Boxed.made w 47 (stepV s B d))
    obtain ⟨SV, hSV⟩ : ∃ SV, SV = stepV s B d := ⟨_, rfl⟩
    rw [← hSV] at HB0 ⊢
    have HSV := Lib.hid hSV
    have HSI : Hid ((Tryz.prog.info? 47).map (·.size) = some SV.length) := Lib.hid (by rw [hSV, stepV_len]; kernel_rfl)
    have HUS : Hid (∀ W, Calls Tryz.prog 42 #[.agg SV.toArray] W fun e w' => e = .returned (.bool (usedF s)) ∧ Keeps (fun _ => False) W w') := Lib.hid fun W => by rw [hSV]; exact rused_any W s B d
    have HFI : Hid (∀ W, Calls Tryz.prog 43 #[.int .u64 s.bits] W fun e w' => e = .returned (.bool (finiteF s.bits)) ∧ w' = W) := Lib.hid fun W => rfinite_any W s.bits hf.bits
    have HRT : Hid (∀ W, Calls Tryz.prog 44 #[.string s.text] W fun e w' => e = .returned (.bool (rightS s.text)) ∧ w' = W) := Lib.hid fun W => rright_any W s.text hf.text
    have HRK : Hid (∀ W, Keeps (fun _ => False) w W → Calls Tryz.prog 45 #[.slice B s.keys.length d] W fun e w' => e = .returned (.bool (s.keys.all rightS)) ∧ w' = W) := Lib.hid fun W hW =>
      rkeys_any W B _ d s.keys rfl (hk.keep hW (fun _ _ _ h => h)) (fun k hk => by have := size_le hk; have := hf.keys; omega) (by have := hf.many; omega)
    have HTW : Hid (s.keys.all rightS = true → ∀ W, Keeps (fun _ => False) w W → Calls Tryz.prog 46 #[.slice B s.keys.length d] W fun e w' => e = .returned (.bool (decide (¬ s.keys.Nodup))) ∧ Keeps (fun _ => False) W w') := Lib.hid fun hr W hW =>
      rtwice_any W B _ d s.keys rfl hd (hk.keep hW (fun _ _ _ h => h)) (by have := hf.many; omega) (fun k hk => by have := size_le hk; have := hf.keys; omega) (fun k hk => List.all_eq_true.1 hr k hk)
    have HNK := Lib.hid hf.many
    have HH := Lib.hid h
    have HPO := Lib.hid hP
    have HKR := Lib.hid hk
    have HHD := Lib.hid hd
    clear h hP hf hk hd hSV
    have HMM := Lib.hid hm
    go_enter Tryz.func27, Tryz.ntmps27
    go_wp2_with (first
      | ((with_reducible show wpList _ _ _ (⟨some 9, _, _, _, _, _⟩ :: _) _ _); refine wpList_load_whole rfl 47 _ rfl _ rfl HB0.out.blk Tryz.underlying47 rfl HSI.out ?_)
      | (go_at_call 42; refine (HUS.out _).mono ?_; rintro e w2 ⟨rfl, hk2⟩; rw [HU.out]; have HB2 := Lib.hid (HB0.out.stay hk2); obtain ⟨s0, s1, s2, s3, s4, s5⟩ := HB2.out.step HSV.out; clear hk2)
      | (go_at_call 43; refine (HFI.out _).mono ?_; rintro e w3 ⟨rfl, hw3⟩; subst w3; rw [HF.out])
      | (go_at_call 44; refine (HRT.out _).mono ?_; rintro e w3 ⟨rfl, hw3⟩; subst w3; rw [HT.out])
      | (go_at_call 45; refine (HRK.out _ HB2.out.keep).mono ?_; rintro e w3 ⟨rfl, hw3⟩; subst w3; rw [HK.out])
      | (go_at_call 46; refine (HTW.out HK.out _ HB2.out.keep).mono ?_; rintro e w4 ⟨rfl, hk4⟩; rw [HN.out]; have HB4 := Lib.hid (HB2.out.stay hk4); obtain ⟨t0, t1, t2, t3, t4, t5⟩ := HB4.out.step HSV.out; clear hk4)
      )
    go_ret2
    unfold DoRPost
    rw [HD.out]
    exact ⟨rfl, HB4.out.keep⟩
  
  · have e3 : (s.sort == 3) = false := beq_eq_false_iff_ne.2 a3
    clear hu h3 a3 ht hkk hn
    have HSF := Lib.hid hf
    have HB0 := Lib.hid (Boxed.made w 47 (stepV s B d))
    obtain ⟨SV, hSV⟩ : ∃ SV, SV = stepV s B d := ⟨_, rfl⟩
    rw [← hSV] at HB0 ⊢
    have HSV := Lib.hid hSV
    have HSI : Hid ((Tryz.prog.info? 47).map (·.size) = some SV.length) := Lib.hid (by rw [hSV, stepV_len]; kernel_rfl)
    have HUS : Hid (∀ W, Calls Tryz.prog 42 #[.agg SV.toArray] W fun e w' => e = .returned (.bool (usedF s)) ∧ Keeps (fun _ => False) W w') := Lib.hid fun W => by rw [hSV]; exact rused_any W s B d
    have HFI : Hid (∀ W, Calls Tryz.prog 43 #[.int .u64 s.bits] W fun e w' => e = .returned (.bool (finiteF s.bits)) ∧ w' = W) := Lib.hid fun W => rfinite_any W s.bits hf.bits
    have HRT : Hid (∀ W, Calls Tryz.prog 44 #[.string s.text] W fun e w' => e = .returned (.bool (rightS s.text)) ∧ w' = W) := Lib.hid fun W => rright_any W s.text hf.text
    have HRK : Hid (∀ W, Keeps (fun _ => False) w W → Calls Tryz.prog 45 #[.slice B s.keys.length d] W fun e w' => e = .returned (.bool (s.keys.all rightS)) ∧ w' = W) := Lib.hid fun W hW =>
      rkeys_any W B _ d s.keys rfl (hk.keep hW (fun _ _ _ h => h)) (fun k hk => by have := size_le hk; have := hf.keys; omega) (by have := hf.many; omega)
    have HTW : Hid (s.keys.all rightS = true → ∀ W, Keeps (fun _ => False) w W → Calls Tryz.prog 46 #[.slice B s.keys.length d] W fun e w' => e = .returned (.bool (decide (¬ s.keys.Nodup))) ∧ Keeps (fun _ => False) W w') := Lib.hid fun hr W hW =>
      rtwice_any W B _ d s.keys rfl hd (hk.keep hW (fun _ _ _ h => h)) (by have := hf.many; omega) (fun k hk => by have := size_le hk; have := hf.keys; omega) (fun k hk => List.all_eq_true.1 hr k hk)
    have HNK := Lib.hid hf.many
    have HH := Lib.hid h
    have HPO := Lib.hid hP
    have HKR := Lib.hid hk
    have HHD := Lib.hid hd
    clear h hP hf hk hd hSV
    have HMM := Lib.hid hm
    go_enter Tryz.func27, Tryz.ntmps27
    go_wp2_with (first
      | ((with_reducible show wpList _ _ _ (⟨some 9, _, _, _, _, _⟩ :: _) _ _); refine wpList_load_whole rfl 47 _ rfl _ rfl HB0.out.blk Tryz.underlying47 rfl HSI.out ?_)
      | (go_at_call 42; refine (HUS.out _).mono ?_; rintro e w2 ⟨rfl, hk2⟩; rw [HU.out]; have HB2 := Lib.hid (HB0.out.stay hk2); obtain ⟨s0, s1, s2, s3, s4, s5⟩ := HB2.out.step HSV.out; clear hk2)
      | (go_at_call 43; refine (HFI.out _).mono ?_; rintro e w3 ⟨rfl, hw3⟩; subst w3; rw [HF.out])
      | (go_at_call 44; refine (HRT.out _).mono ?_; rintro e w3 ⟨rfl, hw3⟩; subst w3; rw [HT.out])
      | (go_at_call 45; refine (HRK.out _ HB2.out.keep).mono ?_; rintro e w3 ⟨rfl, hw3⟩; subst w3; rw [HK.out])
      | (go_at_call 46; refine (HTW.out HK.out _ HB2.out.keep).mono ?_; rintro e w4 ⟨rfl, hk4⟩; rw [HN.out]; have HB4 := Lib.hid (HB2.out.stay hk4); obtain ⟨t0, t1, t2, t3, t4, t5⟩ := HB4.out.step HSV.out; clear hk4)
      )
    go_ret2
    unfold DoRPost
    rw [HD.out]
    exact ⟨rfl, HB4.out.keep⟩
set_option maxHeartbeats 4000000 in
set_option maxRecDepth 100000 in
theorem rdo_few (w0 w : World) (A : Option Addr) (m c : Nat) (css : List (List Value)) (P : List JV) (h : RowR w0 w A m c css P) (hm : m ≤ 1048576) (hP : RowOk P) (s : StepV) (hf : StepFits s) (B : Option Addr) (d : Nat) (hk : Rd w B s.keys.length (s.keys.map .string)) (hd : s.keys.length ≤ d) (hu : usedF s = true) (h3 : s.sort = 3 → finiteF s.bits = true) (ht : rightS s.text = true) (hkk : s.keys.all rightS = true) (hn : s.keys.Nodup) (hcn : s.count ≤ 9223372036854775807) (hfew : m < s.count.toNat + s.keys.length) :
    Calls Tryz.prog 27 #[.slice A m c, .agg (stepV s B d).toArray] w (DoRPost w0 w A m c P s) := by
  have HU := Lib.hid hu
  have HT := Lib.hid ht
  have HK := Lib.hid hkk
  have HD : Hid (doF P s = .inl 102) := Lib.hid (by rw [doF_past hu h3 ht hkk, if_neg (by simpa using hn), if_pos (by rw [h.len]; exact hfew)])
  have HN : Hid (decide (¬ s.keys.Nodup) = false) := Lib.hid (decide_eq_false (by simpa using hn))
  obtain ⟨N, hN⟩ : ∃ N : Int, N = s.count + (s.keys.length : Int) := ⟨_, rfl⟩
  have hwr : IntKind.i64.wrap (s.count + (s.keys.length : Int)) = N := by
    obtain ⟨_, u2, u3, _, _, u0⟩ := used_parts hu
    rw [hN]
    refine IntWalk.i64_in _ ?_
    have := hf.many
    by_cases a5 : s.sort = 5
    · rw [u3 (by omega)]
      simp
      omega
    · rw [u2 a5]
      omega
  have hgt : decide ((m : Int) < N) = true := by
    obtain ⟨_, _, _, _, _, u0⟩ := used_parts hu
    exact decide_eq_true (by omega)
  clear hfew hN hcn
  by_cases a3 : s.sort = 3
  · have e3 : (s.sort == 3) = true := by rw [a3]; rfl
    have HF := Lib.hid (h3 a3)
    clear hu h3 a3 ht hkk hn
    have HSF := Lib.hid hf
    have HB0 := Lib.hid (Boxed.made w 47 (stepV s B d))
    obtain ⟨SV, hSV⟩ : ∃ SV, SV = stepV s B d := ⟨_, rfl⟩
    rw [← hSV] at HB0 ⊢
    have HSV := Lib.hid hSV
    have HSI : Hid ((Tryz.prog.info? 47).map (·.size) = some SV.length) := Lib.hid (by rw [hSV, stepV_len]; kernel_rfl)
    have HUS : Hid (∀ W, Calls Tryz.prog 42 #[.agg SV.toArray] W fun e w' => e = .returned (.bool (usedF s)) ∧ Keeps (fun _ => False) W w') := Lib.hid fun W => by rw [hSV]; exact rused_any W s B d
    have HFI : Hid (∀ W, Calls Tryz.prog 43 #[.int .u64 s.bits] W fun e w' => e = .returned (.bool (finiteF s.bits)) ∧ w' = W) := Lib.hid fun W => rfinite_any W s.bits hf.bits
    have HRT : Hid (∀ W, Calls Tryz.prog 44 #[.string s.text] W fun e w' => e = .returned (.bool (rightS s.text)) ∧ w' = W) := Lib.hid fun W => rright_any W s.text hf.text
    have HRK : Hid (∀ W, Keeps (fun _ => False) w W → Calls Tryz.prog 45 #[.slice B s.keys.length d] W fun e w' => e = .returned (.bool (s.keys.all rightS)) ∧ w' = W) := Lib.hid fun W hW =>
      rkeys_any W B _ d s.keys rfl (hk.keep hW (fun _ _ _ h => h)) (fun k hk => by have := size_le hk; have := hf.keys; omega) (by have := hf.many; omega)
    have HTW : Hid (s.keys.all rightS = true → ∀ W, Keeps (fun _ => False) w W → Calls Tryz.prog 46 #[.slice B s.keys.length d] W fun e w' => e = .returned (.bool (decide (¬ s.keys.Nodup))) ∧ Keeps (fun _ => False) W w') := Lib.hid fun hr W hW =>
      rtwice_any W B _ d s.keys rfl hd (hk.keep hW (fun _ _ _ h => h)) (by have := hf.many; omega) (fun k hk => by have := size_le hk; have := hf.keys; omega) (fun k hk => List.all_eq_true.1 hr k hk)
    have HNK := Lib.hid hf.many
    have HH := Lib.hid h
    have HPO := Lib.hid hP
    have HKR := Lib.hid hk
    have HHD := Lib.hid hd
    clear h hP hf hk hd hSV
    have HMM := Lib.hid hm
    go_enter Tryz.func27, Tryz.ntmps27
    go_wp2_with (first
      | ((with_reducible show wpList _ _ _ (⟨some 9, _, _, _, _, _⟩ :: _) _ _); refine wpList_load_whole rfl 47 _ rfl _ rfl HB0.out.blk Tryz.underlying47 rfl HSI.out ?_)
      | (go_at_call 42; refine (HUS.out _).mono ?_; rintro e w2 ⟨rfl, hk2⟩; rw [HU.out]; have HB2 := Lib.hid (HB0.out.stay hk2); obtain ⟨s0, s1, s2, s3, s4, s5⟩ := HB2.out.step HSV.out; clear hk2)
      | (go_at_call 43; refine (HFI.out _).mono ?_; rintro e w3 ⟨rfl, hw3⟩; subst w3; rw [HF.out])
      | (go_at_call 44; refine (HRT.out _).mono ?_; rintro e w3 ⟨rfl, hw3⟩; subst w3; rw [HT.out])
      | (go_at_call 45; refine (HRK.out _ HB2.out.keep).mono ?_; rintro e w3 ⟨rfl, hw3⟩; subst w3; rw [HK.out])
      | (go_at_call 46; refine (HTW.out HK.out _ HB2.out.keep).mono ?_; rintro e w4 ⟨rfl, hk4⟩; rw [HN.out]; have HB4 := Lib.hid (HB2.out.stay hk4); obtain ⟨t0, t1, t2, t3, t4, t5⟩ := HB4.out.step HSV.out; clear hk4)
      )
    go_ret2
    unfold DoRPost
    rw [HD.out]
    exact ⟨rfl, HB4.out.keep⟩
  
  · have e3 : (s.sort == 3) = false := beq_eq_false_iff_ne.2 a3
    clear hu h3 a3 ht hkk hn
    have HSF := Lib.hid hf
    have HB0 := Lib.hid (Boxed.made w 47 (stepV s B d))
    obtain ⟨SV, hSV⟩ : ∃ SV, SV = stepV s B d := ⟨_, rfl⟩
    rw [← hSV] at HB0 ⊢
    have HSV := Lib.hid hSV
    have HSI : Hid ((Tryz.prog.info? 47).map (·.size) = some SV.length) := Lib.hid (by rw [hSV, stepV_len]; kernel_rfl)
    have HUS : Hid (∀ W, Calls Tryz.prog 42 #[.agg SV.toArray] W fun e w' => e = .returned (.bool (usedF s)) ∧ Keeps (fun _ => False) W w') := Lib.hid fun W => by rw [hSV]; exact rused_any W s B d
    have HFI : Hid (∀ W, Calls Tryz.prog 43 #[.int .u64 s.bits] W fun e w' => e = .returned (.bool (finiteF s.bits)) ∧ w' = W) := Lib.hid fun W => rfinite_any W s.bits hf.bits
    have HRT : Hid (∀ W, Calls Tryz.prog 44 #[.string s.text] W fun e w' => e = .returned (.bool (rightS s.text)) ∧ w' = W) := Lib.hid fun W => rright_any W s.text hf.text
    have HRK : Hid (∀ W, Keeps (fun _ => False) w W → Calls Tryz.prog 45 #[.slice B s.keys.length d] W fun e w' => e = .returned (.bool (s.keys.all rightS)) ∧ w' = W) := Lib.hid fun W hW =>
      rkeys_any W B _ d s.keys rfl (hk.keep hW (fun _ _ _ h => h)) (fun k hk => by have := size_le hk; have := hf.keys; omega) (by have := hf.many; omega)
    have HTW : Hid (s.keys.all rightS = true → ∀ W, Keeps (fun _ => False) w W → Calls Tryz.prog 46 #[.slice B s.keys.length d] W fun e w' => e = .returned (.bool (decide (¬ s.keys.Nodup))) ∧ Keeps (fun _ => False) W w') := Lib.hid fun hr W hW =>
      rtwice_any W B _ d s.keys rfl hd (hk.keep hW (fun _ _ _ h => h)) (by have := hf.many; omega) (fun k hk => by have := size_le hk; have := hf.keys; omega) (fun k hk => List.all_eq_true.1 hr k hk)
    have HNK := Lib.hid hf.many
    have HH := Lib.hid h
    have HPO := Lib.hid hP
    have HKR := Lib.hid hk
    have HHD := Lib.hid hd
    clear h hP hf hk hd hSV
    have HMM := Lib.hid hm
    go_enter Tryz.func27, Tryz.ntmps27
    go_wp2_with (first
      | ((with_reducible show wpList _ _ _ (⟨some 9, _, _, _, _, _⟩ :: _) _ _); refine wpList_load_whole rfl 47 _ rfl _ rfl HB0.out.blk Tryz.underlying47 rfl HSI.out ?_)
      | (go_at_call 42; refine (HUS.out _).mono ?_; rintro e w2 ⟨rfl, hk2⟩; rw [HU.out]; have HB2 := Lib.hid (HB0.out.stay hk2); obtain ⟨s0, s1, s2, s3, s4, s5⟩ := HB2.out.step HSV.out; clear hk2)
      | (go_at_call 43; refine (HFI.out _).mono ?_; rintro e w3 ⟨rfl, hw3⟩; subst w3; rw [HF.out])
      | (go_at_call 44; refine (HRT.out _).mono ?_; rintro e w3 ⟨rfl, hw3⟩; subst w3; rw [HT.out])
      | (go_at_call 45; refine (HRK.out _ HB2.out.keep).mono ?_; rintro e w3 ⟨rfl, hw3⟩; subst w3; rw [HK.out])
      | (go_at_call 46; refine (HTW.out HK.out _ HB2.out.keep).mono ?_; rintro e w4 ⟨rfl, hk4⟩; rw [HN.out]; have HB4 := Lib.hid (HB2.out.stay hk4); obtain ⟨t0, t1, t2, t3, t4, t5⟩ := HB4.out.step HSV.out; clear hk4)
      )
    go_ret2
    unfold DoRPost
    rw [HD.out]
    exact ⟨rfl, HB4.out.keep⟩
end Go.Proofs.YtdmcioghdindfaaGreat
