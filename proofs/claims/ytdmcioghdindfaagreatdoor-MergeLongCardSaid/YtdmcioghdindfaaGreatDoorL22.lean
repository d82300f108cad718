/- Texts. -/
import Derived.Test.YtdmcioghdindfaaGreatDoorL21
set_option linter.unusedSimpArgs false
set_option maxRecDepth 100000
set_option maxHeartbeats 4000000
namespace Go.Proofs.YtdmcioghdindfaaGreatDoor
open Go Go.RowKit Go.Aff Go.Json
def Dn (w0 w w5 : World) (v : Value) (i : Nat) : Prop := (Br w0 v i ∧ i < w.heap.size) ∨ w5.heap.size ≤ i
section
variable {w0 w w5 w8 : World} {A : Option Addr} {m c l n b p : Nat} {css : List (List Value)} {P : List JV} {SV VV : List Value} {A8 : Option Addr} {c8 : Nat}
theorem Dn.br (h : RowR w0 w A m c css P) (hw : w.heap.size ≤ w5.heap.size) {i : Nat} (hi : Dn w0 w w5 (.slice A m c) i) : Br w0 (.slice A m c) i := hi.elim (·.1) fun h2 => h.br_new (by omega)
theorem taken_lst (h : RowR w0 w A m c css P) (hw : Keeps (fun _ => False) w w8) : RList (Dn w0 w w5 (.slice A m c)) w8 (css.drop l) (P.drop l) :=
 (((h.lst.drop l).mono (C := fun i => Br w0 (.slice A m c) i ∧ i < w.heap.size) fun _ hi hlt => ⟨hi, hlt⟩).stay hw).mono fun _ hi _ => .inl hi
theorem rlist_end (h : RowR w0 w A m c css P) (hn : m - l = n) (hm : DoM w w8 b p SV VV) (hp : w.heap.size ≤ p) (hp5 : p < w5.heap.size) (ht : MineS 6 w5 w8 31 A8 n c8 (css.flatten.drop (l * 6))) (v : Value) :
  RAt (Br w0 (.slice A m c)) (w8.setCell ⟨p, 4, none⟩ v) [.int .i64 5, .bool false, .int .u64 0, .string .empty, .slice A8 n c8, .slice none 0 0] (.list (P.drop l)) := by
 have hln : (P.drop l).length = n := by rw [List.length_drop, h.len]; exact hn
 have hk : Keeps (fun i => i = p) w8 (w8.setCell ⟨p, 4, none⟩ v) := (Keeps.refl (fun i => i = p) w8).setCell (p := ⟨p, 4, none⟩) (.inl rfl) v
 have hlst := taken_lst (w5 := w5) (l := l) h hm.box.keep
 have hA : RdS 6 w8 A8 n ((css.drop l).flatten) := by
  rw [flat_drop6 l h.lst.six]
  exact MineS.rdS ht
 have hr : RAt (Dn w0 w w5 (.slice A m c)) w8 (refC (.list (P.drop l)) A8 c8 none 0) (.list (P.drop l)) := by
  refine RAt.of (.list (P.drop l)) hlst ?_ ?_ ⟨rfl, fun h => absurd h (Nat.lt_irrefl 0)⟩ (fun h => absurd h (Nat.lt_irrefl 0))
  ·show RdS 6 w8 A8 (P.drop l).length _
   rw [hln]; exact hA
  show InB _ A8 (P.drop l).length
  rw [hln]; exact (MineS.inB ht).mono fun i hi => .inr hi
 have hc : refC (.list (P.drop l)) A8 c8 none 0 = [.int .i64 5, .bool false, .int .u64 0, .string .empty, .slice A8 n c8, .slice none 0 0] := by
  show [Value.int .i64 5, .bool false, .int .u64 0, .string .empty, .slice A8 (P.drop l).length c8, .slice none 0 0] = _
  rw [hln]
 rw [hc] at hr
 exact (hr.keep hk (fun i hi e => by rcases hi with h1 | h1 <;> omega)).mono fun i hi _ => Dn.br h (Nat.le_trans hp (Nat.le_of_lt hp5)) hi
theorem rmade_do (h : RowR w0 w A m c css P) (hmm : m ≤ 1048576) (hl : l ≤ m) (hn : m - l = n) (hm : DoM w w8 b p SV VV) (hp : w.heap.size ≤ p) (hp5 : p < w5.heap.size) (ht : MineS 6 w5 w8 31 A8 n c8 (css.flatten.drop (l * 6)))
  (ks : List ByteArray) (hkn : ks.length = n) (B : Option Addr) (d : Nat) (hk : Rd w B n (ks.map .string)) (hnd : ks.Nodup) (hri : ∀ k ∈ ks, rightS k = true) (hby : byF ks ≤ 1099511627776) :
  Calls Tryz.prog 69 #[.slice B n d, .slice A8 n c8] w8 fun e w' => ∃ A9 x9 c9 B9 y9 d9, e = .returned (.agg #[.int .i64 6, .bool false, .int .u64 0, .string .empty, .slice A9 x9 c9, .slice B9 y9 d9]) ∧
   Hid (∀ (v0 v1 v2 v3 v4 v5 : Value), RAt (Br w0 (.slice A m c)) (sixSet w' p v0 v1 v2 v3 v4 v5) [.int .i64 6, .bool false, .int .u64 0, .string .empty, .slice A9 x9 c9, .slice B9 y9 d9] (mkObj ks (P.drop l))) ∧ Hid (Keeps (fun _ => False) w8 w') := by
 have hln : (P.drop l).length = n := by rw [List.length_drop, h.len]; exact hn
 have hA : RdS 6 w8 A8 n ((css.drop l).flatten) := by
  rw [flat_drop6 l h.lst.six]
  exact MineS.rdS ht
 refine (rmade_any w8 B n d ks hkn (hk.keep hm.box.keep (fun _ _ _ h => h)) A8 c8 (css.drop l) (P.drop l) hA (taken_lst (w5 := w5) h hm.box.keep) hln hnd hri (fun k hk => by have := size_le hk; omega) (by omega)).mono ?_
 rintro e w' ⟨v, rfl, hr, hkk⟩
 obtain ⟨A9, c9, B9, d9, cs, rfl, _⟩ := hr.form
 refine ⟨A9, _, c9, B9, _, d9, rfl, H_ fun v0 v1 v2 v3 v4 v5 => ?_, H_ hkk⟩
 have h8 := ht.2.1.size
 exact (hr.keep (six_keeps w' p v0 v1 v2 v3 v4 v5) (fun i hi e => by rcases hi with (h1 | h1) | h1 <;> omega)).mono fun i hi _ => hi.elim (fun h1 => Dn.br h (Nat.le_trans hp (Nat.le_of_lt hp5)) h1) fun h1 => h.br_new (by omega)
end
theorem rdo_num (w0 w : World) (A : Option Addr) (m c : Nat) (css : List (List Value)) (P : List JV) (h : RowR w0 w A m c css P) (hm : m ≤ 1048576) (hP : RowOk P) (s : StepV) (hf : StepFits s) (B : Option Addr) (d : Nat) (hk : Rd w B s.keys.length (s.keys.map .string)) (hd : s.keys.length ≤ d) (hu : usedF s = true) (h3 : s.sort = 3 → finiteF s.bits = true) (ht : rightS s.text = true) (hkk : s.keys.all rightS = true) (hn : s.keys.Nodup) (n : Nat) (hcn : s.count.toNat + s.keys.length = n) (hnm : n ≤ m) (hks : s.sort = 3) :
  Calls Tryz.prog 54 #[.slice A m c, .agg (stepV s B d).toArray] w (DoRPost w0 w A m c P s) := by
 have e3 : (s.sort == 3) = true := by rw [hks]; rfl
 have e5 : (s.sort == 5) = false := beq_eq_false_iff_ne.2 (by omega)
 have e6 : (s.sort == 6) = false := beq_eq_false_iff_ne.2 (by omega)
 have HF := H_ (h3 hks)
 have HKS := H_ hks
 have HNU : Hid (∀ W, Calls Tryz.prog 96 #[.int .u64 s.bits] W fun e w' => e = .returned (.agg #[.int .i64 3, .bool false, .int .u64 (numV s.bits : Nat), .string .empty, .slice none 0 0, .slice none 0 0]) ∧ Keeps (fun _ => False) W w') := H_ fun W => rnum_any W s.bits
 clear hks
 have HU := H_ hu
 have HT := H_ ht
 have HK := H_ hkk
 have HN : Hid (decide (¬ s.keys.Nodup) = false) := H_ (decide_eq_false (by simpa using hn))
 have hwr : IntKind.i64.wrap (s.count + (s.keys.length : Int)) = (n : Int) := by
  obtain ⟨_, _, _, _, _, u0⟩ := used_parts hu
  rw [IntWalk.i64_in _ (by omega)]
  omega
 have hgt : decide ((m : Int) < (n : Int)) = false := decide_eq_false (by omega)
 obtain ⟨l, hl⟩ : ∃ l, l = m - n := ⟨_, rfl⟩
 obtain ⟨L, hL⟩ : ∃ L, L = P.drop l := ⟨_, rfl⟩
 obtain ⟨j, hj⟩ : ∃ j, j = mkV s L := ⟨_, rfl⟩
 have hLn : L.length = n := by rw [hL, List.length_drop, h.len]; omega
 have HDF : Hid (doF P s = if ¬ j.within then .inl 3 else .inr (P.take l ++ [j])) := H_ (by
  rw [doF_past hu h3 ht hkk, if_neg (by simpa using hn), if_neg (by rw [h.len, hcn]; omega), h.len, hcn, ← hl, ← hL, ← hj])
 have HSJ : Hid (SmallJ j ∧ JOk j) := H_ (by
  obtain ⟨_, u2, _, _, _, _⟩ := used_parts hu
  have hq : s.sort = 6 → L.length = s.keys.length := fun e => by rw [hLn, ← hcn, u2 (by omega)]; simp
  have hLP : ∀ x ∈ L, x ∈ P := fun x hx => by rw [hL] at hx; exact List.mem_of_mem_drop hx
  rw [hj]
  exact ⟨small_mkV hf (fun x hx => (hP x (hLP x hx)).2) (by omega) hq hu, mkV_ok hu ht (fun k hk => List.all_eq_true.1 hkk k hk) hn hq (fun x hx => (hP x (hLP x hx)).1)⟩)
 have HPL : Hid ((P.take l ++ [j]).length = l + 1) := H_ (by rw [List.length_append, List.length_take, h.len]; simp; omega)
 have HLL : Hid (L = P.drop l ∧ j = mkV s L ∧ L.length = n ∧ l ≤ m ∧ m - l = n) := H_ ⟨hL, hj, hLn, by omega, by omega⟩
 have hsl : ∀ W, (Instr.sliceAt 28 (.slice A m c) (some (.int .i64 ((m : Int) - (n : Int)))) none none).run Tryz.prog W = .ok (.slice (cutS 6 A c l) n (c - l)) W := fun W => by
  have := cutS_l Tryz.underlying28 (by kernel_rfl : (Tryz.prog.info? 31).map (·.size) = some 6) A m c l ((m : Int) - (n : Int)) (by omega) (by omega) W
  rwa [show m - l = n by omega] at this
 have HS2 : Hid (∀ W, (Instr.sliceAt 28 (.slice A m c) none (some (.int .i64 (l : Int))) none).run Tryz.prog W = .ok (.slice A l c) W) := H_ fun W => by
  have hcap := MineS.cap h.own
  have := cutS_h Tryz.underlying28 (by kernel_rfl : (Tryz.prog.info? 31).map (·.size) = some 6) A m c l (l : Int) rfl (by omega) W
  rwa [cutS_zero] at this
 have HWL : Hid (IntKind.i64.wrap ((m : Int) - (n : Int)) = (l : Int)) := H_ (by rw [IntWalk.i64_in _ (by omega)]; omega)
 have HTK : Hid (∀ W, Keeps (fun _ => False) w W → RdS 6 W (cutS 6 A c l) n (css.flatten.drop (l * 6))) := H_ fun W hW => by
  have hcap := MineS.cap h.own
  have := ((MineS.rdS h.own).stay hW).cut (l := l) (c := c) (by omega) hcap
  rwa [show m - l = n by omega] at this
 have HTC : Hid (∀ u ∈ css.flatten.drop (l * 6), u.oneCell' = true) := H_ fun u hu => h.lst.cells u (List.mem_of_mem_drop hu)
 have HUU := H_ (And.intro hu (And.intro h3 (And.intro hkk hn)))
 have hnmI : (n : Int) ≤ (m : Int) := by omega
 clear hu h3 ht hkk hn hcn hl hL hj hLn
 have HSF := H_ hf
 have HB0 := H_ (Boxed.made w 65 (stepV s B d))
 obtain ⟨SV, hSV⟩ : ∃ SV, SV = stepV s B d := ⟨_, rfl⟩
 rw [← hSV] at HB0 ⊢
 have HSV := H_ hSV
 have HSI : Hid ((Tryz.prog.info? 65).map (·.size) = some SV.length) := H_ (by rw [hSV, stepV_len]; kernel_rfl)
 have HUS : Hid (∀ W, Calls Tryz.prog 91 #[.agg SV.toArray] W fun e w' => e = .returned (.bool (usedF s)) ∧ Keeps (fun _ => False) W w') := H_ fun W => by rw [hSV]; exact rused_any W s B d
 have HFI : Hid (∀ W, Calls Tryz.prog 92 #[.int .u64 s.bits] W fun e w' => e = .returned (.bool (finiteF s.bits)) ∧ w' = W) := H_ fun W => rfinite_any W s.bits hf.bits
 have HRT : Hid (∀ W, Calls Tryz.prog 93 #[.string s.text] W fun e w' => e = .returned (.bool (rightS s.text)) ∧ w' = W) := H_ fun W => rright_any W s.text hf.text
 have HRK : Hid (∀ W, Keeps (fun _ => False) w W → Calls Tryz.prog 94 #[.slice B s.keys.length d] W fun e w' => e = .returned (.bool (s.keys.all rightS)) ∧ w' = W) := H_ fun W hW =>
  rkeys_any W B _ d s.keys rfl (hk.keep hW (fun _ _ _ h => h)) (fun k hk => by have := size_le hk; have := hf.keys; omega) (by have := hf.many; omega)
 have HTW : Hid (s.keys.all rightS = true → ∀ W, Keeps (fun _ => False) w W → Calls Tryz.prog 95 #[.slice B s.keys.length d] W fun e w' => e = .returned (.bool (decide (¬ s.keys.Nodup))) ∧ Keeps (fun _ => False) W w') := H_ fun hr W hW =>
  rtwice_any W B _ d s.keys rfl hd (hk.keep hW (fun _ _ _ h => h)) (by have := hf.many; omega) (fun k hk => by have := size_le hk; have := hf.keys; omega) (fun k hk => List.all_eq_true.1 hr k hk)
 have HNK := H_ hf.many
 have HH := H_ h
 have HPO := H_ hP
 have HKR := H_ hk
 have HHD := H_ hd
 clear h hP hf hk hd hSV
 have HMM := H_ hm
 go_enter Tryz.func54, Tryz.ntmps54
 go_upto_region 13 with (first
  | (go_at_call 95; refine (HTW.out HK.out _ HB2.out.keep).mono ?_; rintro e w4 ⟨rfl, hk4⟩; rw [HN.out]; have HB4 := H_ (HB2.out.stay hk4); obtain ⟨t0, t1, t2, t3, t4, t5⟩ := HB4.out.step HSV.out; have hbz := Blk.new w4 31 [.int .i64 0, .bool false, .int .u64 0, .string .empty, .slice none 0 0, .slice none 0 0]; have f0 := hbz.frozen 0; have f1 := hbz.frozen 1; have f2 := hbz.frozen 2; have f3 := hbz.frozen 3; have f4 := hbz.frozen 4; have f5 := hbz.frozen 5; clear hk4 hbz)
  | ((with_reducible show wpList _ _ _ (⟨some 9, _, _, _, _, _⟩ :: _) _ _); refine wpList_load_whole rfl 65 _ rfl _ rfl HB0.out.blk Tryz.underlying65 rfl HSI.out ?_)
  | (go_at_call 91; refine (HUS.out _).mono ?_; rintro e w2 ⟨rfl, hk2⟩; rw [HU.out]; have HB2 := H_ (HB0.out.stay hk2); obtain ⟨s0, s1, s2, s3, s4, s5⟩ := HB2.out.step HSV.out; clear hk2)
  | (go_at_call 92; refine (HFI.out _).mono ?_; rintro e w3 ⟨rfl, hw3⟩; subst w3; rw [HF.out])
  | (go_at_call 93; refine (HRT.out _).mono ?_; rintro e w3 ⟨rfl, hw3⟩; subst w3; rw [HT.out])
  | (go_at_call 94; refine (HRK.out _ HB2.out.keep).mono ?_; rintro e w3 ⟨rfl, hw3⟩; subst w3; rw [HK.out])
  | (go_at_call 95; refine (HTW.out HK.out _ HB2.out.keep).mono ?_; rintro e w4 ⟨rfl, hk4⟩; rw [HN.out]; have HB4 := H_ (HB2.out.stay hk4); obtain ⟨t0, t1, t2, t3, t4, t5⟩ := HB4.out.step HSV.out; clear hk4)
  )
 obtain ⟨b, hb⟩ : ∃ b, b = w.heap.size := ⟨_, rfl⟩
 obtain ⟨p, hp⟩ : ∃ p, p = w4.heap.size := ⟨_, rfl⟩
 rw [← hb] at HB4 ⊢
 rw [← hp]
 refine gen_codeF (fun W => DoM w W b p SV [.int .i64 s.sort, .bool s.flag, .int .u64 0, .string s.text, .slice none 0 0, .slice none 0 0]) (by rw [hp]; exact DoM.made w HB4.out (by omega) _) ?_
 intro w5 hm5
 obtain ⟨r0, r1, r2, r3, r4, r5⟩ := hm5.box.step HSV.out
 have HM5 := H_ hm5
 clear hm5 f0 f1 f2 f3 f4 f5 t0 t1 t2 t3 t4 t5 s0 s1 s2 s3 s4 s5 HB2 HB4 hb hp HTW HRK HRT HFI HUS hwr
 go_upto_region 15 with (go_at_call 96; refine (HNU.out _).mono ?_; rintro e w6 ⟨rfl, hk6⟩; have HM6 := H_ (HM5.out.stay hk6); have hbp := HM6.out.blk; have g0 := hbp.cell 0; have g1 := hbp.cell 1; have g2 := hbp.cell 2; have g3 := hbp.cell 3; have g4 := hbp.cell 4; have g5 := hbp.cell 5; have f0 := hbp.frozen 0; have f1 := hbp.frozen 1; have f2 := hbp.frozen 2; have f3 := hbp.frozen 3; have f4 := hbp.frozen 4; have f5 := hbp.frozen 5; clear hk6 hbp)
 refine gen_codeF (fun W => DoM w W b p SV [.int .i64 3, .bool false, .int .u64 (numV s.bits : Nat), .string .empty, .slice none 0 0, .slice none 0 0]) (HM6.out.six rfl _ _ _ _ _ _) ?_
 intro w7 hm7
 have HM7 := H_ hm7
 clear hm7 f0 f1 f2 f3 f4 f5 g0 g1 g2 g3 g4 g5 r0 r1 r2 r3 r4 r5
 go_upto_region 20 with
  (at_builtin; refine wpList_append_mine w7 _ rfl (.tmp 62) (.tmp 68) 28 rfl 31 (.agg #[.int .i64 0, .bool false, .int .u64 0, .string .empty, .slice none 0 0, .slice none 0 0]) 6 88 Tryz.underlying28 infoVal rfl (by decide) rfl (MineS.none0 6 w7 w7 _ (Keeps.refl _ w7)) (cutS 6 A c l) n (c - l) (css.flatten.drop (l * 6)) rfl (HTK.out _ ((HM7.out.box.keep).alloc _)) HTC.out (by have := HMM.out; unfold maxLen; omega) (by have := HMM.out; omega) ?_; intro A8 c8 w8 ht8; rw [Nat.zero_add, List.nil_append] at ht8; rw [Nat.zero_add]; have HM8 := H_ (HM7.out.stay ht8.2.1); have HT8 := H_ ht8; obtain ⟨q0, q1, q2, q3, q4, q5⟩ := HM8.out.box.step HSV.out; clear ht8)
 obtain ⟨VV, hVV⟩ : ∃ VV, VV = [Value.int .i64 3, .bool false, .int .u64 (numV s.bits : Nat), .string .empty, .slice none 0 0, .slice none 0 0] := ⟨_, rfl⟩
 rw [← hVV] at HM8
 have HFV : Hid (RAt (Br w0 (.slice A m c)) w8 VV j) := H_ (by
  have hi := leaf_mk (s := s) L (by have := HKS.out; omega)
  have hj : mkV s L = .num (numV s.bits) := by
   unfold mkV numV
   rw [if_neg (by have := HKS.out; omega), if_neg (by have := HKS.out; omega), if_pos HKS.out]
  rw [hj] at hi
  rw [hVV, HLL.out.2.1, hj]
  exact RAt.leaf _ hi.1 hi.2)
 obtain ⟨w9, hw9⟩ : ∃ w9, w9 = w8 := ⟨_, rfl⟩
 rw [← hw9] at HM8 HFV HT8 ⊢
 have HM9 := H_ HM8.out
 clear hVV HM8 hw9
 have HSI2 : Hid ((Tryz.prog.info? 31).map (·.size) = some VV.length) := H_ (by rw [HFV.out.len]; kernel_rfl)
 have HWI : Hid (∀ W, Keeps (fun _ => False) w9 W → Calls Tryz.prog 11 #[.agg VV.toArray] W fun e w' => e = .returned (.bool (decide j.within)) ∧ Keeps (fun _ => False) W w') := H_ fun W hW => rwithin_any W VV j (HFV.out.stay hW) HSJ.out.1 HSJ.out.2
 by_cases hw : j.within
 ·have HW : Hid (decide j.within = true) := H_ (decide_eq_true hw)
  have HD : Hid (doF P s = .inr (P.take l ++ [j])) := H_ (by rw [HDF.out, if_neg (by simpa using hw)])
  have HLE : Hid (l ≤ m ∧ l ≤ 1048576) := H_ (by have := HLL.out; have := HMM.out; omega)
  clear hw HDF
  go_upto_region 22 with (first
   | ((with_reducible show wpList _ _ _ (⟨some 82, _, _, _, _, _⟩ :: _) _ _); refine wpList_load_whole rfl 31 _ rfl _ rfl HM9.out.blk Tryz.underlying31 rfl HSI2.out ?_)
   | (go_at_call 11; refine (HWI.out _ (Keeps.refl _ _)).mono ?_; rintro e w10 ⟨rfl, hk10⟩; rw [HW.out]; have HM10 := H_ (HM9.out.stay hk10); have HFV10 := H_ (HFV.out.stay hk10); clear hk10))
  have hwl := HWL.out
  have hs2 := HS2.out
  clear hsl
  refine wp_region_tail (S := Keeps (fun _ => False) w10) 8 (by kernel_rfl) (Keeps.refl _ _).drew (fun h_ => ?_)
  refine tJ 0 86 ?_
  try simp only [pu]
  refine tJ 1 87 ?_
  try simp only [pu]
  refine tT [2, 4, 5] (i := 2) (oi := ⟨some 88, _, _, _, _, _⟩) (v := ?_) rfl (Or.inl ⟨by rfl, ?_⟩) h_ ?_
  rotate_left
  ·intro w' hSw
   go_simp
   first | done | rfl
  try simp only [pu]
  refine tJ 3 89 ?_
  try simp only [pu]
  refine tJ 4 90 ?_
  try simp only [pu]
  refine tJ 5 91 ?_
  try simp only [pu]
  refine tT [6, 7] (i := 6) (oi := ⟨some 92, _, _, _, _, _⟩) (v := _) rfl (yieldsIf_load_mid (by rfl) _ _ rfl _ _ rfl VV _ (fun w' h => blk_range ((HM10.out.stay h).blk)) Tryz.underlying31 rfl HSI2.out) h_ ?_
  try simp only [pu]
  refine wpAnyT_step (i := 7) (o := ⟨some 93, _, _, _, _, _⟩) (by kernel_rfl) rfl (fun K hK => ?_)
  refine step_box_S rfl 28 31 (.tmp 92) rfl (.agg #[.int .i64 0, .bool false, .int .u64 0, .string .empty, .slice none 0 0, .slice none 0 0]) 6 Tryz.underlying28 infoVal2 (by decide) (by decide) VV HFV.out.len rfl ?_
  refine hK.out _ _ (h_.alloc _) (fun h_ => ?_)
  clear hK K
  try simp only [pu]
  refine wpAnyT_tail (i := 8) (o := ⟨some 94, _, _, _, _, _⟩) (by kernel_rfl) (by kernel_rfl) rfl (fun K hK => ?_)
  refine step_append_own rfl (.tmp 91) (.tmp 93) 28 rfl 31 (.agg #[.int .i64 0, .bool false, .int .u64 0, .string .empty, .slice none 0 0, .slice none 0 0]) 6 88 Tryz.underlying28 infoVal rfl (by decide) A l c _ rfl ((HH.out.stay (HM10.out.box.keep.trans h_ (fun _ _ h => h))).own.short HLE.out.1).1 ⟨w10.drew.heap.size, 0, none⟩ 1 1 VV rfl (by rw [HFV.out.len]) (fun j u hu => by rw [add_at, Nat.zero_add]; exact ((Blk.new _ _ _).cell j).trans hu) HFV.out.one (by have := HLE.out; simp only [maxLen]; omega) (by have := HLE.out; omega) ?_
  intro A12 c12 w12 hown12 hg12 hb12
  have HEND := H_ ((HH.out.stay HM10.out.box.keep).grouped HLE.out.1 HFV10.out h_ hown12 hg12 hb12)
  refine hK.out _ _ ?_
  clear hK K
  try simp only [pu]
  refine wpAnyT_tail (i := 9) (o := ⟨some 4, _, _, _, _, _⟩) (by kernel_rfl) (by kernel_rfl) rfl (fun K hK => ?_)
  go_simp
  refine hK.out _ _ ?_
  clear hK K
  try simp only [pu]
  refine wpAnyT_tail (i := 10) (o := ⟨some 5, _, _, _, _, _⟩) (by kernel_rfl) (by kernel_rfl) rfl (fun K hK => ?_)
  go_simp
  refine hK.out _ _ ?_
  clear hK K
  try simp only [pu]
  refine wpAnyT_done (by kernel_rfl) ?_
  clear hwl hs2
  go_wp2
  go_ret2
  unfold DoRPost
  rw [HD.out]
  exact ⟨A12, c12, _, by rw [HPL.out]; rfl, by rw [HPL.out]; exact HEND.out⟩
 have HW : Hid (decide j.within = false) := H_ (decide_eq_false hw)
 have HD : Hid (doF P s = .inl 3) := H_ (by rw [HDF.out, if_pos (by simpa using hw)])
 clear hw HDF
 go_wp2_with (first
  | ((with_reducible show wpList _ _ _ (⟨some 82, _, _, _, _, _⟩ :: _) _ _); refine wpList_load_whole rfl 31 _ rfl _ rfl HM9.out.blk Tryz.underlying31 rfl HSI2.out ?_)
  | (go_at_call 11; refine (HWI.out _ (Keeps.refl _ _)).mono ?_; rintro e w10 ⟨rfl, hk10⟩; rw [HW.out]; have HM10 := H_ (HM9.out.stay hk10); clear hk10))
 go_ret2
 unfold DoRPost
 rw [HD.out]
 exact ⟨rfl, HM10.out.box.keep⟩
theorem rdo_list (w0 w : World) (A : Option Addr) (m c : Nat) (css : List (List Value)) (P : List JV) (h : RowR w0 w A m c css P) (hm : m ≤ 1048576) (hP : RowOk P) (s : StepV) (hf : StepFits s) (B : Option Addr) (d : Nat) (hk : Rd w B s.keys.length (s.keys.map .string)) (hd : s.keys.length ≤ d) (hu : usedF s = true) (h3 : s.sort = 3 → finiteF s.bits = true) (ht : rightS s.text = true) (hkk : s.keys.all rightS = true) (hn : s.keys.Nodup) (n : Nat) (hcn : s.count.toNat + s.keys.length = n) (hnm : n ≤ m) (hks : s.sort = 5) :
  Calls Tryz.prog 54 #[.slice A m c, .agg (stepV s B d).toArray] w (DoRPost w0 w A m c P s) := by
 have e3 : (s.sort == 3) = false := beq_eq_false_iff_ne.2 (by omega)
 have e5 : (s.sort == 5) = true := by rw [hks]; rfl
 have e6 : (s.sort == 6) = false := beq_eq_false_iff_ne.2 (by omega)
 have HKS := H_ hks
 clear hks
 have HU := H_ hu
 have HT := H_ ht
 have HK := H_ hkk
 have HN : Hid (decide (¬ s.keys.Nodup) = false) := H_ (decide_eq_false (by simpa using hn))
 have hwr : IntKind.i64.wrap (s.count + (s.keys.length : Int)) = (n : Int) := by
  obtain ⟨_, _, _, _, _, u0⟩ := used_parts hu
  rw [IntWalk.i64_in _ (by omega)]
  omega
 have hgt : decide ((m : Int) < (n : Int)) = false := decide_eq_false (by omega)
 obtain ⟨l, hl⟩ : ∃ l, l = m - n := ⟨_, rfl⟩
 obtain ⟨L, hL⟩ : ∃ L, L = P.drop l := ⟨_, rfl⟩
 obtain ⟨j, hj⟩ : ∃ j, j = mkV s L := ⟨_, rfl⟩
 have hLn : L.length = n := by rw [hL, List.length_drop, h.len]; omega
 have HDF : Hid (doF P s = if ¬ j.within then .inl 3 else .inr (P.take l ++ [j])) := H_ (by
  rw [doF_past hu h3 ht hkk, if_neg (by simpa using hn), if_neg (by rw [h.len, hcn]; omega), h.len, hcn, ← hl, ← hL, ← hj])
 have HSJ : Hid (SmallJ j ∧ JOk j) := H_ (by
  obtain ⟨_, u2, _, _, _, _⟩ := used_parts hu
  have hq : s.sort = 6 → L.length = s.keys.length := fun e => by rw [hLn, ← hcn, u2 (by omega)]; simp
  have hLP : ∀ x ∈ L, x ∈ P := fun x hx => by rw [hL] at hx; exact List.mem_of_mem_drop hx
  rw [hj]
  exact ⟨small_mkV hf (fun x hx => (hP x (hLP x hx)).2) (by omega) hq hu, mkV_ok hu ht (fun k hk => List.all_eq_true.1 hkk k hk) hn hq (fun x hx => (hP x (hLP x hx)).1)⟩)
 have HPL : Hid ((P.take l ++ [j]).length = l + 1) := H_ (by rw [List.length_append, List.length_take, h.len]; simp; omega)
 have HLL : Hid (L = P.drop l ∧ j = mkV s L ∧ L.length = n ∧ l ≤ m ∧ m - l = n) := H_ ⟨hL, hj, hLn, by omega, by omega⟩
 have hsl : ∀ W, (Instr.sliceAt 28 (.slice A m c) (some (.int .i64 ((m : Int) - (n : Int)))) none none).run Tryz.prog W = .ok (.slice (cutS 6 A c l) n (c - l)) W := fun W => by
  have := cutS_l Tryz.underlying28 (by kernel_rfl : (Tryz.prog.info? 31).map (·.size) = some 6) A m c l ((m : Int) - (n : Int)) (by omega) (by omega) W
  rwa [show m - l = n by omega] at this
 have HS2 : Hid (∀ W, (Instr.sliceAt 28 (.slice A m c) none (some (.int .i64 (l : Int))) none).run Tryz.prog W = .ok (.slice A l c) W) := H_ fun W => by
  have hcap := MineS.cap h.own
  have := cutS_h Tryz.underlying28 (by kernel_rfl : (Tryz.prog.info? 31).map (·.size) = some 6) A m c l (l : Int) rfl (by omega) W
  rwa [cutS_zero] at this
 have HWL : Hid (IntKind.i64.wrap ((m : Int) - (n : Int)) = (l : Int)) := H_ (by rw [IntWalk.i64_in _ (by omega)]; omega)
 have HTK : Hid (∀ W, Keeps (fun _ => False) w W → RdS 6 W (cutS 6 A c l) n (css.flatten.drop (l * 6))) := H_ fun W hW => by
  have hcap := MineS.cap h.own
  have := ((MineS.rdS h.own).stay hW).cut (l := l) (c := c) (by omega) hcap
  rwa [show m - l = n by omega] at this
 have HTC : Hid (∀ u ∈ css.flatten.drop (l * 6), u.oneCell' = true) := H_ fun u hu => h.lst.cells u (List.mem_of_mem_drop hu)
 have HUU := H_ (And.intro hu (And.intro h3 (And.intro hkk hn)))
 have hnmI : (n : Int) ≤ (m : Int) := by omega
 clear hu h3 ht hkk hn hcn hl hL hj hLn
 have HSF := H_ hf
 have HB0 := H_ (Boxed.made w 65 (stepV s B d))
 obtain ⟨SV, hSV⟩ : ∃ SV, SV = stepV s B d := ⟨_, rfl⟩
 rw [← hSV] at HB0 ⊢
 have HSV := H_ hSV
 have HSI : Hid ((Tryz.prog.info? 65).map (·.size) = some SV.length) := H_ (by rw [hSV, stepV_len]; kernel_rfl)
 have HUS : Hid (∀ W, Calls Tryz.prog 91 #[.agg SV.toArray] W fun e w' => e = .returned (.bool (usedF s)) ∧ Keeps (fun _ => False) W w') := H_ fun W => by rw [hSV]; exact rused_any W s B d
 have HFI : Hid (∀ W, Calls Tryz.prog 92 #[.int .u64 s.bits] W fun e w' => e = .returned (.bool (finiteF s.bits)) ∧ w' = W) := H_ fun W => rfinite_any W s.bits hf.bits
 have HRT : Hid (∀ W, Calls Tryz.prog 93 #[.string s.text] W fun e w' => e = .returned (.bool (rightS s.text)) ∧ w' = W) := H_ fun W => rright_any W s.text hf.text
 have HRK : Hid (∀ W, Keeps (fun _ => False) w W → Calls Tryz.prog 94 #[.slice B s.keys.length d] W fun e w' => e = .returned (.bool (s.keys.all rightS)) ∧ w' = W) := H_ fun W hW =>
  rkeys_any W B _ d s.keys rfl (hk.keep hW (fun _ _ _ h => h)) (fun k hk => by have := size_le hk; have := hf.keys; omega) (by have := hf.many; omega)
 have HTW : Hid (s.keys.all rightS = true → ∀ W, Keeps (fun _ => False) w W → Calls Tryz.prog 95 #[.slice B s.keys.length d] W fun e w' => e = .returned (.bool (decide (¬ s.keys.Nodup))) ∧ Keeps (fun _ => False) W w') := H_ fun hr W hW =>
  rtwice_any W B _ d s.keys rfl hd (hk.keep hW (fun _ _ _ h => h)) (by have := hf.many; omega) (fun k hk => by have := size_le hk; have := hf.keys; omega) (fun k hk => List.all_eq_true.1 hr k hk)
 have HNK := H_ hf.many
 have HH := H_ h
 have HPO := H_ hP
 have HKR := H_ hk
 have HHD := H_ hd
 clear h hP hf hk hd hSV
 have HMM := H_ hm
 go_enter Tryz.func54, Tryz.ntmps54
 go_upto_region 13 with (first
  | (go_at_call 95; refine (HTW.out HK.out _ HB2.out.keep).mono ?_; rintro e w4 ⟨rfl, hk4⟩; rw [HN.out]; have HB4 := H_ (HB2.out.stay hk4); obtain ⟨t0, t1, t2, t3, t4, t5⟩ := HB4.out.step HSV.out; have hbz := Blk.new w4 31 [.int .i64 0, .bool false, .int .u64 0, .string .empty, .slice none 0 0, .slice none 0 0]; have f0 := hbz.frozen 0; have f1 := hbz.frozen 1; have f2 := hbz.frozen 2; have f3 := hbz.frozen 3; have f4 := hbz.frozen 4; have f5 := hbz.frozen 5; clear hk4 hbz)
  | ((with_reducible show wpList _ _ _ (⟨some 9, _, _, _, _, _⟩ :: _) _ _); refine wpList_load_whole rfl 65 _ rfl _ rfl HB0.out.blk Tryz.underlying65 rfl HSI.out ?_)
  | (go_at_call 91; refine (HUS.out _).mono ?_; rintro e w2 ⟨rfl, hk2⟩; rw [HU.out]; have HB2 := H_ (HB0.out.stay hk2); obtain ⟨s0, s1, s2, s3, s4, s5⟩ := HB2.out.step HSV.out; clear hk2)
  | (go_at_call 92; refine (HFI.out _).mono ?_; rintro e w3 ⟨rfl, hw3⟩; subst w3; rw [HF.out])
  | (go_at_call 93; refine (HRT.out _).mono ?_; rintro e w3 ⟨rfl, hw3⟩; subst w3; rw [HT.out])
  | (go_at_call 94; refine (HRK.out _ HB2.out.keep).mono ?_; rintro e w3 ⟨rfl, hw3⟩; subst w3; rw [HK.out])
  | (go_at_call 95; refine (HTW.out HK.out _ HB2.out.keep).mono ?_; rintro e w4 ⟨rfl, hk4⟩; rw [HN.out]; have HB4 := H_ (HB2.out.stay hk4); obtain ⟨t0, t1, t2, t3, t4, t5⟩ := HB4.out.step HSV.out; clear hk4)
  )
 obtain ⟨b, hb⟩ : ∃ b, b = w.heap.size := ⟨_, rfl⟩
 obtain ⟨p, hp⟩ : ∃ p, p = w4.heap.size := ⟨_, rfl⟩
 rw [← hb] at HB4 ⊢
 rw [← hp]
 refine gen_codeF (fun W => DoM w W b p SV [.int .i64 s.sort, .bool s.flag, .int .u64 0, .string s.text, .slice none 0 0, .slice none 0 0]) (by rw [hp]; exact DoM.made w HB4.out (by omega) _) ?_
 intro w5 hm5
 obtain ⟨r0, r1, r2, r3, r4, r5⟩ := hm5.box.step HSV.out
 have HM5 := H_ hm5
 clear hm5 f0 f1 f2 f3 f4 f5 t0 t1 t2 t3 t4 t5 s0 s1 s2 s3 s4 s5 HB2 HB4 hb hp HTW HRK HRT HFI HUS hwr
 have HPW : Hid (w.heap.size ≤ p ∧ p < w5.heap.size) := H_ ⟨Nat.le_trans HM5.out.lo (Nat.le_of_lt HM5.out.lt), HM5.out.blk.lt⟩
 go_upto_region 18 with
  (at_builtin; refine wpList_append_mine w5 _ rfl (.tmp 62) (.tmp 68) 28 rfl 31 (.agg #[.int .i64 0, .bool false, .int .u64 0, .string .empty, .slice none 0 0, .slice none 0 0]) 6 88 Tryz.underlying28 infoVal rfl (by decide) rfl (MineS.none0 6 w5 w5 _ (Keeps.refl _ w5)) (cutS 6 A c l) n (c - l) (css.flatten.drop (l * 6)) rfl (HTK.out _ ((HM5.out.box.keep).alloc _)) HTC.out (by have := HMM.out; unfold maxLen; omega) (by have := HMM.out; omega) ?_; intro A8 c8 w8 ht8; rw [Nat.zero_add, List.nil_append] at ht8; rw [Nat.zero_add]; have HM8 := H_ (HM5.out.stay ht8.2.1); have HT8 := H_ ht8; obtain ⟨q0, q1, q2, q3, q4, q5⟩ := HM8.out.box.step HSV.out; have cP := HM8.out.blk.cell 4; have fP := HM8.out.blk.frozen 4; clear ht8)
 have HFL : Hid (s.flag = false ∧ s.text = .empty) := H_ ⟨flag_used HU.out (by have := HKS.out; omega), text_empty ((used_parts HU.out).1 (by have := HKS.out; omega))⟩
 refine gen_codeF (fun W => DoM w W b p SV [.int .i64 5, .bool false, .int .u64 0, .string .empty, .slice A8 n c8, .slice none 0 0] ∧ RAt (Br w0 (.slice A m c)) W [.int .i64 5, .bool false, .int .u64 0, .string .empty, .slice A8 n c8, .slice none 0 0] j) ⟨by
   have := HM8.out.set 4 (.slice A8 n c8)
   rw [HFL.out.1, HFL.out.2, HKS.out] at this
   exact this, by
   have hj : j = .list (P.drop l) := by rw [HLL.out.2.1, HLL.out.1]; simp [mkV, HKS.out]
   rw [hj]
   exact rlist_end HH.out HLL.out.2.2.2.2 HM8.out HPW.out.1 HPW.out.2 HT8.out _⟩ ?_
 rintro w9 ⟨hm9, hfv⟩
 obtain ⟨x0, x1, x2, x3, x4, x5⟩ := hm9.box.step HSV.out
 have HM9' := H_ hm9
 have HFV' := H_ hfv
 clear hm9 hfv cP fP q0 q1 q2 q3 q4 q5 r0 r1 r2 r3 r4 r5
 go_upto_region 20 with fail
 obtain ⟨VV, hVV⟩ : ∃ VV, VV = [Value.int .i64 5, .bool false, .int .u64 0, .string .empty, .slice A8 n c8, .slice none 0 0] := ⟨_, rfl⟩
 have HM9 : Hid (DoM w w9 b p SV VV) := H_ (by rw [hVV]; exact HM9'.out)
 have HFV : Hid (RAt (Br w0 (.slice A m c)) w9 VV j) := H_ (by rw [hVV]; exact HFV'.out)
 clear hVV HM9' HFV'
 have HSI2 : Hid ((Tryz.prog.info? 31).map (·.size) = some VV.length) := H_ (by rw [HFV.out.len]; kernel_rfl)
 have HWI : Hid (∀ W, Keeps (fun _ => False) w9 W → Calls Tryz.prog 11 #[.agg VV.toArray] W fun e w' => e = .returned (.bool (decide j.within)) ∧ Keeps (fun _ => False) W w') := H_ fun W hW => rwithin_any W VV j (HFV.out.stay hW) HSJ.out.1 HSJ.out.2
 by_cases hw : j.within
 ·have HW : Hid (decide j.within = true) := H_ (decide_eq_true hw)
  have HD : Hid (doF P s = .inr (P.take l ++ [j])) := H_ (by rw [HDF.out, if_neg (by simpa using hw)])
  have HLE : Hid (l ≤ m ∧ l ≤ 1048576) := H_ (by have := HLL.out; have := HMM.out; omega)
  clear hw HDF
  go_upto_region 22 with (first
   | ((with_reducible show wpList _ _ _ (⟨some 82, _, _, _, _, _⟩ :: _) _ _); refine wpList_load_whole rfl 31 _ rfl _ rfl HM9.out.blk Tryz.underlying31 rfl HSI2.out ?_)
   | (go_at_call 11; refine (HWI.out _ (Keeps.refl _ _)).mono ?_; rintro e w10 ⟨rfl, hk10⟩; rw [HW.out]; have HM10 := H_ (HM9.out.stay hk10); have HFV10 := H_ (HFV.out.stay hk10); clear hk10))
  have hwl := HWL.out
  have hs2 := HS2.out
  clear hsl
  refine wp_region_tail (S := Keeps (fun _ => False) w10) 8 (by kernel_rfl) (Keeps.refl _ _).drew (fun h_ => ?_)
  refine tJ 0 86 ?_
  try simp only [pu]
  refine tJ 1 87 ?_
  try simp only [pu]
  refine tT [2, 4, 5] (i := 2) (oi := ⟨some 88, _, _, _, _, _⟩) (v := ?_) rfl (Or.inl ⟨by rfl, ?_⟩) h_ ?_
  rotate_left
  ·intro w' hSw
   go_simp
   first | done | rfl
  try simp only [pu]
  refine tJ 3 89 ?_
  try simp only [pu]
  refine tJ 4 90 ?_
  try simp only [pu]
  refine tJ 5 91 ?_
  try simp only [pu]
  refine tT [6, 7] (i := 6) (oi := ⟨some 92, _, _, _, _, _⟩) (v := _) rfl (yieldsIf_load_mid (by rfl) _ _ rfl _ _ rfl VV _ (fun w' h => blk_range ((HM10.out.stay h).blk)) Tryz.underlying31 rfl HSI2.out) h_ ?_
  try simp only [pu]
  refine wpAnyT_step (i := 7) (o := ⟨some 93, _, _, _, _, _⟩) (by kernel_rfl) rfl (fun K hK => ?_)
  refine step_box_S rfl 28 31 (.tmp 92) rfl (.agg #[.int .i64 0, .bool false, .int .u64 0, .string .empty, .slice none 0 0, .slice none 0 0]) 6 Tryz.underlying28 infoVal2 (by decide) (by decide) VV HFV.out.len rfl ?_
  refine hK.out _ _ (h_.alloc _) (fun h_ => ?_)
  clear hK K
  try simp only [pu]
  refine wpAnyT_tail (i := 8) (o := ⟨some 94, _, _, _, _, _⟩) (by kernel_rfl) (by kernel_rfl) rfl (fun K hK => ?_)
  refine step_append_own rfl (.tmp 91) (.tmp 93) 28 rfl 31 (.agg #[.int .i64 0, .bool false, .int .u64 0, .string .empty, .slice none 0 0, .slice none 0 0]) 6 88 Tryz.underlying28 infoVal rfl (by decide) A l c _ rfl ((HH.out.stay (HM10.out.box.keep.trans h_ (fun _ _ h => h))).own.short HLE.out.1).1 ⟨w10.drew.heap.size, 0, none⟩ 1 1 VV rfl (by rw [HFV.out.len]) (fun j u hu => by rw [add_at, Nat.zero_add]; exact ((Blk.new _ _ _).cell j).trans hu) HFV.out.one (by have := HLE.out; simp only [maxLen]; omega) (by have := HLE.out; omega) ?_
  intro A12 c12 w12 hown12 hg12 hb12
  have HEND := H_ ((HH.out.stay HM10.out.box.keep).grouped HLE.out.1 HFV10.out h_ hown12 hg12 hb12)
  refine hK.out _ _ ?_
  clear hK K
  try simp only [pu]
  refine wpAnyT_tail (i := 9) (o := ⟨some 4, _, _, _, _, _⟩) (by kernel_rfl) (by kernel_rfl) rfl (fun K hK => ?_)
  go_simp
  refine hK.out _ _ ?_
  clear hK K
  try simp only [pu]
  refine wpAnyT_tail (i := 10) (o := ⟨some 5, _, _, _, _, _⟩) (by kernel_rfl) (by kernel_rfl) rfl (fun K hK => ?_)
  go_simp
  refine hK.out _ _ ?_
  clear hK K
  try simp only [pu]
  refine wpAnyT_done (by kernel_rfl) ?_
  clear hwl hs2
  go_wp2
  go_ret2
  unfold DoRPost
  rw [HD.out]
  exact ⟨A12, c12, _, by rw [HPL.out]; rfl, by rw [HPL.out]; exact HEND.out⟩
 have HW : Hid (decide j.within = false) := H_ (decide_eq_false hw)
 have HD : Hid (doF P s = .inl 3) := H_ (by rw [HDF.out, if_pos (by simpa using hw)])
 clear hw HDF
 go_wp2_with (first
  | ((with_reducible show wpList _ _ _ (⟨some 82, _, _, _, _, _⟩ :: _) _ _); refine wpList_load_whole rfl 31 _ rfl _ rfl HM9.out.blk Tryz.underlying31 rfl HSI2.out ?_)
  | (go_at_call 11; refine (HWI.out _ (Keeps.refl _ _)).mono ?_; rintro e w10 ⟨rfl, hk10⟩; rw [HW.out]; have HM10 := H_ (HM9.out.stay hk10); clear hk10))
 go_ret2
 unfold DoRPost
 rw [HD.out]
 exact ⟨rfl, HM10.out.box.keep⟩
theorem rdo_obj (w0 w : World) (A : Option Addr) (m c : Nat) (css : List (List Value)) (P : List JV) (h : RowR w0 w A m c css P) (hm : m ≤ 1048576) (hP : RowOk P) (s : StepV) (hf : StepFits s) (B : Option Addr) (d : Nat) (hk : Rd w B s.keys.length (s.keys.map .string)) (hd : s.keys.length ≤ d) (hu : usedF s = true) (h3 : s.sort = 3 → finiteF s.bits = true) (ht : rightS s.text = true) (hkk : s.keys.all rightS = true) (hn : s.keys.Nodup) (n : Nat) (hcn : s.count.toNat + s.keys.length = n) (hnm : n ≤ m) (hks : s.sort = 6) :
  Calls Tryz.prog 54 #[.slice A m c, .agg (stepV s B d).toArray] w (DoRPost w0 w A m c P s) := by
 have e3 : (s.sort == 3) = false := beq_eq_false_iff_ne.2 (by omega)
 have e5 : (s.sort == 5) = false := beq_eq_false_iff_ne.2 (by omega)
 have e6 : (s.sort == 6) = true := by rw [hks]; rfl
 have HKS := H_ hks
 have HKN : Hid (s.keys.length = n) := H_ (by rw [← hcn, (used_parts hu).2.1 (by omega)]; simp)
 clear hks
 have HU := H_ hu
 have HT := H_ ht
 have HK := H_ hkk
 have HN : Hid (decide (¬ s.keys.Nodup) = false) := H_ (decide_eq_false (by simpa using hn))
 have hwr : IntKind.i64.wrap (s.count + (s.keys.length : Int)) = (n : Int) := by
  obtain ⟨_, _, _, _, _, u0⟩ := used_parts hu
  rw [IntWalk.i64_in _ (by omega)]
  omega
 have hgt : decide ((m : Int) < (n : Int)) = false := decide_eq_false (by omega)
 obtain ⟨l, hl⟩ : ∃ l, l = m - n := ⟨_, rfl⟩
 obtain ⟨L, hL⟩ : ∃ L, L = P.drop l := ⟨_, rfl⟩
 obtain ⟨j, hj⟩ : ∃ j, j = mkV s L := ⟨_, rfl⟩
 have hLn : L.length = n := by rw [hL, List.length_drop, h.len]; omega
 have HDF : Hid (doF P s = if ¬ j.within then .inl 3 else .inr (P.take l ++ [j])) := H_ (by
  rw [doF_past hu h3 ht hkk, if_neg (by simpa using hn), if_neg (by rw [h.len, hcn]; omega), h.len, hcn, ← hl, ← hL, ← hj])
 have HSJ : Hid (SmallJ j ∧ JOk j) := H_ (by
  obtain ⟨_, u2, _, _, _, _⟩ := used_parts hu
  have hq : s.sort = 6 → L.length = s.keys.length := fun e => by rw [hLn, ← hcn, u2 (by omega)]; simp
  have hLP : ∀ x ∈ L, x ∈ P := fun x hx => by rw [hL] at hx; exact List.mem_of_mem_drop hx
  rw [hj]
  exact ⟨small_mkV hf (fun x hx => (hP x (hLP x hx)).2) (by omega) hq hu, mkV_ok hu ht (fun k hk => List.all_eq_true.1 hkk k hk) hn hq (fun x hx => (hP x (hLP x hx)).1)⟩)
 have HPL : Hid ((P.take l ++ [j]).length = l + 1) := H_ (by rw [List.length_append, List.length_take, h.len]; simp; omega)
 have HLL : Hid (L = P.drop l ∧ j = mkV s L ∧ L.length = n ∧ l ≤ m ∧ m - l = n) := H_ ⟨hL, hj, hLn, by omega, by omega⟩
 have hsl : ∀ W, (Instr.sliceAt 28 (.slice A m c) (some (.int .i64 ((m : Int) - (n : Int)))) none none).run Tryz.prog W = .ok (.slice (cutS 6 A c l) n (c - l)) W := fun W => by
  have := cutS_l Tryz.underlying28 (by kernel_rfl : (Tryz.prog.info? 31).map (·.size) = some 6) A m c l ((m : Int) - (n : Int)) (by omega) (by omega) W
  rwa [show m - l = n by omega] at this
 have HS2 : Hid (∀ W, (Instr.sliceAt 28 (.slice A m c) none (some (.int .i64 (l : Int))) none).run Tryz.prog W = .ok (.slice A l c) W) := H_ fun W => by
  have hcap := MineS.cap h.own
  have := cutS_h Tryz.underlying28 (by kernel_rfl : (Tryz.prog.info? 31).map (·.size) = some 6) A m c l (l : Int) rfl (by omega) W
  rwa [cutS_zero] at this
 have HWL : Hid (IntKind.i64.wrap ((m : Int) - (n : Int)) = (l : Int)) := H_ (by rw [IntWalk.i64_in _ (by omega)]; omega)
 have HTK : Hid (∀ W, Keeps (fun _ => False) w W → RdS 6 W (cutS 6 A c l) n (css.flatten.drop (l * 6))) := H_ fun W hW => by
  have hcap := MineS.cap h.own
  have := ((MineS.rdS h.own).stay hW).cut (l := l) (c := c) (by omega) hcap
  rwa [show m - l = n by omega] at this
 have HTC : Hid (∀ u ∈ css.flatten.drop (l * 6), u.oneCell' = true) := H_ fun u hu => h.lst.cells u (List.mem_of_mem_drop hu)
 have HUU := H_ (And.intro hu (And.intro h3 (And.intro hkk hn)))
 have hnmI : (n : Int) ≤ (m : Int) := by omega
 clear hu h3 ht hkk hn hcn hl hL hj hLn
 have HSF := H_ hf
 have HB0 := H_ (Boxed.made w 65 (stepV s B d))
 obtain ⟨SV, hSV⟩ : ∃ SV, SV = stepV s B d := ⟨_, rfl⟩
 rw [← hSV] at HB0 ⊢
 have HSV := H_ hSV
 have HSI : Hid ((Tryz.prog.info? 65).map (·.size) = some SV.length) := H_ (by rw [hSV, stepV_len]; kernel_rfl)
 have HUS : Hid (∀ W, Calls Tryz.prog 91 #[.agg SV.toArray] W fun e w' => e = .returned (.bool (usedF s)) ∧ Keeps (fun _ => False) W w') := H_ fun W => by rw [hSV]; exact rused_any W s B d
 have HFI : Hid (∀ W, Calls Tryz.prog 92 #[.int .u64 s.bits] W fun e w' => e = .returned (.bool (finiteF s.bits)) ∧ w' = W) := H_ fun W => rfinite_any W s.bits hf.bits
 have HRT : Hid (∀ W, Calls Tryz.prog 93 #[.string s.text] W fun e w' => e = .returned (.bool (rightS s.text)) ∧ w' = W) := H_ fun W => rright_any W s.text hf.text
 have HRK : Hid (∀ W, Keeps (fun _ => False) w W → Calls Tryz.prog 94 #[.slice B s.keys.length d] W fun e w' => e = .returned (.bool (s.keys.all rightS)) ∧ w' = W) := H_ fun W hW =>
  rkeys_any W B _ d s.keys rfl (hk.keep hW (fun _ _ _ h => h)) (fun k hk => by have := size_le hk; have := hf.keys; omega) (by have := hf.many; omega)
 have HTW : Hid (s.keys.all rightS = true → ∀ W, Keeps (fun _ => False) w W → Calls Tryz.prog 95 #[.slice B s.keys.length d] W fun e w' => e = .returned (.bool (decide (¬ s.keys.Nodup))) ∧ Keeps (fun _ => False) W w') := H_ fun hr W hW =>
  rtwice_any W B _ d s.keys rfl hd (hk.keep hW (fun _ _ _ h => h)) (by have := hf.many; omega) (fun k hk => by have := size_le hk; have := hf.keys; omega) (fun k hk => List.all_eq_true.1 hr k hk)
 have HNK := H_ hf.many
 have HH := H_ h
 have HPO := H_ hP
 have HKR := H_ hk
 have HHD := H_ hd
 clear h hP hf hk hd hSV
 have HMM := H_ hm
 go_enter Tryz.func54, Tryz.ntmps54
 go_upto_region 13 with (first
  | (go_at_call 95; refine (HTW.out HK.out _ HB2.out.keep).mono ?_; rintro e w4 ⟨rfl, hk4⟩; rw [HN.out]; have HB4 := H_ (HB2.out.stay hk4); obtain ⟨t0, t1, t2, t3, t4, t5⟩ := HB4.out.step HSV.out; have hbz := Blk.new w4 31 [.int .i64 0, .bool false, .int .u64 0, .string .empty, .slice none 0 0, .slice none 0 0]; have f0 := hbz.frozen 0; have f1 := hbz.frozen 1; have f2 := hbz.frozen 2; have f3 := hbz.frozen 3; have f4 := hbz.frozen 4; have f5 := hbz.frozen 5; clear hk4 hbz)
  | ((with_reducible show wpList _ _ _ (⟨some 9, _, _, _, _, _⟩ :: _) _ _); refine wpList_load_whole rfl 65 _ rfl _ rfl HB0.out.blk Tryz.underlying65 rfl HSI.out ?_)
  | (go_at_call 91; refine (HUS.out _).mono ?_; rintro e w2 ⟨rfl, hk2⟩; rw [HU.out]; have HB2 := H_ (HB0.out.stay hk2); obtain ⟨s0, s1, s2, s3, s4, s5⟩ := HB2.out.step HSV.out; clear hk2)
  | (go_at_call 92; refine (HFI.out _).mono ?_; rintro e w3 ⟨rfl, hw3⟩; subst w3; rw [HF.out])
  | (go_at_call 93; refine (HRT.out _).mono ?_; rintro e w3 ⟨rfl, hw3⟩; subst w3; rw [HT.out])
  | (go_at_call 94; refine (HRK.out _ HB2.out.keep).mono ?_; rintro e w3 ⟨rfl, hw3⟩; subst w3; rw [HK.out])
  | (go_at_call 95; refine (HTW.out HK.out _ HB2.out.keep).mono ?_; rintro e w4 ⟨rfl, hk4⟩; rw [HN.out]; have HB4 := H_ (HB2.out.stay hk4); obtain ⟨t0, t1, t2, t3, t4, t5⟩ := HB4.out.step HSV.out; clear hk4)
  )
 obtain ⟨b, hb⟩ : ∃ b, b = w.heap.size := ⟨_, rfl⟩
 obtain ⟨p, hp⟩ : ∃ p, p = w4.heap.size := ⟨_, rfl⟩
 rw [← hb] at HB4 ⊢
 rw [← hp]
 refine gen_codeF (fun W => DoM w W b p SV [.int .i64 s.sort, .bool s.flag, .int .u64 0, .string s.text, .slice none 0 0, .slice none 0 0]) (by rw [hp]; exact DoM.made w HB4.out (by omega) _) ?_
 intro w5 hm5
 obtain ⟨r0, r1, r2, r3, r4, r5⟩ := hm5.box.step HSV.out
 have HM5 := H_ hm5
 clear hm5 f0 f1 f2 f3 f4 f5 t0 t1 t2 t3 t4 t5 s0 s1 s2 s3 s4 s5 HB2 HB4 hb hp HTW HRK HRT HFI HUS hwr
 have HPW : Hid (w.heap.size ≤ p ∧ p < w5.heap.size) := H_ ⟨Nat.le_trans HM5.out.lo (Nat.le_of_lt HM5.out.lt), HM5.out.blk.lt⟩
 have HMD : Hid (∀ w8 A8 c8, DoM w w8 b p SV [.int .i64 s.sort, .bool s.flag, .int .u64 0, .string s.text, .slice none 0 0, .slice none 0 0] → MineS 6 w5 w8 31 A8 n c8 (css.flatten.drop (l * 6)) → Calls Tryz.prog 69 #[.slice B s.keys.length d, .slice A8 n c8] w8 fun e w' => ∃ A9 x9 c9 B9 y9 d9, e = .returned (.agg #[.int .i64 6, .bool false, .int .u64 0, .string .empty, .slice A9 x9 c9, .slice B9 y9 d9]) ∧
   Hid (∀ (v0 v1 v2 v3 v4 v5 : Value), RAt (Br w0 (.slice A m c)) (sixSet w' p v0 v1 v2 v3 v4 v5) [.int .i64 6, .bool false, .int .u64 0, .string .empty, .slice A9 x9 c9, .slice B9 y9 d9] j) ∧ Hid (Keeps (fun _ => False) w8 w')) := H_ fun w8 A8 c8 hm8 ht8 => by
  have hj : j = mkObj s.keys (P.drop l) := by rw [HLL.out.2.1, HLL.out.1]; simp [mkV, HKS.out]
  rw [hj, HKN.out]
  exact rmade_do HH.out HMM.out HLL.out.2.2.2.1 HLL.out.2.2.2.2 hm8 HPW.out.1 HPW.out.2 ht8 s.keys HKN.out B d (by have := HKR.out; rwa [HKN.out] at this) HUU.out.2.2.2 (fun k hk => List.all_eq_true.1 HUU.out.2.2.1 k hk) HSF.out.keys
 go_upto_region 20 with (first
  | (go_at_call 69; refine (HMD.out _ _ _ HM8.out HT8.out).mono ?_; rintro e w9 ⟨A9, x9, c9, B9, y9, d9, rfl, HR9, HK9⟩; have HM9' := H_ (HM8.out.stay HK9.out); have hbp := HM9'.out.blk; have g0 := hbp.cell 0; have g1 := hbp.cell 1; have g2 := hbp.cell 2; have g3 := hbp.cell 3; have g4 := hbp.cell 4; have g5 := hbp.cell 5; have f0 := hbp.frozen 0; have f1 := hbp.frozen 1; have f2 := hbp.frozen 2; have f3 := hbp.frozen 3; have f4 := hbp.frozen 4; have f5 := hbp.frozen 5; clear hbp)
  |
  (at_builtin; refine wpList_append_mine w5 _ rfl (.tmp 62) (.tmp 68) 28 rfl 31 (.agg #[.int .i64 0, .bool false, .int .u64 0, .string .empty, .slice none 0 0, .slice none 0 0]) 6 88 Tryz.underlying28 infoVal rfl (by decide) rfl (MineS.none0 6 w5 w5 _ (Keeps.refl _ w5)) (cutS 6 A c l) n (c - l) (css.flatten.drop (l * 6)) rfl (HTK.out _ ((HM5.out.box.keep).alloc _)) HTC.out (by have := HMM.out; unfold maxLen; omega) (by have := HMM.out; omega) ?_; intro A8 c8 w8 ht8; rw [Nat.zero_add, List.nil_append] at ht8; rw [Nat.zero_add]; have HM8 := H_ (HM5.out.stay ht8.2.1); have HT8 := H_ ht8; obtain ⟨q0, q1, q2, q3, q4, q5⟩ := HM8.out.box.step HSV.out; clear ht8)
  )
 obtain ⟨VV, hVV⟩ : ∃ VV, VV = [Value.int .i64 6, .bool false, .int .u64 0, .string .empty, .slice A9 x9 c9, .slice B9 y9 d9] := ⟨_, rfl⟩
 refine gen_codeF (fun W => DoM w W b p SV VV ∧ RAt (Br w0 (.slice A m c)) W VV j) (by rw [hVV]; exact ⟨HM9'.out.six rfl _ _ _ _ _ _, HR9.out _ _ _ _ _ _⟩) ?_
 rintro w10 ⟨hm9, hfv⟩
 obtain ⟨w9, hw9⟩ : ∃ w9, w9 = w10 := ⟨_, rfl⟩
 rw [← hw9] at hm9 hfv ⊢
 have HM9 := H_ hm9
 have HFV := H_ hfv
 clear hm9 hfv hVV g0 g1 g2 g3 g4 g5 f0 f1 f2 f3 f4 f5 HMD HR9 HM9' hw9
 have HSI2 : Hid ((Tryz.prog.info? 31).map (·.size) = some VV.length) := H_ (by rw [HFV.out.len]; kernel_rfl)
 have HWI : Hid (∀ W, Keeps (fun _ => False) w9 W → Calls Tryz.prog 11 #[.agg VV.toArray] W fun e w' => e = .returned (.bool (decide j.within)) ∧ Keeps (fun _ => False) W w') := H_ fun W hW => rwithin_any W VV j (HFV.out.stay hW) HSJ.out.1 HSJ.out.2
 by_cases hw : j.within
 ·have HW : Hid (decide j.within = true) := H_ (decide_eq_true hw)
  have HD : Hid (doF P s = .inr (P.take l ++ [j])) := H_ (by rw [HDF.out, if_neg (by simpa using hw)])
  have HLE : Hid (l ≤ m ∧ l ≤ 1048576) := H_ (by have := HLL.out; have := HMM.out; omega)
  clear hw HDF
  go_upto_region 22 with (first
   | ((with_reducible show wpList _ _ _ (⟨some 82, _, _, _, _, _⟩ :: _) _ _); refine wpList_load_whole rfl 31 _ rfl _ rfl HM9.out.blk Tryz.underlying31 rfl HSI2.out ?_)
   | (go_at_call 11; refine (HWI.out _ (Keeps.refl _ _)).mono ?_; rintro e w10 ⟨rfl, hk10⟩; rw [HW.out]; have HM10 := H_ (HM9.out.stay hk10); have HFV10 := H_ (HFV.out.stay hk10); clear hk10))
  have hwl := HWL.out
  have hs2 := HS2.out
  clear hsl
  refine wp_region_tail (S := Keeps (fun _ => False) w10) 8 (by kernel_rfl) (Keeps.refl _ _).drew (fun h_ => ?_)
  refine tJ 0 86 ?_
  try simp only [pu]
  refine tJ 1 87 ?_
  try simp only [pu]
  refine tT [2, 4, 5] (i := 2) (oi := ⟨some 88, _, _, _, _, _⟩) (v := ?_) rfl (Or.inl ⟨by rfl, ?_⟩) h_ ?_
  rotate_left
  ·intro w' hSw
   go_simp
   first | done | rfl
  try simp only [pu]
  refine tJ 3 89 ?_
  try simp only [pu]
  refine tJ 4 90 ?_
  try simp only [pu]
  refine tJ 5 91 ?_
  try simp only [pu]
  refine tT [6, 7] (i := 6) (oi := ⟨some 92, _, _, _, _, _⟩) (v := _) rfl (yieldsIf_load_mid (by rfl) _ _ rfl _ _ rfl VV _ (fun w' h => blk_range ((HM10.out.stay h).blk)) Tryz.underlying31 rfl HSI2.out) h_ ?_
  try simp only [pu]
  refine wpAnyT_step (i := 7) (o := ⟨some 93, _, _, _, _, _⟩) (by kernel_rfl) rfl (fun K hK => ?_)
  refine step_box_S rfl 28 31 (.tmp 92) rfl (.agg #[.int .i64 0, .bool false, .int .u64 0, .string .empty, .slice none 0 0, .slice none 0 0]) 6 Tryz.underlying28 infoVal2 (by decide) (by decide) VV HFV.out.len rfl ?_
  refine hK.out _ _ (h_.alloc _) (fun h_ => ?_)
  clear hK K
  try simp only [pu]
  refine wpAnyT_tail (i := 8) (o := ⟨some 94, _, _, _, _, _⟩) (by kernel_rfl) (by kernel_rfl) rfl (fun K hK => ?_)
  refine step_append_own rfl (.tmp 91) (.tmp 93) 28 rfl 31 (.agg #[.int .i64 0, .bool false, .int .u64 0, .string .empty, .slice none 0 0, .slice none 0 0]) 6 88 Tryz.underlying28 infoVal rfl (by decide) A l c _ rfl ((HH.out.stay (HM10.out.box.keep.trans h_ (fun _ _ h => h))).own.short HLE.out.1).1 ⟨w10.drew.heap.size, 0, none⟩ 1 1 VV rfl (by rw [HFV.out.len]) (fun j u hu => by rw [add_at, Nat.zero_add]; exact ((Blk.new _ _ _).cell j).trans hu) HFV.out.one (by have := HLE.out; simp only [maxLen]; omega) (by have := HLE.out; omega) ?_
  intro A12 c12 w12 hown12 hg12 hb12
  have HEND := H_ ((HH.out.stay HM10.out.box.keep).grouped HLE.out.1 HFV10.out h_ hown12 hg12 hb12)
  refine hK.out _ _ ?_
  clear hK K
  try simp only [pu]
  refine wpAnyT_tail (i := 9) (o := ⟨some 4, _, _, _, _, _⟩) (by kernel_rfl) (by kernel_rfl) rfl (fun K hK => ?_)
  go_simp
  refine hK.out _ _ ?_
  clear hK K
  try simp only [pu]
  refine wpAnyT_tail (i := 10) (o := ⟨some 5, _, _, _, _, _⟩) (by kernel_rfl) (by kernel_rfl) rfl (fun K hK => ?_)
  go_simp
  refine hK.out _ _ ?_
  clear hK K
  try simp only [pu]
  refine wpAnyT_done (by kernel_rfl) ?_
  clear hwl hs2
  go_wp2
  go_ret2
  unfold DoRPost
  rw [HD.out]
  exact ⟨A12, c12, _, by rw [HPL.out]; rfl, by rw [HPL.out]; exact HEND.out⟩
 have HW : Hid (decide j.within = false) := H_ (decide_eq_false hw)
 have HD : Hid (doF P s = .inl 3) := H_ (by rw [HDF.out, if_pos (by simpa using hw)])
 clear hw HDF
 go_wp2_with (first
  | ((with_reducible show wpList _ _ _ (⟨some 82, _, _, _, _, _⟩ :: _) _ _); refine wpList_load_whole rfl 31 _ rfl _ rfl HM9.out.blk Tryz.underlying31 rfl HSI2.out ?_)
  | (go_at_call 11; refine (HWI.out _ (Keeps.refl _ _)).mono ?_; rintro e w10 ⟨rfl, hk10⟩; rw [HW.out]; have HM10 := H_ (HM9.out.stay hk10); clear hk10))
 go_ret2
 unfold DoRPost
 rw [HD.out]
 exact ⟨rfl, HM10.out.box.keep⟩
end Go.Proofs.YtdmcioghdindfaaGreatDoor
