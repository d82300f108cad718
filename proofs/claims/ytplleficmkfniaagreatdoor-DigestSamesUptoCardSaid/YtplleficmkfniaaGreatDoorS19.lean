/- Texts. -/
import Derived.Test.YtplleficmkfniaaGreatDoorS18
set_option linter.unusedSimpArgs false
set_option maxRecDepth 100000
set_option maxHeartbeats 4000000
namespace Go.Proofs.YtplleficmkfniaaGreatDoor
open Go Go.RowKit Go.Aff Go.Json Go.Flt
def numN (b : Nat) : Nat := if b = 9223372036854775808 then 0 else b
theorem doF_ok_num {P : List JV} {s : StepV} (hu : usedF s = true) (hs : s.sort = 3) (hf : finiteF s.bits = true) : doF P s = .inr (P ++ [JV.num (numN s.bits)]) := by
 obtain ⟨u1, u2, u3, _, _, _⟩ := used_parts hu
 have k := u3 (by omega)
 have ct := u2 (by omega)
 have hw : (JV.num (numN s.bits)).within := by simp [JV.within, JV.nodes, JV.bytes, JV.deep]
 have hm : mkV s [] = JV.num (numN s.bits) := by simp [mkV, hs, numN]
 unfold doF
 rw [if_neg (by rw [hu]; decide), if_neg (by rw [hf]; simp), if_neg (by rw [right_empty (u1 (by omega)), k]; simp), if_neg (by rw [k]; simp), if_neg (by rw [k, ct]; simp)]
 have hz : s.count.toNat + s.keys.length = 0 := by rw [k, ct]; rfl
 rw [hz, Nat.sub_zero, List.drop_length, List.take_length, hm, if_neg (by simpa using hw)]
theorem doF_bad_num {P : List JV} {s : StepV} (hu : usedF s = true) (hs : s.sort = 3) (hf : finiteF s.bits = false) : doF P s = .inl 104 := by
 unfold doF
 rw [if_neg (by rw [hu]; decide), if_pos ⟨hs, hf⟩]
theorem do_num_nan (T : TypeId) (D : Nat → Prop) (w : World) (p : Nat) (A : Option Addr) (c : Nat) (vs : List Value) (P : List JV) (h : RowAt T D w p A c vs P) (hn : P.length ≤ 1048576) (s : StepV) (B : Option Addr) (d : Nat) (hu : usedF s = true) (hs : s.sort = 3) (hbits : s.bits < 18446744073709551616) (hf : finiteF s.bits = false) (hq : (Ieee.double.order s.bits s.bits != some .eq) = true) :
  Calls Tryz.prog 55 #[.pointer (some ⟨p, 0, none⟩), .agg (stepV s B d).toArray] w (DoPost T D w p (.slice A P.length c) P s) := by
 have _ := hn
 have HQ := H_ (DoQ.made w s B d)
 obtain ⟨SV, hSV⟩ : ∃ SV, SV = stepV s B d := ⟨_, rfl⟩
 rw [← hSV] at HQ ⊢
 have HU : Hid (∀ W, Calls Tryz.prog 108 #[.agg SV.toArray] W fun e w' => e = .returned (.bool true) ∧ Keeps (fun _ => False) W w') := H_ fun W => by
  have := used_any W s B d
  rw [hu, ← hSV] at this
  exact this
 have HSI : Hid ((Tryz.prog.info? 131).map (·.size) = some SV.length) := H_ (by rw [hSV, stepV_len]; kernel_rfl)
 have HS := H_ hs
 have HR := H_ h
 have hmf : ∀ (fn : Fn) (first cap : Array Value) (w : World), (Instr.makeFunc fn first cap).run Tryz.prog w = .ok (.func fn first cap) w := fun _ _ _ _ => rfl
 clear h hSV
 have _ := hbits
 have HD : Hid (doF P s = .inl 104) := H_ (doF_bad_num hu hs hf)
 have hfb : ∀ W, (callFunc 110 #[.int .u64 s.bits]).run Tryz.prog W = .ok (.value (.float .f64 s.bits)) W := fun W => frombits _ W
 have HNA := H_ fun W => isnan_any W s.bits
 rw [hq] at HNA
 clear hf hq
 go_enter_defers Tryz.func55, Tryz.ntmps55
 go_wp2_with (first
  | ((with_reducible show wpList _ _ _ (⟨some 8, _, _, _, _, _⟩ :: _) _ _); refine wpList_load_whole rfl 131 _ rfl _ rfl HQ.out.blk Tryz.underlying131 rfl HSI.out ?_)
  | (go_at_call 108; refine (HU.out _).mono ?_; rintro e w2 ⟨rfl, hk2⟩; have HQ2 := H_ (HQ.out.stay hk2); obtain ⟨s0, s1, s2, s3, s4, s5⟩ := HQ2.out.cells; rw [HS.out] at s0; have tk : True := trivial; clear hk2)
  | (go_at_call 107; have _t := tk; clear tk; refine (refuse_ok _ _).mono ?_; rintro e w3 ⟨he, rfl⟩; subst he; clear _t)
  | (go_at_call 111; refine (HNA.out _).mono ?_; rintro e w5 ⟨rfl, rfl⟩)
  | (go_at_call 107; refine (refuse_no _ _).mono ?_; rintro e w3 ⟨he, rfl⟩; unfold errP at he; subst he))
 have hbe := HQ2.out.err
 refine leaves_cons (f := 106) (args := #[.pointer (some ⟨w.heap.size + 1, 0, none⟩)]) (by simp) (by simp [go_sem]) ?_
 refine (do_catch (w.heap.size + 1) 104 [] _ hbe).mono ?_
 rintro e u' w'' ⟨rfl, rfl, hb, hk⟩
 refine ⟨_, results_err rfl _ _ _ _ rfl hb, ?_⟩
 unfold DoPost
 rw [HD.out]
 exact ⟨rfl, HQ2.out.keep.trans hk (fun i hi e => by omega)⟩
theorem do_num_inf (T : TypeId) (D : Nat → Prop) (w : World) (p : Nat) (A : Option Addr) (c : Nat) (vs : List Value) (P : List JV) (h : RowAt T D w p A c vs P) (hn : P.length ≤ 1048576) (s : StepV) (B : Option Addr) (d : Nat) (hu : usedF s = true) (hs : s.sort = 3) (hbits : s.bits < 18446744073709551616) (hf : finiteF s.bits = false) (hq : (Ieee.double.order s.bits s.bits != some .eq) = false) (hi : (Ieee.double.order (rng s.bits) 9218868437227405311 == some .gt) = true) :
  Calls Tryz.prog 55 #[.pointer (some ⟨p, 0, none⟩), .agg (stepV s B d).toArray] w (DoPost T D w p (.slice A P.length c) P s) := by
 have _ := hn
 have HQ := H_ (DoQ.made w s B d)
 obtain ⟨SV, hSV⟩ : ∃ SV, SV = stepV s B d := ⟨_, rfl⟩
 rw [← hSV] at HQ ⊢
 have HU : Hid (∀ W, Calls Tryz.prog 108 #[.agg SV.toArray] W fun e w' => e = .returned (.bool true) ∧ Keeps (fun _ => False) W w') := H_ fun W => by
  have := used_any W s B d
  rw [hu, ← hSV] at this
  exact this
 have HSI : Hid ((Tryz.prog.info? 131).map (·.size) = some SV.length) := H_ (by rw [hSV, stepV_len]; kernel_rfl)
 have HS := H_ hs
 have HR := H_ h
 have hmf : ∀ (fn : Fn) (first cap : Array Value) (w : World), (Instr.makeFunc fn first cap).run Tryz.prog w = .ok (.func fn first cap) w := fun _ _ _ _ => rfl
 clear h hSV
 have HD : Hid (doF P s = .inl 104) := H_ (doF_bad_num hu hs hf)
 have hfb : ∀ W, (callFunc 110 #[.int .u64 s.bits]).run Tryz.prog W = .ok (.value (.float .f64 s.bits)) W := fun W => frombits _ W
 have HNA := H_ fun W => isnan_any W s.bits
 have HIN := H_ fun W => isinf_any W s.bits hbits
 rw [hq] at HNA
 rw [hi] at HIN
 clear hf hq hi
 go_enter_defers Tryz.func55, Tryz.ntmps55
 go_wp2_with (first
  | ((with_reducible show wpList _ _ _ (⟨some 8, _, _, _, _, _⟩ :: _) _ _); refine wpList_load_whole rfl 131 _ rfl _ rfl HQ.out.blk Tryz.underlying131 rfl HSI.out ?_)
  | (go_at_call 108; refine (HU.out _).mono ?_; rintro e w2 ⟨rfl, hk2⟩; have HQ2 := H_ (HQ.out.stay hk2); obtain ⟨s0, s1, s2, s3, s4, s5⟩ := HQ2.out.cells; rw [HS.out] at s0; have tk : True := trivial; clear hk2)
  | (go_at_call 107; have _t := tk; clear tk; refine (refuse_ok _ _).mono ?_; rintro e w3 ⟨he, rfl⟩; subst he; clear _t)
  | (go_at_call 111; refine (HNA.out _).mono ?_; rintro e w5 ⟨rfl, rfl⟩)
  | (go_at_call 112; refine (HIN.out _).mono ?_; rintro e w5 ⟨rfl, rfl⟩)
  | (go_at_call 107; refine (refuse_no _ _).mono ?_; rintro e w3 ⟨he, rfl⟩; unfold errP at he; subst he))
 have hbe := HQ2.out.err
 refine leaves_cons (f := 106) (args := #[.pointer (some ⟨w.heap.size + 1, 0, none⟩)]) (by simp) (by simp [go_sem]) ?_
 refine (do_catch (w.heap.size + 1) 104 [] _ hbe).mono ?_
 rintro e u' w'' ⟨rfl, rfl, hb, hk⟩
 refine ⟨_, results_err rfl _ _ _ _ rfl hb, ?_⟩
 unfold DoPost
 rw [HD.out]
 exact ⟨rfl, HQ2.out.keep.trans hk (fun i hi e => by omega)⟩
theorem do_num_zero (T : TypeId) (D : Nat → Prop) (w : World) (p : Nat) (A : Option Addr) (c : Nat) (vs : List Value) (P : List JV) (h : RowAt T D w p A c vs P) (hn : P.length ≤ 1048576) (s : StepV) (B : Option Addr) (d : Nat) (hu : usedF s = true) (hs : s.sort = 3) (hbits : s.bits < 18446744073709551616) (hf : finiteF s.bits = true) (hz : (FloatKind.f64.format.order s.bits 0 == some Ordering.eq) = true) (hv : numN s.bits = 0) :
  Calls Tryz.prog 55 #[.pointer (some ⟨p, 0, none⟩), .agg (stepV s B d).toArray] w (DoPost T D w p (.slice A P.length c) P s) := by
 have _ := hn
 have HQ := H_ (DoQ.made w s B d)
 obtain ⟨SV, hSV⟩ : ∃ SV, SV = stepV s B d := ⟨_, rfl⟩
 rw [← hSV] at HQ ⊢
 have HU : Hid (∀ W, Calls Tryz.prog 108 #[.agg SV.toArray] W fun e w' => e = .returned (.bool true) ∧ Keeps (fun _ => False) W w') := H_ fun W => by
  have := used_any W s B d
  rw [hu, ← hSV] at this
  exact this
 have HSI : Hid ((Tryz.prog.info? 131).map (·.size) = some SV.length) := H_ (by rw [hSV, stepV_len]; kernel_rfl)
 have HS := H_ hs
 have HR := H_ h
 have hmf : ∀ (fn : Fn) (first cap : Array Value) (w : World), (Instr.makeFunc fn first cap).run Tryz.prog w = .ok (.func fn first cap) w := fun _ _ _ _ => rfl
 clear h hSV
 have HD : Hid (doF P s = .inr (P ++ [JV.num (0)])) := H_ (by rw [doF_ok_num hu hs hf, hv])
 have hfb : ∀ W, (callFunc 110 #[.int .u64 s.bits]).run Tryz.prog W = .ok (.value (.float .f64 s.bits)) W := fun W => frombits _ W
 have HNA := H_ fun W => isnan_any W s.bits
 have HIN := H_ fun W => isinf_any W s.bits hbits
 have hq : (Ieee.double.order s.bits s.bits != some .eq) = false := by rw [order_self hf]; rfl
 have hi : (Ieee.double.order (rng s.bits) 9218868437227405311 == some .gt) = false := by simpa using order_max hf
 rw [hq] at HNA
 rw [hi] at HIN
 have HP : Hid (∀ W, Keeps (fun _ => False) w W → Calls Tryz.prog 109 #[.pointer (some ⟨p, 0, none⟩), .iface 223 (.float .f64 0)] W fun e w' => e = .returned (.tuple #[]) ∧ RowPost T D W p (.slice A P.length c) (P ++ [JV.num 0]) w') := H_ fun W hW =>
  put_number T D W p A c vs P (HR.out.stay hW) hn _ (.num _ (by decide) (by decide) (by decide)) true (by decide)
 clear hf hq hi hv
 go_enter_defers Tryz.func55, Tryz.ntmps55
 go_wp2_with (first
  | ((with_reducible show wpList _ _ _ (⟨some 8, _, _, _, _, _⟩ :: _) _ _); refine wpList_load_whole rfl 131 _ rfl _ rfl HQ.out.blk Tryz.underlying131 rfl HSI.out ?_)
  | (go_at_call 108; refine (HU.out _).mono ?_; rintro e w2 ⟨rfl, hk2⟩; have HQ2 := H_ (HQ.out.stay hk2); obtain ⟨s0, s1, s2, s3, s4, s5⟩ := HQ2.out.cells; rw [HS.out] at s0; have tk : True := trivial; clear hk2)
  | (go_at_call 107; refine (refuse_ok _ _).mono ?_; rintro e w3 ⟨he, rfl⟩; subst he)
  | (go_at_call 111; refine (HNA.out _).mono ?_; rintro e w5 ⟨rfl, rfl⟩)
  | (go_at_call 112; refine (HIN.out _).mono ?_; rintro e w5 ⟨rfl, rfl⟩)
  | (go_at_call 109; refine (HP.out _ HQ2.out.keep).mono ?_; rintro e w4 ⟨rfl, hr4⟩; have hbe := HQ2.out.err_row HR.out hr4.2; have HR4 := H_ hr4; have HBE := H_ hbe; have c0 := hbe.cell 0; have f0 := hbe.frozen 0; clear hr4 hbe))
 rw [set_same HBE.out]
 refine leaves_cons (f := 106) (args := #[.pointer (some ⟨w.heap.size + 1, 0, none⟩)]) (by simp) (by simp [go_sem]) ?_
 refine (do_idle ⟨w.heap.size + 1, 0, none⟩ _).mono ?_
 rintro e u' w'' ⟨rfl, rfl, rfl⟩
 refine ⟨_, results_err rfl _ _ _ _ rfl HBE.out, ?_⟩
 unfold DoPost
 rw [HD.out]
 exact ⟨rfl, HR4.out.1, (HQ2.out.keep.mono (fun _ _ h => h.elim)).trans HR4.out.2 (fun _ _ h => h)⟩
theorem do_num_some (T : TypeId) (D : Nat → Prop) (w : World) (p : Nat) (A : Option Addr) (c : Nat) (vs : List Value) (P : List JV) (h : RowAt T D w p A c vs P) (hn : P.length ≤ 1048576) (s : StepV) (B : Option Addr) (d : Nat) (hu : usedF s = true) (hs : s.sort = 3) (hbits : s.bits < 18446744073709551616) (hf : finiteF s.bits = true) (hz : (FloatKind.f64.format.order s.bits 0 == some Ordering.eq) = false) (hv : numN s.bits = s.bits) (hn0 : s.bits ≠ 9223372036854775808) :
  Calls Tryz.prog 55 #[.pointer (some ⟨p, 0, none⟩), .agg (stepV s B d).toArray] w (DoPost T D w p (.slice A P.length c) P s) := by
 have _ := hn
 have HQ := H_ (DoQ.made w s B d)
 obtain ⟨SV, hSV⟩ : ∃ SV, SV = stepV s B d := ⟨_, rfl⟩
 rw [← hSV] at HQ ⊢
 have HU : Hid (∀ W, Calls Tryz.prog 108 #[.agg SV.toArray] W fun e w' => e = .returned (.bool true) ∧ Keeps (fun _ => False) W w') := H_ fun W => by
  have := used_any W s B d
  rw [hu, ← hSV] at this
  exact this
 have HSI : Hid ((Tryz.prog.info? 131).map (·.size) = some SV.length) := H_ (by rw [hSV, stepV_len]; kernel_rfl)
 have HS := H_ hs
 have HR := H_ h
 have hmf : ∀ (fn : Fn) (first cap : Array Value) (w : World), (Instr.makeFunc fn first cap).run Tryz.prog w = .ok (.func fn first cap) w := fun _ _ _ _ => rfl
 clear h hSV
 have HD : Hid (doF P s = .inr (P ++ [JV.num (s.bits)])) := H_ (by rw [doF_ok_num hu hs hf, hv])
 have hfb : ∀ W, (callFunc 110 #[.int .u64 s.bits]).run Tryz.prog W = .ok (.value (.float .f64 s.bits)) W := fun W => frombits _ W
 have HNA := H_ fun W => isnan_any W s.bits
 have HIN := H_ fun W => isinf_any W s.bits hbits
 have hq : (Ieee.double.order s.bits s.bits != some .eq) = false := by rw [order_self hf]; rfl
 have hi : (Ieee.double.order (rng s.bits) 9218868437227405311 == some .gt) = false := by simpa using order_max hf
 rw [hq] at HNA
 rw [hi] at HIN
 have HP : Hid (∀ W, Keeps (fun _ => False) w W → Calls Tryz.prog 109 #[.pointer (some ⟨p, 0, none⟩), .iface 223 (.float .f64 s.bits)] W fun e w' => e = .returned (.tuple #[]) ∧ RowPost T D W p (.slice A P.length c) (P ++ [JV.num s.bits]) w') := H_ fun W hW =>
  put_number T D W p A c vs P (HR.out.stay hW) hn _ (.num _ hf hn0 hbits) true (by decide)
 clear hf hq hi hv
 go_enter_defers Tryz.func55, Tryz.ntmps55
 go_wp2_with (first
  | ((with_reducible show wpList _ _ _ (⟨some 8, _, _, _, _, _⟩ :: _) _ _); refine wpList_load_whole rfl 131 _ rfl _ rfl HQ.out.blk Tryz.underlying131 rfl HSI.out ?_)
  | (go_at_call 108; refine (HU.out _).mono ?_; rintro e w2 ⟨rfl, hk2⟩; have HQ2 := H_ (HQ.out.stay hk2); obtain ⟨s0, s1, s2, s3, s4, s5⟩ := HQ2.out.cells; rw [HS.out] at s0; have tk : True := trivial; clear hk2)
  | (go_at_call 107; refine (refuse_ok _ _).mono ?_; rintro e w3 ⟨he, rfl⟩; subst he)
  | (go_at_call 111; refine (HNA.out _).mono ?_; rintro e w5 ⟨rfl, rfl⟩)
  | (go_at_call 112; refine (HIN.out _).mono ?_; rintro e w5 ⟨rfl, rfl⟩)
  | (go_at_call 109; refine (HP.out _ HQ2.out.keep).mono ?_; rintro e w4 ⟨rfl, hr4⟩; have hbe := HQ2.out.err_row HR.out hr4.2; have HR4 := H_ hr4; have HBE := H_ hbe; have c0 := hbe.cell 0; have f0 := hbe.frozen 0; clear hr4 hbe))
 rw [set_same HBE.out]
 refine leaves_cons (f := 106) (args := #[.pointer (some ⟨w.heap.size + 1, 0, none⟩)]) (by simp) (by simp [go_sem]) ?_
 refine (do_idle ⟨w.heap.size + 1, 0, none⟩ _).mono ?_
 rintro e u' w'' ⟨rfl, rfl, rfl⟩
 refine ⟨_, results_err rfl _ _ _ _ rfl HBE.out, ?_⟩
 unfold DoPost
 rw [HD.out]
 exact ⟨rfl, HR4.out.1, (HQ2.out.keep.mono (fun _ _ h => h.elim)).trans HR4.out.2 (fun _ _ h => h)⟩
theorem do_num_spec (s : StepV) (hu : usedF s = true) (hs : s.sort = 3) (hbits : s.bits < 18446744073709551616) (T : TypeId) (D : Nat → Prop) (w : World) (p : Nat) (A : Option Addr) (c : Nat) (vs : List Value) (P : List JV) (h : RowAt T D w p A c vs P) (hn : P.length ≤ 1048576) (B : Option Addr) (d : Nat) :
  Calls Tryz.prog 55 #[.pointer (some ⟨p, 0, none⟩), .agg (stepV s B d).toArray] w (DoPost T D w p (.slice A P.length c) P s) := by
 cases hf : finiteF s.bits
 ·rcases hq : (Ieee.double.order s.bits s.bits != some .eq) with _ | _
  ·have hi := (order_not hf).resolve_left (by simpa using hq)
   exact do_num_inf T D w p A c vs P h hn s B d hu hs hbits hf hq (by rw [hi]; rfl)
  ·exact do_num_nan T D w p A c vs P h hn s B d hu hs hbits hf hq
 ·have hz := order_zero hf hbits
  by_cases h0 : s.bits = 0 ∨ s.bits = 9223372036854775808
  ·exact do_num_zero T D w p A c vs P h hn s B d hu hs hbits hf (by exact hz.trans (by simp [h0])) (by unfold numN; rcases h0 with h0 | h0 <;> simp [h0])
  ·exact do_num_some T D w p A c vs P h hn s B d hu hs hbits hf (by exact hz.trans (by simp [h0])) (by unfold numN; rw [if_neg (fun e => h0 (.inr e))]) (fun e => h0 (.inr e))
end Go.Proofs.YtplleficmkfniaaGreatDoor
namespace Go.Json
theorem doF_within {P P' : List JV} {s : StepV} (h : doF P s = .inr P') (hP : ∀ j ∈ P, j.within) : ∀ j ∈ P', j.within := by
 unfold doF at h
 repeat' split at h
 all_goals first | (cases h; done) | skip
 rename_i hw
 injection h with h
 subst h
 intro j hj
 rcases List.mem_append.1 hj with hj | hj
 ·exact hP j (List.mem_of_mem_take hj)
 ·rw [List.mem_singleton.1 hj]; exact Decidable.of_not_not hw
theorem doF_length {P P' : List JV} {s : StepV} (h : doF P s = .inr P') : P'.length ≤ P.length + 1 := by
 unfold doF at h
 repeat' split at h
 all_goals first | (cases h; done) | skip
 injection h with h
 subst h
 rw [List.length_append, List.length_take]
 simp
theorem rowF_cons (i : Nat) (P : List JV) (s : StepV) (l : List StepV) : rowF i P (s :: l) = match doF P s with
  | .inl e => .inl (e, i)
  | .inr P' => rowF (i + 1) P' l := rfl
end Go.Json
namespace Go.Proofs.YtplleficmkfniaaGreatDoor
open Go Go.RowKit Go.Aff Go.Json
def StepsAt (w : World) (A : Option Addr) (l : List StepV) : Prop := ∀ (k : Nat) (s : StepV), l[k]? = some s → ∃ g o B d, A = some ⟨g, o, none⟩ ∧ w.rangeAt g (o + k * 6) (stepV s B d) ∧ Rd w B s.keys.length (s.keys.map .string)
theorem StepsAt.keep {w w' : World} {A : Option Addr} {l : List StepV} (h : StepsAt w A l) (hk : Keeps (fun _ => False) w w') : StepsAt w' A l := fun k s hs => by
 obtain ⟨g, o, B, d, e, hr, hb⟩ := h k s hs
 exact ⟨g, o, B, d, e, fun j v hj => cell_keep hk (hr j v hj), hb.keep hk (fun _ _ _ h => h)⟩
def spotE (n a : Int) : Value := .iface 134 (.agg #[.int .i64 n, .int .i64 a])
theorem stepV_one (s : StepV) (B : Option Addr) (d : Nat) : ∀ u ∈ stepV s B d, u.oneCell' = true := by
 intro u hu
 simp only [stepV, List.mem_cons, List.not_mem_nil, or_false] at hu
 rcases hu with rfl | rfl | rfl | rfl | rfl | rfl <;> rfl
def stepZ : List Value := [.int .i64 0, .bool false, .int .u64 0, .string ⟨#[]⟩, .int .i64 0, .slice none 0 0]
def DoSpec (s : StepV) : Prop := ∀ (T : TypeId) (D : Nat → Prop) (w : World) (p : Nat) (A : Option Addr) (c : Nat) (vs : List Value) (P : List JV), RowAt T D w p A c vs P → P.length ≤ 1048576 → (∀ j ∈ P, j.within) →
 ∀ (B : Option Addr) (d : Nat), Rd w B s.keys.length (s.keys.map .string) → Calls Tryz.prog 55 #[.pointer (some ⟨p, 0, none⟩), .agg (stepV s B d).toArray] w (DoPost T D w p (.slice A P.length c) P s)
theorem do_null_spec (s : StepV) (hu : usedF s = true) (hs : s.sort = 1) : DoSpec s := fun T D w p A c vs P h hn _ B d _ => do_null T D w p A c vs P h hn s B d hu hs
def BuildPost (w : World) (l : List StepV) (e : Ending) (w' : World) : Prop := Keeps (fun _ => False) w w' ∧ match buildF l with
 | .inl (k, none) => e = .returned (.tuple #[.pointer none, errE k])
 | .inl (k, some i) => e = .returned (.tuple #[.pointer none, spotE k i])
 | .inr j => ∃ q v, e = .returned (.tuple #[.pointer (some ⟨q, 0, none⟩), .nilIface]) ∧ TreeAt (fun i => w.heap.size ≤ i) w' q v j ∧ j.within
structure Building (w wr : World) (l : List StepV) (k : Nat) (A : Option Addr) (c : Nat) (vs : List Value) (P : List JV) : Prop where
 row : RowAt 129 (fun i => w.heap.size ≤ i) wr w.heap.size A c vs P
 keep : Keeps (fun _ => False) w wr
 run : rowF 0 [] l = rowF k P (l.drop k)
 few : P.length ≤ k
 inn : ∀ j ∈ P, j.within
theorem keep_lo {w w' wr : World} {F : Nat → Prop} (h : Keeps (fun _ => False) w wr) (k : Keeps F wr w') (hF : ∀ i, F i → w.heap.size ≤ i) : Keeps (fun _ => False) w w' := h.trans k (fun i hi e => by have := hF i e; omega)
theorem Build_spec (w : World) (A : Option Addr) (n c : Nat) (l : List StepV) (hn : l.length = n) (hS : StepsAt w A l) (hdo : ∀ s ∈ l, DoSpec s) :
  Calls Tryz.prog 13 #[.slice A n c] w (BuildPost w l) := by
 by_cases hlong : 65536 < n
 ·have HB : Hid (buildF l = .inl (3, none)) := H_ (by unfold buildF; rw [hn, if_pos hlong])
  clear hS hn hdo
  go_enter Tryz.func13, Tryz.ntmps13
  go_wp2
  go_ret2
  refine ⟨Keeps.refl _ _, ?_⟩
  rw [HB.out]
  rfl
 ·have HRF : Hid (∀ r, rowF 0 [] l = r → buildF l = match r with | .inl (e, i) => .inl (e, some i) | .inr [v] => .inr v | .inr _ => .inl (103, some l.length)) := H_ fun r hr => by
   unfold buildF
   rw [if_neg (by rw [hn]; exact hlong), hr]
   rcases r with ⟨e, i⟩ | P
   ·rfl
   ·match P with
    | [] => rfl
    | [v] => rfl
    | _ :: _ :: _ => rfl
  have HSC : Hid (∀ k, k < n → ∃ s g o B d, l[k]? = some s ∧ A = some ⟨g, o, none⟩ ∧ w.rangeAt g (o + k * 6) (stepV s B d) ∧ Rd w B s.keys.length (s.keys.map .string) ∧ DoSpec s) := H_ fun k hk => by
   obtain ⟨s, hs⟩ : ∃ s, l[k]? = some s := ⟨_, List.getElem?_eq_getElem (by omega)⟩
   obtain ⟨g, o, B, d, h1, h2, h3⟩ := hS k s hs
   exact ⟨s, g, o, B, d, hs, h1, h2, h3, hdo s (List.mem_of_getElem? hs)⟩
  have HDN : Hid (∀ (P : List JV), rowF n P (l.drop n) = .inr P) := H_ fun P => by rw [List.drop_of_length_le (by omega)]; rfl
  have HLN := H_ hn
  have hB0 : Building w (w.alloc (.cells #[.slice none 0 0] 129)) l 0 none 0 [] [] := by
   refine ⟨⟨Blk.new w 129 [.slice none 0 0], World.ownsRow_nil _ _ _ _, fun i v j h => (by cases h), by decide, fun i hi => (by rw [World.size_alloc] at hi; omega), fun g h => (by cases h)⟩, (Keeps.refl _ w).alloc _, rfl, Nat.le_refl _, fun j h => (by cases h)⟩
  have HB0 := H_ hB0
  clear hS hn hB0 hdo
  go_enter Tryz.func13, Tryz.ntmps13
  go_upto_region 4 with fail
  refine gen_codeF (fun W => Building w W l 0 none 0 [] []) HB0.out ?_
  intro w1 hb1
  have HB1 := H_ hb1
  clear hb1
  go_wp2
  go_loopg [14] n (fun gk i wr => ∃ (k : Nat) (A2 : Option Addr) (c2 : Nat) (vs : List Value) (P : List JV), k ≤ n ∧ i = .int .i64 k ∧ gk = n - k ∧ Hid (Building w wr l k A2 c2 vs P))
  case atStart => exact ⟨0, _, _, _, _, by omega, rfl, by omega, HB1⟩
  case round =>
   obtain ⟨k, A2, c2, vs, P, hk, rfl, hgk, HB⟩ := hrel
   have HGK := H_ hgk
   clear hgk
   by_cases hlt : k < n
   ·obtain ⟨s, g, o, B, d, hs, hA, hr, hkr, hds⟩ := HSC.out k hlt
    subst hA
    obtain ⟨SC, hSC⟩ : ∃ SC, SC = stepV s B d := ⟨_, rfl⟩
    rw [← hSC] at hr
    have HRE : Hid (wr.rangeAt g (o + k * 6) SC) := H_ fun j y hj => cell_keep HB.out.keep (hr j y hj)
    have HSL : Hid (SC.length = 6) := H_ (by rw [hSC]; rfl)
    have HSO : Hid (∀ u ∈ SC, u.oneCell' = true) := H_ (by rw [hSC]; exact stepV_one _ _ _)
    have HSI : Hid ((Tryz.prog.info? 131).map (·.size) = some SC.length) := H_ (by rw [HSL.out]; kernel_rfl)
    have HZL : Hid (stepZ.length = 6) := H_ rfl
    have HST : Hid (∀ W, Keeps (fun _ => False) wr W → Calls Tryz.prog 55 #[.pointer (some ⟨w.heap.size, 0, none⟩), .agg SC.toArray] W (DoPost 129 (fun i => w.heap.size ≤ i) W w.heap.size (.slice A2 P.length c2) P s)) := H_ fun W hW => by
     rw [hSC]
     refine hds 129 _ W w.heap.size A2 c2 vs P (HB.out.row.stay hW) ?_ HB.out.inn B d ((hkr.keep HB.out.keep (fun _ _ _ h => h)).keep hW (fun _ _ _ h => h))
     have := HB.out.few
     omega
    have hrn : rowF 0 [] l = match doF P s with
      | .inl e => .inl (e, k)
      | .inr P' => rowF (k + 1) P' (l.drop (k + 1)) := by
     rw [HB.out.run, List.drop_eq_getElem_cons (by have := HLN.out; omega)]
     have e : l[k]'(by have := HLN.out; omega) = s := by
      have := List.getElem?_eq_getElem (l := l) (i := k) (by have := HLN.out; omega)
      rw [hs] at this
      injection this with this
      exact this.symm
     rw [e]
     rfl
    unfold DoPost errE at HST
    rcases hd : doF P s with k3 | P2
    ·rw [hd] at hrn HST
     have HRN := H_ (HRF.out _ hrn)
     clear hSC hr hs hkr hds hrn hd
     go_upto_region 9 with (first
      | ((with_reducible show wpList _ _ _ (⟨some 18, _, _, _, _, _⟩ :: _) _ _); refine wpList_load_mid rfl 131 _ rfl _ _ rfl SC _ HRE.out Tryz.underlying131 rfl HSI.out ?_)
      | ((with_reducible show wpList _ _ _ (⟨none, Op.store 131 _ _, _, _, _, _⟩ :: _) _ _); refine wpList_store_whole rfl 131 _ _ rfl SC rfl rfl (Blk.new wr 131 stepZ) (by rw [HSL.out, HZL.out]) HSI.out HSO.out ?_; refine gen_world (fun W => Blk W wr.heap.size 131 SC ∧ Keeps (fun _ => False) wr W) ⟨(Blk.new wr 131 stepZ).setRow SC, ((Keeps.refl _ wr).alloc _).setRow (.inr (Nat.le_refl _)) _⟩ ?_; rintro wa ⟨hba, hka⟩; have HBA := H_ hba; have HKA := H_ hka; clear hba hka)
      | ((with_reducible show wpList _ _ _ (⟨some 19, _, _, _, _, _⟩ :: _) _ _); refine wpList_load_whole rfl 131 _ rfl _ rfl HBA.out Tryz.underlying131 rfl HSI.out ?_)
      | (go_at_call 55; refine (HST.out wa HKA.out).mono ?_; rintro e w2 ⟨rfl, hk2⟩; have HK2 := H_ hk2; clear hk2))
     have hta := at_errno_errno
     refine wp_region_held_drew (S := Keeps (fun _ => False) w2) (by kernel_rfl) (Keeps.refl (fun _ => False) _).drew (fun h_ => ?_)
     refine tI 0 23 h_ ?_
     try simp only [pu]
     refine tI 1 24 h_ ?_ (hy := .inl ⟨by rfl, by intro w' hSw; have ta := hta; go_simp; first | done | rfl⟩)
     try simp only [pu]
     refine tI 2 25 h_ ?_
     try simp only [pu]
     refine tI 3 26 h_ ?_
     try simp only [pu]
     refine tI 4 27 h_ ?_
     try simp only [pu]
     refine tI 5 2 h_ ?_
     try simp only [pu]
     refine tI 6 3 h_ ?_
     try simp only [pu]
     refine wpAnyH_done (by kernel_rfl) ?_ _
     go_wp2
     go_ret2
     have hF : ∀ i, (i = w.heap.size ∨ (Value.slice A2 P.length c2).ownBlock = some i) → w.heap.size ≤ i := fun i hi => by
      rcases hi with rfl | hi
      ·exact Nat.le_refl _
      ·exact (HB.out.row.inn i hi).1
     refine ⟨keep_lo (HB.out.keep.trans HKA.out (fun _ _ h => h)) (HK2.out.drew) (fun _ h => h.elim), ?_⟩
     rw [HRN.out]
     rfl
    ·rw [hd] at hrn HST
     have HD3 := H_ (And.intro (doF_within hd HB.out.inn) (doF_length hd))
     have HRN := H_ hrn
     clear hSC hr hs hkr hds hrn hd
     go_wp2_with (first
      | ((with_reducible show wpList _ _ _ (⟨some 18, _, _, _, _, _⟩ :: _) _ _); refine wpList_load_mid rfl 131 _ rfl _ _ rfl SC _ HRE.out Tryz.underlying131 rfl HSI.out ?_)
      | ((with_reducible show wpList _ _ _ (⟨none, Op.store 131 _ _, _, _, _, _⟩ :: _) _ _); refine wpList_store_whole rfl 131 _ _ rfl SC rfl rfl (Blk.new wr 131 stepZ) (by rw [HSL.out, HZL.out]) HSI.out HSO.out ?_; refine gen_world (fun W => Blk W wr.heap.size 131 SC ∧ Keeps (fun _ => False) wr W) ⟨(Blk.new wr 131 stepZ).setRow SC, ((Keeps.refl _ wr).alloc _).setRow (.inr (Nat.le_refl _)) _⟩ ?_; rintro wa ⟨hba, hka⟩; have HBA := H_ hba; have HKA := H_ hka; clear hba hka)
      | ((with_reducible show wpList _ _ _ (⟨some 19, _, _, _, _, _⟩ :: _) _ _); refine wpList_load_whole rfl 131 _ rfl _ rfl HBA.out Tryz.underlying131 rfl HSI.out ?_)
      | (go_at_call 55; refine (HST.out wa HKA.out).mono ?_; rintro e w2 ⟨rfl, ⟨A3, c3, vs3, hrow⟩, hk2⟩; have HROW := H_ hrow; have HK2 := H_ hk2; clear hrow hk2))
     go_roundg (n - (k + 1))
     case measure => rw [HGK.out]; omega
     case rel =>
      have hF : ∀ i, (i = w.heap.size ∨ (Value.slice A2 P.length c2).ownBlock = some i) → w.heap.size ≤ i := fun i hi => by
       rcases hi with rfl | hi
       ·exact Nat.le_refl _
       ·exact (HB.out.row.inn i hi).1
      refine ⟨k + 1, A3, c3, vs3, P2, by omega, by go_num, rfl, H_ ⟨HROW.out, keep_lo (HB.out.keep.trans HKA.out (fun _ _ h => h)) HK2.out hF, HRN.out, by have := HB.out.few; have := HD3.out.2; omega, HD3.out.1⟩⟩
   ·obtain rfl : k = n := by omega
    have hrn := HB.out.run.trans (HDN.out P)
    have hbf := HRF.out _ hrn
    clear hrn
    have cb := HB.out.row.blk.cell 0
    by_cases h1 : P.length = 1
    ·obtain ⟨t, hP⟩ : ∃ t, P = [t] := List.length_eq_one_iff.1 h1
     subst hP
     have hv : ∃ v, vs = [v] := List.length_eq_one_iff.1 HB.out.row.len
     obtain ⟨v, rfl⟩ := hv
     obtain ⟨g1, o1, hA1, hc1⟩ := (Rd.of_own HB.out.row.own).2 (by simp)
     subst hA1
     have hj := HB.out.row.at_ 0 v t rfl rfl
     obtain ⟨T, x, rfl⟩ := hj.iface
     have ce : wr.cell? ⟨g1, o1, none⟩ = some (.iface T x) := hc1 0 (by simp)
     have HJ := H_ hj
     have HIN := H_ (HB.out.inn t (by simp))
     have HBF := H_ hbf
     have HKB := H_ HB.out.keep
     clear hbf h1 hj hc1
     have hl1 : ([t] : List JV).length = 1 := rfl
     rw [hl1] at cb
     go_wp2
     go_ret2
     refine ⟨HKB.out.alloc _, ?_⟩
     rw [HBF.out]
     exact ⟨wr.heap.size, .iface T x, rfl, ⟨HKB.out.size, Blk.new wr _ _, (HJ.out.mono fun i hi _ => hi.1).stay ((Keeps.refl _ wr).alloc _)⟩, HIN.out⟩
    ·obtain ⟨m, hm⟩ : ∃ m, m = P.length := ⟨_, rfl⟩
     rw [← hm] at cb h1
     have HBF : Hid (buildF l = .inl (103, some k)) := H_ (by
      rw [hbf, HLN.out]
      match P, hm with
      | [], _ => rfl
      | [t], hm => exact absurd hm h1
      | _ :: _ :: _, _ => rfl)
     have HMM := H_ hm
     clear hbf hm
     go_wp2
     go_ret2
     refine ⟨HB.out.keep, ?_⟩
     rw [HBF.out]
     rfl
end Go.Proofs.YtplleficmkfniaaGreatDoor
namespace Go.Proofs.YtplleficmkfniaaGreatDoor
open Go Go.RowKit Go.Aff Go.Json Go.Shelf
theorem do_obj_panic (T : TypeId) (D : Nat → Prop) (w : World) (p : Nat) (A : Option Addr) (c : Nat) (vs : List Value) (P : List JV) (h : RowAt T D w p A c vs P) (hn : P.length ≤ 1048576) (s : StepV) (B : Option Addr) (d : Nat) (hu : usedF s = true) (hs : s.sort = 6) (k : Int) (hd : doF P s = .inl k) (hO : ∀ W, Keeps (fun _ => False) w W → Calls Tryz.prog 116 #[.pointer (some ⟨p, 0, none⟩), .slice B s.keys.length d] W fun e w' => e = errP k ∧ Keeps (fun _ => False) W w') :
  Calls Tryz.prog 55 #[.pointer (some ⟨p, 0, none⟩), .agg (stepV s B d).toArray] w (DoPost T D w p (.slice A P.length c) P s) := by
 have _ := hn
 have HQ := H_ (DoQ.made w s B d)
 obtain ⟨SV, hSV⟩ : ∃ SV, SV = stepV s B d := ⟨_, rfl⟩
 rw [← hSV] at HQ ⊢
 have HU : Hid (∀ W, Calls Tryz.prog 108 #[.agg SV.toArray] W fun e w' => e = .returned (.bool true) ∧ Keeps (fun _ => False) W w') := H_ fun W => by
  have := used_any W s B d
  rw [hu, ← hSV] at this
  exact this
 have HSI : Hid ((Tryz.prog.info? 131).map (·.size) = some SV.length) := H_ (by rw [hSV, stepV_len]; kernel_rfl)
 have HS := H_ hs
 have HR := H_ h
 have hmf : ∀ (fn : Fn) (first cap : Array Value) (w : World), (Instr.makeFunc fn first cap).run Tryz.prog w = .ok (.func fn first cap) w := fun _ _ _ _ => rfl
 clear h hSV
 have HD := H_ hd
 have HO := H_ hO
 clear hd hO
 go_enter_defers Tryz.func55, Tryz.ntmps55
 go_wp2_with (first
  | ((with_reducible show wpList _ _ _ (⟨some 8, _, _, _, _, _⟩ :: _) _ _); refine wpList_load_whole rfl 131 _ rfl _ rfl HQ.out.blk Tryz.underlying131 rfl HSI.out ?_)
  | (go_at_call 108; refine (HU.out _).mono ?_; rintro e w2 ⟨rfl, hk2⟩; have HQ2 := H_ (HQ.out.stay hk2); obtain ⟨s0, s1, s2, s3, s4, s5⟩ := HQ2.out.cells; rw [HS.out] at s0; have tk : True := trivial; clear hk2)
  | (go_at_call 107; refine (refuse_ok _ _).mono ?_; rintro e w3 ⟨he, rfl⟩; subst he)
  | (go_at_call 116; refine (HO.out _ HQ2.out.keep).mono ?_; rintro e w6 ⟨he, hk6⟩; unfold errP at he; subst he; have HQ6 := H_ (HQ2.out.stay hk6); clear hk6))
 have hbe := HQ6.out.err
 refine leaves_cons (f := 106) (args := #[.pointer (some ⟨w.heap.size + 1, 0, none⟩)]) (by simp) (by simp [go_sem]) ?_
 refine (do_catch (w.heap.size + 1) k [] _ hbe).mono ?_
 rintro e u' w'' ⟨rfl, rfl, hb, hk⟩
 refine ⟨_, results_err rfl _ _ _ _ rfl hb, ?_⟩
 unfold DoPost
 rw [HD.out]
 exact ⟨rfl, HQ6.out.keep.trans hk (fun i hi e => by omega)⟩
theorem do_obj_ok (T : TypeId) (D : Nat → Prop) (w : World) (p : Nat) (A : Option Addr) (c : Nat) (vs : List Value) (P : List JV) (h : RowAt T D w p A c vs P) (hn : P.length ≤ 1048576) (s : StepV) (B : Option Addr) (d : Nat) (hu : usedF s = true) (hs : s.sort = 6) (P' : List JV) (hd : doF P s = .inr P') (hO : ∀ W, Keeps (fun _ => False) w W → Calls Tryz.prog 116 #[.pointer (some ⟨p, 0, none⟩), .slice B s.keys.length d] W fun e w' => e = .returned (.tuple #[]) ∧ RowPost T D W p (.slice A P.length c) P' w') :
  Calls Tryz.prog 55 #[.pointer (some ⟨p, 0, none⟩), .agg (stepV s B d).toArray] w (DoPost T D w p (.slice A P.length c) P s) := by
 have _ := hn
 have HQ := H_ (DoQ.made w s B d)
 obtain ⟨SV, hSV⟩ : ∃ SV, SV = stepV s B d := ⟨_, rfl⟩
 rw [← hSV] at HQ ⊢
 have HU : Hid (∀ W, Calls Tryz.prog 108 #[.agg SV.toArray] W fun e w' => e = .returned (.bool true) ∧ Keeps (fun _ => False) W w') := H_ fun W => by
  have := used_any W s B d
  rw [hu, ← hSV] at this
  exact this
 have HSI : Hid ((Tryz.prog.info? 131).map (·.size) = some SV.length) := H_ (by rw [hSV, stepV_len]; kernel_rfl)
 have HS := H_ hs
 have HR := H_ h
 have hmf : ∀ (fn : Fn) (first cap : Array Value) (w : World), (Instr.makeFunc fn first cap).run Tryz.prog w = .ok (.func fn first cap) w := fun _ _ _ _ => rfl
 clear h hSV
 have HD := H_ hd
 have HO := H_ hO
 clear hd hO
 go_enter_defers Tryz.func55, Tryz.ntmps55
 go_wp2_with (first
  | ((with_reducible show wpList _ _ _ (⟨some 8, _, _, _, _, _⟩ :: _) _ _); refine wpList_load_whole rfl 131 _ rfl _ rfl HQ.out.blk Tryz.underlying131 rfl HSI.out ?_)
  | (go_at_call 108; refine (HU.out _).mono ?_; rintro e w2 ⟨rfl, hk2⟩; have HQ2 := H_ (HQ.out.stay hk2); obtain ⟨s0, s1, s2, s3, s4, s5⟩ := HQ2.out.cells; rw [HS.out] at s0; have tk : True := trivial; clear hk2)
  | (go_at_call 107; refine (refuse_ok _ _).mono ?_; rintro e w3 ⟨he, rfl⟩; subst he)
  | (go_at_call 116; refine (HO.out _ HQ2.out.keep).mono ?_; rintro e w4 ⟨rfl, hr4⟩; have hbe := HQ2.out.err_row HR.out hr4.2; have HR4 := H_ hr4; have HBE := H_ hbe; have c0 := hbe.cell 0; have f0 := hbe.frozen 0; clear hr4 hbe))
 rw [set_same HBE.out]
 refine leaves_cons (f := 106) (args := #[.pointer (some ⟨w.heap.size + 1, 0, none⟩)]) (by simp) (by simp [go_sem]) ?_
 refine (do_idle ⟨w.heap.size + 1, 0, none⟩ _).mono ?_
 rintro e u' w'' ⟨rfl, rfl, rfl⟩
 refine ⟨_, results_err rfl _ _ _ _ rfl HBE.out, ?_⟩
 unfold DoPost
 rw [HD.out]
 exact ⟨rfl, HR4.out.1, (HQ2.out.keep.mono (fun _ _ h => h.elim)).trans HR4.out.2 (fun _ _ h => h)⟩
structure StepFits (s : StepV) : Prop where
 text : s.text.size ≤ 1152921504606846976
 keys : byF s.keys ≤ 1099511627776
 many : s.keys.length ≤ 1099511627776
 bits : s.bits < 18446744073709551616
theorem do_object (s : StepV) (hf : StepFits s) (hu : usedF s = true) (hs : s.sort = 6) : DoSpec s := fun T D w p A c vs P h hn hP B d hk => by
 have hO : ∀ W, Keeps (fun _ => False) w W → Calls Tryz.prog 116 #[.pointer (some ⟨p, 0, none⟩), .slice B s.keys.length d] W (ObjPost T D W p (.slice A P.length c) P s.keys) := fun W hW =>
  object_any T D W p A c vs P (h.stay hW) hn hP s.keys s.keys.length rfl hf.many hf.keys B d (hk.keep hW (fun _ _ _ h => h))
 unfold ObjPost at hO
 rcases hr : s.keys.all rightS with _ | _
 ·refine do_obj_panic T D w p A c vs P h hn s B d hu hs 100 (doF_obj_wrong hu hs hr) fun W hW => ?_
  exact (hO W hW).mono fun e w' hh => by rw [if_pos hr] at hh; exact hh
 ·have hd := doF_obj (P := P) hu hs hr
  by_cases h1 : s.keys.Nodup
  ·rw [if_neg (by simpa using h1)] at hd
   by_cases h2 : P.length < s.keys.length
   ·rw [if_pos h2] at hd
    refine do_obj_panic T D w p A c vs P h hn s B d hu hs 102 hd fun W hW => ?_
    exact (hO W hW).mono fun e w' hh => by rw [if_neg (by rw [hr]; simp), if_neg (by simpa using h1), if_pos h2] at hh; exact hh
   ·rw [if_neg h2] at hd
    by_cases h3 : (mkObj s.keys (P.drop (P.length - s.keys.length))).within
    ·rw [if_neg (by simpa using h3)] at hd
     refine do_obj_ok T D w p A c vs P h hn s B d hu hs _ hd fun W hW => ?_
     exact (hO W hW).mono fun e w' hh => by rw [if_neg (by rw [hr]; simp), if_neg (by simpa using h1), if_neg h2, if_neg (by simpa using h3)] at hh; exact hh
    ·rw [if_pos (by simpa using h3)] at hd
     refine do_obj_panic T D w p A c vs P h hn s B d hu hs 3 hd fun W hW => ?_
     exact (hO W hW).mono fun e w' hh => by rw [if_neg (by rw [hr]; simp), if_neg (by simpa using h1), if_neg h2, if_pos (by simpa using h3)] at hh; exact hh
  ·rw [if_pos h1] at hd
   refine do_obj_panic T D w p A c vs P h hn s B d hu hs 101 hd fun W hW => ?_
   exact (hO W hW).mono fun e w' hh => by rw [if_neg (by rw [hr]; simp), if_pos h1] at hh; exact hh
theorem do_any (s : StepV) (hf : StepFits s) : DoSpec s := by
 rcases hu : usedF s with _ | _
 ·exact fun T D w p A c vs P h hn _ B d _ => do_unused T D w p A c vs P h hn s B d hu
 ·obtain ⟨_, u2, u3, h1, h6, h0⟩ := used_parts hu
  have hs : s.sort = 1 ∨ s.sort = 2 ∨ s.sort = 3 ∨ s.sort = 4 ∨ s.sort = 5 ∨ s.sort = 6 := by omega
  rcases hs with hs | hs | hs | hs | hs | hs
  ·exact do_null_spec s hu hs
  ·exact fun T D w p A c vs P h hn _ B d _ => do_flag T D w p A c vs P h hn s B d hu hs
  ·exact fun T D w p A c vs P h hn _ B d _ => do_num_spec s hu hs hf.bits T D w p A c vs P h hn B d
  ·intro T D w p A c vs P h hn _ B d _
   rcases hr : rightS s.text with _ | _
   ·exact do_text_bad T D w p A c vs P h hn s B d hu hs hf.text hr
   ·by_cases hl : s.text.size ≤ 2097152
    ·exact do_text_ok T D w p A c vs P h hn s B d hu hs hr hl
    ·exact do_text_long T D w p A c vs P h hn s B d hu hs hr hl hf.text
  ·intro T D w p A c vs P h hn hP B d _
   obtain ⟨k, hk⟩ : ∃ k : Nat, s.count = k := ⟨s.count.toNat, by omega⟩
   by_cases hle : k ≤ P.length
   ·by_cases hw : (JV.list (P.drop (P.length - k))).within
    ·exact do_list_ok T D w p A c vs P h hn s B d hu hs k hk hle hP hw
    ·exact do_list_long T D w p A c vs P h hn s B d hu hs k hk hle hP hw
   ·exact do_list_few T D w p A c vs P h hn s B d hu hs (by omega)
  ·exact do_object s hf hu hs
theorem Build_any (w : World) (A : Option Addr) (n c : Nat) (l : List StepV) (hn : l.length = n) (hS : StepsAt w A l) (hf : ∀ s ∈ l, StepFits s) :
  Calls Tryz.prog 13 #[.slice A n c] w (BuildPost w l) := Build_spec w A n c l hn hS fun s hs => do_any s (hf s hs)
end Go.Proofs.YtplleficmkfniaaGreatDoor
namespace Go.Aff
open Go Go.RowKit
theorem own_shortS {w : World} {base s : Nat} {e : TypeId} {A : Option Addr} {n k c : Nat} {xs : List Value} (h : w.ownsRow base e s (.slice A n c) n xs) (hk : k ≤ n) : w.ownsRow base e s (.slice A k c) k (xs.take (k * s)) := by
 have hle : k * s ≤ n * s := Nat.mul_le_mul_right s hk
 refine ⟨by rw [List.length_take, h.1]; omega, ?_⟩
 rcases h.2 with ⟨hv, hn⟩ | ⟨g, cap, cur, hv, hb, hg, hle2, hm, hs, ht⟩
 ·injection hv with h1 _ h3
  subst h1 h3
  obtain rfl : k = 0 := by omega
  exact .inl ⟨rfl, rfl⟩
 ·injection hv with h1 _ h3
  subst h1 h3
  refine .inr ⟨g, c, cur, rfl, hb, hg, by omega, hm, hs, ?_⟩
  rw [← ht, List.take_take]
  congr 1
  omega
theorem MineS.short {s : Nat} {w wr : World} {e : TypeId} {A : Option Addr} {n k c : Nat} {xs : List Value} (h : MineS s w wr e A n c xs) (hk : k ≤ n) : MineS s w wr e A k c (xs.take (k * s)) :=
 ⟨own_shortS h.1 hk, h.2.1, fun g hg => h.2.2 g (by cases A <;> exact hg)⟩
theorem flat_take6 : ∀ {css : List (List Value)} (l : Nat), (∀ c ∈ css, c.length = 6) → (css.take l).flatten = css.flatten.take (l * 6)
 | [], l, _ => by simp
 | c :: css, 0, _ => by simp
 | c :: css, l + 1, h => by
  have h6 := h c List.mem_cons_self
  have ht : c.take ((l + 1) * 6) = c := List.take_of_length_le (by omega)
  rw [List.take_succ_cons, List.flatten_cons, List.flatten_cons, List.take_append, ht, h6, flat_take6 l fun d hd => h d (List.mem_cons_of_mem _ hd), show (l + 1) * 6 - 6 = l * 6 by omega]
end Go.Aff
namespace Go.Proofs.YtplleficmkfniaaGreatDoor
open Go Go.RowKit Go.Aff Go.Json
def Br (w0 : World) (v : Value) (i : Nat) : Prop := w0.heap.size ≤ i ∧ v.ownBlock ≠ some i
structure RowR (w0 w : World) (A : Option Addr) (m c : Nat) (css : List (List Value)) (P : List JV) : Prop where
 own : MineS 6 w0 w 80 A m c css.flatten
 len : P.length = m
 lst : RList (Br w0 (.slice A m c)) w css P
section
variable {w0 w w' : World} {A : Option Addr} {m c : Nat} {css : List (List Value)} {P : List JV}
theorem RowR.nil (w : World) : RowR w w none 0 0 [] [] := ⟨MineS.nil 6 w _, rfl, RList.nil _ w⟩
theorem RowR.stay (h : RowR w0 w A m c css P) (hk : Keeps (fun _ => False) w w') : RowR w0 w' A m c css P := ⟨h.own.keep hk, h.len, h.lst.stay hk⟩
theorem ownBlock_len (A : Option Addr) (n m c d : Nat) : (Value.slice A n c).ownBlock = (Value.slice A m d).ownBlock := by cases A <;> rfl
theorem RowR.grouped (h : RowR w0 w A m c css P) {l : Nat} (hl : l ≤ m) {v : List Value} {j : JV} (hv : RAt (Br w0 (.slice A m c)) w v j) {W : World} (hW : Keeps (fun _ => False) w W) {A' : Option Addr} {c' : Nat}
  (ho : w'.ownsRow 0 80 6 (.slice A' (l + 1) c') (l + 1) (css.flatten.take (l * 6) ++ v)) (hg : W.grownBy w' (Value.slice A l c).ownBlock)
  (hb : (Value.slice A' (l + 1) c').ownBlock = (Value.slice A l c).ownBlock ∨ (Value.slice A' (l + 1) c').ownBlock = some W.heap.size) :
  RowR w0 w' A' (l + 1) c' (css.take l ++ [v]) (P.take l ++ [j]) := by
 have hf : (css.take l ++ [v]).flatten = css.flatten.take (l * 6) ++ v := by
  rw [List.flatten_append, flat_take6 l h.lst.six]
  simp
 have hob := ownBlock_len A l m c c
 refine ⟨?_, by rw [List.length_append, List.length_take, h.len]; simp; omega, ?_⟩
 ·rw [hf]
  exact ((h.own.keep hW).short hl).grown ho hg hb
 ·have hall : Keeps (fun i => (Value.slice A m c).ownBlock = some i) w w' := (hW.mono (fun _ _ h => h.elim)).trans (Keeps.of_grown hg) (fun i _ e => hob ▸ e)
  have hlst : RList (Br w0 (.slice A m c)) w (css.take l ++ [v]) (P.take l ++ [j]) := (h.lst.take l).app (RList.one hv)
  refine ((hlst.mono (C := fun i => Br w0 (.slice A m c) i ∧ i < w.heap.size) fun i hi hlt => ⟨hi, hlt⟩).keep hall fun i hi e => hi.1.2 e).mono fun i hi _ => ⟨hi.1.1, fun e => ?_⟩
  rcases hb with e1 | e1
  ·rw [e1, hob] at e; exact hi.1.2 e
  ·rw [e1] at e
   injection e with e
   have := hW.size
   have := hi.2
   omega
end
end Go.Proofs.YtplleficmkfniaaGreatDoor
