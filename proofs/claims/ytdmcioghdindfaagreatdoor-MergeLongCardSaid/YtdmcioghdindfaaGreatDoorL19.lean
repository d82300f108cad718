/- Texts. -/
import GoSem.Core.Float
import Derived.Laws.Externs
import Derived.Laws.BitsAllLaws
import Derived.Test.YtdmcioghdindfaaGreatDoorL09
set_option linter.unusedSimpArgs false
set_option maxRecDepth 100000
set_option maxHeartbeats 4000000
namespace Go.Flt
open Ieee Go.Json
def sgn (b : Nat) : Bool := b / 9223372036854775808 % 2 == 1
def rng (b : Nat) : Nat := b % 9223372036854775808
def magF (b : Nat) : Nat := if rng b < 4503599627370496 then rng b else 4503599627370496 + rng b % 4503599627370496
def plcF (b : Nat) : Nat := rng b / 4503599627370496 - 1
theorem lw : Format.leastPlace double = -1074 := rfl
theorem rng_fin (b : Nat) : finiteF b = decide (rng b < 9218868437227405312) := by
 unfold finiteF rng
 rw [Bool.eq_iff_iff]
 simp only [Bool.not_eq_true', decide_eq_false_iff_not, decide_eq_true_eq]
 omega
theorem read_eq (b : Nat) : double.read b = if rng b < 4503599627370496 then .number (sgn b) (rng b) (-1074) else if rng b < 9218868437227405312 then .number (sgn b) (4503599627370496 + rng b % 4503599627370496) (-1074 + ((rng b / 4503599627370496 - 1 : Nat) : Int))
  else if rng b = 9218868437227405312 then .infinity (sgn b) else .nan (sgn b) (rng b - 9218868437227405312) := rfl
theorem read_fin {b : Nat} (h : finiteF b = true) : double.read b = .number (sgn b) (magF b) (-1074 + (plcF b : Int)) := by
 rw [rng_fin, decide_eq_true_eq] at h
 rw [read_eq]
 unfold magF plcF
 split
 ·rename_i h1
  congr 1
  omega
 rfl
theorem order_self {b : Nat} (h : finiteF b = true) : double.order b b = some .eq := by
 unfold Format.order Datum.order
 rw [read_fin h]
 simp
theorem abs_fin (b : Nat) : finiteF (rng b) = finiteF b := by
 rw [rng_fin, rng_fin]
 unfold rng
 congr 2
 omega
theorem mag_lt (b : Nat) : magF b < 9007199254740992 := by
 unfold magF
 split <;> omega
theorem max_read : double.read 9218868437227405311 = .number false 9007199254740991 971 := by decide +kernel
theorem order_max {b : Nat} (h : finiteF b = true) : double.order (rng b) 9218868437227405311 ≠ some .gt := by
 have hp : plcF (rng b) ≤ 2045 := by
  have h2 := abs_fin b
  rw [h, rng_fin, decide_eq_true_eq] at h2
  unfold plcF
  omega
 have hm := mag_lt (rng b)
 unfold Format.order Datum.order
 rw [read_fin ((abs_fin b).trans h), max_read]
 have hs : sgn (rng b) = false := by
  unfold sgn rng
  rw [Nat.div_eq_of_lt (Nat.mod_lt _ (by decide))]
  rfl
 rw [hs]
 have hmin : min (-1074 + (plcF (rng b) : Int)) 971 = -1074 + (plcF (rng b) : Int) := by omega
 simp only [hmin, Int.sub_self, Int.toNat_zero]
 intro e
 injection e with e
 have e := Int.compare_eq_gt.1 e
 unfold signed at e
 simp only [Bool.false_eq_true, if_false, Nat.shiftLeft_eq, Nat.pow_zero, Nat.mul_one] at e
 have h1 := Nat.one_le_two_pow (n := (971 - (-1074 + (plcF (rng b) : Int))).toNat)
 have h2 : 9007199254740991 * 1 ≤ 9007199254740991 * 2 ^ (971 - (-1074 + (plcF (rng b) : Int))).toNat := Nat.mul_le_mul_left _ h1
 omega
theorem rng_mag (b : Nat) : rng b = magF b + plcF b * 4503599627370496 := by
 unfold magF plcF
 split <;> omega
theorem mag_ge {b : Nat} (h : 1 ≤ plcF b) : 4503599627370496 ≤ magF b := by
 unfold plcF at h
 unfold magF
 split <;> omega
def vF (b k : Nat) : Int := signed (sgn b) (magF b) (plcF b - k)
theorem order_fin {a b : Nat} (ha : finiteF a = true) (hb : finiteF b = true) : double.order a b = some (compare (vF a (min (plcF a) (plcF b))) (vF b (min (plcF a) (plcF b)))) := by
 unfold Format.order Datum.order vF
 rw [read_fin ha, read_fin hb]
 have h1 : (-1074 + (plcF a : Int) - min (-1074 + (plcF a : Int)) (-1074 + (plcF b : Int))).toNat = plcF a - min (plcF a) (plcF b) := by omega
 have h2 : (-1074 + (plcF b : Int) - min (-1074 + (plcF a : Int)) (-1074 + (plcF b : Int))).toNat = plcF b - min (plcF a) (plcF b) := by omega
 simp only [h1, h2]
theorem signed_zero (s : Bool) (m k : Nat) : signed s m k = 0 ↔ m = 0 := by
 unfold signed
 rw [Nat.shiftLeft_eq]
 have h1 := Nat.one_le_two_pow (n := k)
 have h2 : m * 2 ^ k = 0 ↔ m = 0 := by
  constructor
  ·intro h
   rcases Nat.mul_eq_zero.1 h with h | h
   ·exact h
   omega
  intro h; rw [h, Nat.zero_mul]
 split <;> omega
theorem signed_inj {s t : Bool} {m n k l : Nat} (h : signed s m k = signed t n l) : m * 2 ^ k = n * 2 ^ l ∧ (m ≠ 0 → s = t) := by
 unfold signed at h
 rw [Nat.shiftLeft_eq, Nat.shiftLeft_eq] at h
 have h1 := Nat.one_le_two_pow (n := k)
 have h2 : m ≠ 0 → 0 < m * 2 ^ k := fun h => Nat.mul_pos (by omega) (by omega)
 generalize m * 2 ^ k = X at *
 generalize n * 2 ^ l = Y at *
 cases s <;> cases t <;> simp at h
 ·exact ⟨by omega, fun _ => rfl⟩
 ·refine ⟨by omega, fun h3 => ?_⟩
  have := h2 h3
  omega
 ·refine ⟨by omega, fun h3 => ?_⟩
  have := h2 h3
  omega
 exact ⟨by omega, fun _ => rfl⟩
theorem mag_shift {a b : Nat} (h : magF a * 2 ^ (plcF a - min (plcF a) (plcF b)) = magF b * 2 ^ (plcF b - min (plcF a) (plcF b))) : rng a = rng b := by
 have hlt := mag_lt a
 have hlt2 := mag_lt b
 have key : ∀ {x y k : Nat}, x < 9007199254740992 → 4503599627370496 ≤ y → 1 ≤ k → x = y * 2 ^ k → False := by
  intro x y k h1 h2 h3 h4
  have h5 : 2 ^ 1 ≤ 2 ^ k := Nat.pow_le_pow_right (by decide) h3
  have h6 : y * 2 ^ 1 ≤ y * 2 ^ k := Nat.mul_le_mul_left _ h5
  omega
 rcases Nat.lt_trichotomy (plcF a) (plcF b) with hp | hp | hp
 ·have hm : min (plcF a) (plcF b) = plcF a := by omega
  rw [hm, Nat.sub_self, Nat.pow_zero, Nat.mul_one] at h
  exact (key hlt (mag_ge (by omega)) (by omega) h).elim
 ·rw [hp, Nat.min_self, Nat.sub_self, Nat.pow_zero, Nat.mul_one, Nat.mul_one] at h
  rw [rng_mag a, rng_mag b, h, hp]
 have hm : min (plcF a) (plcF b) = plcF b := by omega
 rw [hm, Nat.sub_self, Nat.pow_zero, Nat.mul_one] at h
 exact (key hlt2 (mag_ge (by omega)) (by omega) h.symm).elim
theorem mag_zero {b : Nat} : magF b = 0 ↔ rng b = 0 := by
 have h := rng_mag b
 constructor
 ·intro h2
  rcases Nat.eq_zero_or_pos (plcF b) with h3 | h3
  ·rw [h, h2, h3]
  have := mag_ge h3; omega
 intro h2; omega
theorem sgn_rng {a b : Nat} (ha : a < 18446744073709551616) (hb : b < 18446744073709551616) (hs : sgn a = sgn b) (hr : rng a = rng b) : a = b := by
 unfold sgn at hs
 unfold rng at hr
 have h1 : a / 9223372036854775808 = 0 ∨ a / 9223372036854775808 = 1 := by omega
 have h2 : b / 9223372036854775808 = 0 ∨ b / 9223372036854775808 = 1 := by omega
 rcases h1 with h1 | h1 <;> rcases h2 with h2 | h2 <;> rw [h1, h2] at hs <;> simp at hs <;> omega
theorem order_eq {a b : Nat} (ha : finiteF a = true) (hb : finiteF b = true) (ha2 : a < 18446744073709551616) (hb2 : b < 18446744073709551616) (hna : a ≠ 9223372036854775808) (hnb : b ≠ 9223372036854775808) :
  (double.order a b == some .eq) = decide (a = b) := by
 rw [Bool.eq_iff_iff, decide_eq_true_iff, beq_iff_eq]
 constructor
 ·intro h
  rw [order_fin ha hb] at h
  injection h with h
  have h := Int.compare_eq_eq.1 h
  obtain ⟨h1, h2⟩ := signed_inj h
  have hr := mag_shift h1
  by_cases hz : magF a = 0
  ·have z1 := mag_zero.1 hz
   have z2 := hr ▸ z1
   unfold rng at z1 z2
   omega
  exact sgn_rng ha2 hb2 (h2 hz) hr
 rintro rfl
 exact order_self ha
theorem order_zero {b : Nat} (h : finiteF b = true) (hb : b < 18446744073709551616) : (double.order b 0 == some .eq) = decide (b = 0 ∨ b = 9223372036854775808) := by
 rw [Bool.eq_iff_iff, decide_eq_true_iff, beq_iff_eq, order_fin h (by decide)]
 have h0 : vF 0 (min (plcF b) (plcF 0)) = 0 := (signed_zero _ _ _).2 (by decide)
 rw [h0]
 constructor
 ·intro e
  injection e with e
  have e := mag_zero.1 ((signed_zero _ _ _).1 (Int.compare_eq_eq.1 e))
  unfold rng at e
  omega
 intro e
 have : vF b (min (plcF b) (plcF 0)) = 0 := (signed_zero _ _ _).2 (mag_zero.2 (by unfold rng; omega))
 rw [this]
 rfl
theorem order_not {b : Nat} (h : finiteF b = false) : double.order b b ≠ some .eq ∨ double.order (rng b) 9218868437227405311 = some .gt := by
 rw [rng_fin, decide_eq_false_iff_not] at h
 rcases Nat.eq_or_lt_of_le (Nat.le_of_not_lt h) with h1 | h1
 ·right
  rw [← h1]
  decide +kernel
 left
 unfold Format.order
 rw [read_eq, if_neg (by omega), if_neg (by omega), if_neg (by omega)]
 unfold Datum.order
 simp
end Go.Flt
namespace Go.Proofs.YtdmcioghdindfaaGreatDoor
open Go Go.RowKit Go.Aff Go.Json Go.Flt
theorem frombits (n : Int) (w : World) : (callFunc 79 #[.int .u64 n]).run Tryz.prog w = .ok (.value (.float .f64 n.toNat)) w := by
 rw [run_callFunc_extern Tryz.func79 (by kernel_rfl) (by kernel_rfl) (by kernel_rfl) (e := Extern.MathFloatBits.float64frombits) (by kernel_rfl)]
 rfl
theorem bitsof (n : Nat) (w : World) : (callFunc 137 #[.float .f64 n]).run Tryz.prog w = .ok (.value (.int .u64 n)) w := by
 rw [run_callFunc_extern Tryz.func137 (by kernel_rfl) (by kernel_rfl) (by kernel_rfl) (e := Extern.MathFloatBits.float64bits) (by kernel_rfl)]
 rfl
theorem u64_abs (b : Nat) (hb : b < 18446744073709551616) : bits .andNot .u64 (b : Int) 9223372036854775808 = ((rng b : Nat) : Int) := by
 show IntKind.u64.wrap ((BitVec.ofInt 64 (b : Int) &&& ~~~ BitVec.ofInt 64 9223372036854775808).toNat : Int) = _
 have h1 : ~~~ BitVec.ofInt 64 9223372036854775808 = BitVec.ofNat 64 9223372036854775807 := by decide
 have h2 : b &&& 9223372036854775807 = b % 9223372036854775808 := Nat.and_two_pow_sub_one_eq_mod b 63
 rw [h1, BitVec.toNat_and, ofInt_u64 b hb]
 have h3 : (BitVec.ofNat 64 9223372036854775807).toNat = 9223372036854775807 := by decide
 rw [h3, h2]
 unfold rng
 simp [IntKind.wrap, IntKind.bits, IntKind.signed]
 omega
theorem isnan_any (w : World) (b : Nat) : Calls Tryz.prog 80 #[.float .f64 b] w fun e w' => e = .returned (.bool (Ieee.double.order b b != some .eq)) ∧ w' = w := by
 go_enter Tryz.func80, Tryz.ntmps80
 go_wp2
 go_ret
 exact ⟨rfl, rfl⟩
theorem abs_any (w : World) (b : Nat) (hb : b < 18446744073709551616) : Calls Tryz.prog 112 #[.float .f64 b] w fun e w' => e = .returned (.float .f64 (rng b)) ∧ w' = w := by
 have h1 := frombits
 have h2 := bitsof
 go_enter Tryz.func112, Tryz.ntmps112
 go_wp2
 go_ret
 exact ⟨by show Ending.returned (.float .f64 (bits .andNot .u64 (b : Int) 9223372036854775808).toNat) = _; rw [u64_abs b hb]; rfl, rfl⟩
theorem isinf_any (w : World) (b : Nat) (hb : b < 18446744073709551616) : Calls Tryz.prog 81 #[.float .f64 b, .int .i64 0] w fun e w' => e = .returned (.bool (Ieee.double.order (rng b) 9218868437227405311 == some .gt)) ∧ w' = w := by
 have HA := H_ (abs_any w b hb)
 go_enter Tryz.func81, Tryz.ntmps81
 go_wp2_with (go_at_call 112; refine HA.out.mono ?_; rintro e w2 ⟨rfl, rfl⟩)
 go_ret
 exact ⟨rfl, rfl⟩
def numN (b : Nat) : Nat := if b = 9223372036854775808 then 0 else b
theorem doF_ok_num {P : List JV} {s : StepV} (hu : usedF s = true) (hs : s.sort = 3) (hf : finiteF s.bits = true) : doF P s = .inr (P ++ [JV.num (numN s.bits)]) := by
 obtain ⟨u1, u2, u3, _, _, _⟩ := used_parts hu
 have k := u3 (by omega)
 have ct := u2 (by omega)
 have hw : (JV.num (numN s.bits)).within := by simp [JV.within, JV.nodes, JV.bytes, JV.deep]
 have hm : mkV s [] = JV.num (numN s.bits) := by simp [mkV, hs, numN]
 unfold doF
 rw [if_neg (by rw [hu]; decide), if_neg (by rw [hf]; simp), if_neg (by rw [right_empty (u1 (by omega)), k]; simp), if_neg (by rw [k]; simp), if_neg (by rw [k, ct]; simp)]
 have hz : s.count.toNat + s.keys.length = 0 := by rw [k, ct]; rfl
 rw [hz, Nat.sub_zero, List.drop_length, List.take_length, hm, if_neg (by simpa using hw)]
theorem doF_bad_num {P : List JV} {s : StepV} (hu : usedF s = true) (hs : s.sort = 3) (hf : finiteF s.bits = false) : doF P s = .inl 104 := by
 unfold doF
 rw [if_neg (by rw [hu]; decide), if_pos ⟨hs, hf⟩]
theorem do_num_nan (T : TypeId) (D : Nat → Prop) (w : World) (p : Nat) (A : Option Addr) (c : Nat) (vs : List Value) (P : List JV) (h : RowAt T D w p A c vs P) (hn : P.length ≤ 1048576) (s : StepV) (B : Option Addr) (d : Nat) (hu : usedF s = true) (hs : s.sort = 3) (hbits : s.bits < 18446744073709551616) (hf : finiteF s.bits = false) (hq : (Ieee.double.order s.bits s.bits != some .eq) = true) :
  Calls Tryz.prog 48 #[.pointer (some ⟨p, 0, none⟩), .agg (stepV s B d).toArray] w (DoPost T D w p (.slice A P.length c) P s) := by
 have _ := hn
 have HQ := H_ (DoQ.made w s B d)
 obtain ⟨SV, hSV⟩ : ∃ SV, SV = stepV s B d := ⟨_, rfl⟩
 rw [← hSV] at HQ ⊢
 have HU : Hid (∀ W, Calls Tryz.prog 77 #[.agg SV.toArray] W fun e w' => e = .returned (.bool true) ∧ Keeps (fun _ => False) W w') := H_ fun W => by
  have := used_any W s B d
  rw [hu, ← hSV] at this
  exact this
 have HSI : Hid ((Tryz.prog.info? 53).map (·.size) = some SV.length) := H_ (by rw [hSV, stepV_len]; kernel_rfl)
 have HS := H_ hs
 have HR := H_ h
 have hmf : ∀ (fn : Fn) (first cap : Array Value) (w : World), (Instr.makeFunc fn first cap).run Tryz.prog w = .ok (.func fn first cap) w := fun _ _ _ _ => rfl
 clear h hSV
 have _ := hbits
 have HD : Hid (doF P s = .inl 104) := H_ (doF_bad_num hu hs hf)
 have hfb : ∀ W, (callFunc 79 #[.int .u64 s.bits]).run Tryz.prog W = .ok (.value (.float .f64 s.bits)) W := fun W => frombits _ W
 have HNA := H_ fun W => isnan_any W s.bits
 rw [hq] at HNA
 clear hf hq
 go_enter_defers Tryz.func48, Tryz.ntmps48
 go_wp2_with (first
  | ((with_reducible show wpList _ _ _ (⟨some 8, _, _, _, _, _⟩ :: _) _ _); refine wpList_load_whole rfl 53 _ rfl _ rfl HQ.out.blk Tryz.underlying53 rfl HSI.out ?_)
  | (go_at_call 77; refine (HU.out _).mono ?_; rintro e w2 ⟨rfl, hk2⟩; have HQ2 := H_ (HQ.out.stay hk2); obtain ⟨s0, s1, s2, s3, s4, s5⟩ := HQ2.out.cells; rw [HS.out] at s0; have tk : True := trivial; clear hk2)
  | (go_at_call 76; have _t := tk; clear tk; refine (refuse_ok _ _).mono ?_; rintro e w3 ⟨he, rfl⟩; subst he; clear _t)
  | (go_at_call 80; refine (HNA.out _).mono ?_; rintro e w5 ⟨rfl, rfl⟩)
  | (go_at_call 76; refine (refuse_no _ _).mono ?_; rintro e w3 ⟨he, rfl⟩; unfold errP at he; subst he))
 have hbe := HQ2.out.err
 refine leaves_cons (f := 75) (args := #[.pointer (some ⟨w.heap.size + 1, 0, none⟩)]) (by simp) (by simp [go_sem]) ?_
 refine (do_catch (w.heap.size + 1) 104 [] _ hbe).mono ?_
 rintro e u' w'' ⟨rfl, rfl, hb, hk⟩
 refine ⟨_, results_err rfl _ _ _ _ rfl hb, ?_⟩
 unfold DoPost
 rw [HD.out]
 exact ⟨rfl, HQ2.out.keep.trans hk (fun i hi e => by omega)⟩
theorem do_num_inf (T : TypeId) (D : Nat → Prop) (w : World) (p : Nat) (A : Option Addr) (c : Nat) (vs : List Value) (P : List JV) (h : RowAt T D w p A c vs P) (hn : P.length ≤ 1048576) (s : StepV) (B : Option Addr) (d : Nat) (hu : usedF s = true) (hs : s.sort = 3) (hbits : s.bits < 18446744073709551616) (hf : finiteF s.bits = false) (hq : (Ieee.double.order s.bits s.bits != some .eq) = false) (hi : (Ieee.double.order (rng s.bits) 9218868437227405311 == some .gt) = true) :
  Calls Tryz.prog 48 #[.pointer (some ⟨p, 0, none⟩), .agg (stepV s B d).toArray] w (DoPost T D w p (.slice A P.length c) P s) := by
 have _ := hn
 have HQ := H_ (DoQ.made w s B d)
 obtain ⟨SV, hSV⟩ : ∃ SV, SV = stepV s B d := ⟨_, rfl⟩
 rw [← hSV] at HQ ⊢
 have HU : Hid (∀ W, Calls Tryz.prog 77 #[.agg SV.toArray] W fun e w' => e = .returned (.bool true) ∧ Keeps (fun _ => False) W w') := H_ fun W => by
  have := used_any W s B d
  rw [hu, ← hSV] at this
  exact this
 have HSI : Hid ((Tryz.prog.info? 53).map (·.size) = some SV.length) := H_ (by rw [hSV, stepV_len]; kernel_rfl)
 have HS := H_ hs
 have HR := H_ h
 have hmf : ∀ (fn : Fn) (first cap : Array Value) (w : World), (Instr.makeFunc fn first cap).run Tryz.prog w = .ok (.func fn first cap) w := fun _ _ _ _ => rfl
 clear h hSV
 have HD : Hid (doF P s = .inl 104) := H_ (doF_bad_num hu hs hf)
 have hfb : ∀ W, (callFunc 79 #[.int .u64 s.bits]).run Tryz.prog W = .ok (.value (.float .f64 s.bits)) W := fun W => frombits _ W
 have HNA := H_ fun W => isnan_any W s.bits
 have HIN := H_ fun W => isinf_any W s.bits hbits
 rw [hq] at HNA
 rw [hi] at HIN
 clear hf hq hi
 go_enter_defers Tryz.func48, Tryz.ntmps48
 go_wp2_with (first
  | ((with_reducible show wpList _ _ _ (⟨some 8, _, _, _, _, _⟩ :: _) _ _); refine wpList_load_whole rfl 53 _ rfl _ rfl HQ.out.blk Tryz.underlying53 rfl HSI.out ?_)
  | (go_at_call 77; refine (HU.out _).mono ?_; rintro e w2 ⟨rfl, hk2⟩; have HQ2 := H_ (HQ.out.stay hk2); obtain ⟨s0, s1, s2, s3, s4, s5⟩ := HQ2.out.cells; rw [HS.out] at s0; have tk : True := trivial; clear hk2)
  | (go_at_call 76; have _t := tk; clear tk; refine (refuse_ok _ _).mono ?_; rintro e w3 ⟨he, rfl⟩; subst he; clear _t)
  | (go_at_call 80; refine (HNA.out _).mono ?_; rintro e w5 ⟨rfl, rfl⟩)
  | (go_at_call 81; refine (HIN.out _).mono ?_; rintro e w5 ⟨rfl, rfl⟩)
  | (go_at_call 76; refine (refuse_no _ _).mono ?_; rintro e w3 ⟨he, rfl⟩; unfold errP at he; subst he))
 have hbe := HQ2.out.err
 refine leaves_cons (f := 75) (args := #[.pointer (some ⟨w.heap.size + 1, 0, none⟩)]) (by simp) (by simp [go_sem]) ?_
 refine (do_catch (w.heap.size + 1) 104 [] _ hbe).mono ?_
 rintro e u' w'' ⟨rfl, rfl, hb, hk⟩
 refine ⟨_, results_err rfl _ _ _ _ rfl hb, ?_⟩
 unfold DoPost
 rw [HD.out]
 exact ⟨rfl, HQ2.out.keep.trans hk (fun i hi e => by omega)⟩
theorem do_num_zero (T : TypeId) (D : Nat → Prop) (w : World) (p : Nat) (A : Option Addr) (c : Nat) (vs : List Value) (P : List JV) (h : RowAt T D w p A c vs P) (hn : P.length ≤ 1048576) (s : StepV) (B : Option Addr) (d : Nat) (hu : usedF s = true) (hs : s.sort = 3) (hbits : s.bits < 18446744073709551616) (hf : finiteF s.bits = true) (hz : (FloatKind.f64.format.order s.bits 0 == some Ordering.eq) = true) (hv : numN s.bits = 0) :
  Calls Tryz.prog 48 #[.pointer (some ⟨p, 0, none⟩), .agg (stepV s B d).toArray] w (DoPost T D w p (.slice A P.length c) P s) := by
 have _ := hn
 have HQ := H_ (DoQ.made w s B d)
 obtain ⟨SV, hSV⟩ : ∃ SV, SV = stepV s B d := ⟨_, rfl⟩
 rw [← hSV] at HQ ⊢
 have HU : Hid (∀ W, Calls Tryz.prog 77 #[.agg SV.toArray] W fun e w' => e = .returned (.bool true) ∧ Keeps (fun _ => False) W w') := H_ fun W => by
  have := used_any W s B d
  rw [hu, ← hSV] at this
  exact this
 have HSI : Hid ((Tryz.prog.info? 53).map (·.size) = some SV.length) := H_ (by rw [hSV, stepV_len]; kernel_rfl)
 have HS := H_ hs
 have HR := H_ h
 have hmf : ∀ (fn : Fn) (first cap : Array Value) (w : World), (Instr.makeFunc fn first cap).run Tryz.prog w = .ok (.func fn first cap) w := fun _ _ _ _ => rfl
 clear h hSV
 have HD : Hid (doF P s = .inr (P ++ [JV.num (0)])) := H_ (by rw [doF_ok_num hu hs hf, hv])
 have hfb : ∀ W, (callFunc 79 #[.int .u64 s.bits]).run Tryz.prog W = .ok (.value (.float .f64 s.bits)) W := fun W => frombits _ W
 have HNA := H_ fun W => isnan_any W s.bits
 have HIN := H_ fun W => isinf_any W s.bits hbits
 have hq : (Ieee.double.order s.bits s.bits != some .eq) = false := by rw [order_self hf]; rfl
 have hi : (Ieee.double.order (rng s.bits) 9218868437227405311 == some .gt) = false := by simpa using order_max hf
 rw [hq] at HNA
 rw [hi] at HIN
 have HP : Hid (∀ W, Keeps (fun _ => False) w W → Calls Tryz.prog 78 #[.pointer (some ⟨p, 0, none⟩), .iface 172 (.float .f64 0)] W fun e w' => e = .returned (.tuple #[]) ∧ RowPost T D W p (.slice A P.length c) (P ++ [JV.num 0]) w') := H_ fun W hW =>
  put_number T D W p A c vs P (HR.out.stay hW) hn _ (.num _ (by decide) (by decide) (by decide)) true (by decide)
 clear hf hq hi hv
 go_enter_defers Tryz.func48, Tryz.ntmps48
 go_wp2_with (first
  | ((with_reducible show wpList _ _ _ (⟨some 8, _, _, _, _, _⟩ :: _) _ _); refine wpList_load_whole rfl 53 _ rfl _ rfl HQ.out.blk Tryz.underlying53 rfl HSI.out ?_)
  | (go_at_call 77; refine (HU.out _).mono ?_; rintro e w2 ⟨rfl, hk2⟩; have HQ2 := H_ (HQ.out.stay hk2); obtain ⟨s0, s1, s2, s3, s4, s5⟩ := HQ2.out.cells; rw [HS.out] at s0; have tk : True := trivial; clear hk2)
  | (go_at_call 76; refine (refuse_ok _ _).mono ?_; rintro e w3 ⟨he, rfl⟩; subst he)
  | (go_at_call 80; refine (HNA.out _).mono ?_; rintro e w5 ⟨rfl, rfl⟩)
  | (go_at_call 81; refine (HIN.out _).mono ?_; rintro e w5 ⟨rfl, rfl⟩)
  | (go_at_call 78; refine (HP.out _ HQ2.out.keep).mono ?_; rintro e w4 ⟨rfl, hr4⟩; have hbe := HQ2.out.err_row HR.out hr4.2; have HR4 := H_ hr4; have HBE := H_ hbe; have c0 := hbe.cell 0; have f0 := hbe.frozen 0; clear hr4 hbe))
 rw [set_same HBE.out]
 refine leaves_cons (f := 75) (args := #[.pointer (some ⟨w.heap.size + 1, 0, none⟩)]) (by simp) (by simp [go_sem]) ?_
 refine (do_idle ⟨w.heap.size + 1, 0, none⟩ _).mono ?_
 rintro e u' w'' ⟨rfl, rfl, rfl⟩
 refine ⟨_, results_err rfl _ _ _ _ rfl HBE.out, ?_⟩
 unfold DoPost
 rw [HD.out]
 exact ⟨rfl, HR4.out.1, (HQ2.out.keep.mono (fun _ _ h => h.elim)).trans HR4.out.2 (fun _ _ h => h)⟩
theorem do_num_some (T : TypeId) (D : Nat → Prop) (w : World) (p : Nat) (A : Option Addr) (c : Nat) (vs : List Value) (P : List JV) (h : RowAt T D w p A c vs P) (hn : P.length ≤ 1048576) (s : StepV) (B : Option Addr) (d : Nat) (hu : usedF s = true) (hs : s.sort = 3) (hbits : s.bits < 18446744073709551616) (hf : finiteF s.bits = true) (hz : (FloatKind.f64.format.order s.bits 0 == some Ordering.eq) = false) (hv : numN s.bits = s.bits) (hn0 : s.bits ≠ 9223372036854775808) :
  Calls Tryz.prog 48 #[.pointer (some ⟨p, 0, none⟩), .agg (stepV s B d).toArray] w (DoPost T D w p (.slice A P.length c) P s) := by
 have _ := hn
 have HQ := H_ (DoQ.made w s B d)
 obtain ⟨SV, hSV⟩ : ∃ SV, SV = stepV s B d := ⟨_, rfl⟩
 rw [← hSV] at HQ ⊢
 have HU : Hid (∀ W, Calls Tryz.prog 77 #[.agg SV.toArray] W fun e w' => e = .returned (.bool true) ∧ Keeps (fun _ => False) W w') := H_ fun W => by
  have := used_any W s B d
  rw [hu, ← hSV] at this
  exact this
 have HSI : Hid ((Tryz.prog.info? 53).map (·.size) = some SV.length) := H_ (by rw [hSV, stepV_len]; kernel_rfl)
 have HS := H_ hs
 have HR := H_ h
 have hmf : ∀ (fn : Fn) (first cap : Array Value) (w : World), (Instr.makeFunc fn first cap).run Tryz.prog w = .ok (.func fn first cap) w := fun _ _ _ _ => rfl
 clear h hSV
 have HD : Hid (doF P s = .inr (P ++ [JV.num (s.bits)])) := H_ (by rw [doF_ok_num hu hs hf, hv])
 have hfb : ∀ W, (callFunc 79 #[.int .u64 s.bits]).run Tryz.prog W = .ok (.value (.float .f64 s.bits)) W := fun W => frombits _ W
 have HNA := H_ fun W => isnan_any W s.bits
 have HIN := H_ fun W => isinf_any W s.bits hbits
 have hq : (Ieee.double.order s.bits s.bits != some .eq) = false := by rw [order_self hf]; rfl
 have hi : (Ieee.double.order (rng s.bits) 9218868437227405311 == some .gt) = false := by simpa using order_max hf
 rw [hq] at HNA
 rw [hi] at HIN
 have HP : Hid (∀ W, Keeps (fun _ => False) w W → Calls Tryz.prog 78 #[.pointer (some ⟨p, 0, none⟩), .iface 172 (.float .f64 s.bits)] W fun e w' => e = .returned (.tuple #[]) ∧ RowPost T D W p (.slice A P.length c) (P ++ [JV.num s.bits]) w') := H_ fun W hW =>
  put_number T D W p A c vs P (HR.out.stay hW) hn _ (.num _ hf hn0 hbits) true (by decide)
 clear hf hq hi hv
 go_enter_defers Tryz.func48, Tryz.ntmps48
 go_wp2_with (first
  | ((with_reducible show wpList _ _ _ (⟨some 8, _, _, _, _, _⟩ :: _) _ _); refine wpList_load_whole rfl 53 _ rfl _ rfl HQ.out.blk Tryz.underlying53 rfl HSI.out ?_)
  | (go_at_call 77; refine (HU.out _).mono ?_; rintro e w2 ⟨rfl, hk2⟩; have HQ2 := H_ (HQ.out.stay hk2); obtain ⟨s0, s1, s2, s3, s4, s5⟩ := HQ2.out.cells; rw [HS.out] at s0; have tk : True := trivial; clear hk2)
  | (go_at_call 76; refine (refuse_ok _ _).mono ?_; rintro e w3 ⟨he, rfl⟩; subst he)
  | (go_at_call 80; refine (HNA.out _).mono ?_; rintro e w5 ⟨rfl, rfl⟩)
  | (go_at_call 81; refine (HIN.out _).mono ?_; rintro e w5 ⟨rfl, rfl⟩)
  | (go_at_call 78; refine (HP.out _ HQ2.out.keep).mono ?_; rintro e w4 ⟨rfl, hr4⟩; have hbe := HQ2.out.err_row HR.out hr4.2; have HR4 := H_ hr4; have HBE := H_ hbe; have c0 := hbe.cell 0; have f0 := hbe.frozen 0; clear hr4 hbe))
 rw [set_same HBE.out]
 refine leaves_cons (f := 75) (args := #[.pointer (some ⟨w.heap.size + 1, 0, none⟩)]) (by simp) (by simp [go_sem]) ?_
 refine (do_idle ⟨w.heap.size + 1, 0, none⟩ _).mono ?_
 rintro e u' w'' ⟨rfl, rfl, rfl⟩
 refine ⟨_, results_err rfl _ _ _ _ rfl HBE.out, ?_⟩
 unfold DoPost
 rw [HD.out]
 exact ⟨rfl, HR4.out.1, (HQ2.out.keep.mono (fun _ _ h => h.elim)).trans HR4.out.2 (fun _ _ h => h)⟩
theorem do_num_spec (s : StepV) (hu : usedF s = true) (hs : s.sort = 3) (hbits : s.bits < 18446744073709551616) (T : TypeId) (D : Nat → Prop) (w : World) (p : Nat) (A : Option Addr) (c : Nat) (vs : List Value) (P : List JV) (h : RowAt T D w p A c vs P) (hn : P.length ≤ 1048576) (B : Option Addr) (d : Nat) :
  Calls Tryz.prog 48 #[.pointer (some ⟨p, 0, none⟩), .agg (stepV s B d).toArray] w (DoPost T D w p (.slice A P.length c) P s) := by
 cases hf : finiteF s.bits
 ·rcases hq : (Ieee.double.order s.bits s.bits != some .eq) with _ | _
  ·have hi := (order_not hf).resolve_left (by simpa using hq)
   exact do_num_inf T D w p A c vs P h hn s B d hu hs hbits hf hq (by rw [hi]; rfl)
  exact do_num_nan T D w p A c vs P h hn s B d hu hs hbits hf hq
 have hz := order_zero hf hbits
 by_cases h0 : s.bits = 0 ∨ s.bits = 9223372036854775808
 ·exact do_num_zero T D w p A c vs P h hn s B d hu hs hbits hf (by exact hz.trans (by simp [h0])) (by unfold numN; rcases h0 with h0 | h0 <;> simp [h0])
 exact do_num_some T D w p A c vs P h hn s B d hu hs hbits hf (by exact hz.trans (by simp [h0])) (by unfold numN; rw [if_neg (fun e => h0 (.inr e))]) (fun e => h0 (.inr e))
end Go.Proofs.YtdmcioghdindfaaGreatDoor
namespace Go.Json
theorem doF_within {P P' : List JV} {s : StepV} (h : doF P s = .inr P') (hP : ∀ j ∈ P, j.within) : ∀ j ∈ P', j.within := by
 unfold doF at h
 repeat' split at h
 all_goals first | (cases h; done) | skip
 rename_i hw
 injection h with h
 subst h
 intro j hj
 rcases List.mem_append.1 hj with hj | hj
 ·exact hP j (List.mem_of_mem_take hj)
 rw [List.mem_singleton.1 hj]; exact Decidable.of_not_not hw
theorem doF_length {P P' : List JV} {s : StepV} (h : doF P s = .inr P') : P'.length ≤ P.length + 1 := by
 unfold doF at h
 repeat' split at h
 all_goals first | (cases h; done) | skip
 injection h with h
 subst h
 rw [List.length_append, List.length_take]
 simp
end Go.Json
namespace Go.Proofs.YtdmcioghdindfaaGreatDoor
open Go Go.RowKit Go.Aff Go.Json
def StepsAt (w : World) (A : Option Addr) (l : List StepV) : Prop := ∀ (k : Nat) (s : StepV), l[k]? = some s → ∃ g o B d, A = some ⟨g, o, none⟩ ∧ w.rangeAt g (o + k * 6) (stepV s B d) ∧ Rd w B s.keys.length (s.keys.map .string)
theorem StepsAt.keep {w w' : World} {A : Option Addr} {l : List StepV} (h : StepsAt w A l) (hk : Keeps (fun _ => False) w w') : StepsAt w' A l := fun k s hs => by
 obtain ⟨g, o, B, d, e, hr, hb⟩ := h k s hs
 exact ⟨g, o, B, d, e, fun j v hj => cell_keep hk (hr j v hj), hb.keep hk (fun _ _ _ h => h)⟩
def spotE (n a : Int) : Value := .iface 103 (.agg #[.int .i64 n, .int .i64 a])
theorem stepV_one (s : StepV) (B : Option Addr) (d : Nat) : ∀ u ∈ stepV s B d, u.oneCell' = true := by
 intro u hu
 simp only [stepV, List.mem_cons, List.not_mem_nil, or_false] at hu
 rcases hu with rfl | rfl | rfl | rfl | rfl | rfl <;> rfl
def stepZ : List Value := [.int .i64 0, .bool false, .int .u64 0, .string ⟨#[]⟩, .int .i64 0, .slice none 0 0]
def DoSpec (s : StepV) : Prop := ∀ (T : TypeId) (D : Nat → Prop) (w : World) (p : Nat) (A : Option Addr) (c : Nat) (vs : List Value) (P : List JV), RowAt T D w p A c vs P → P.length ≤ 1048576 → (∀ j ∈ P, j.within) →
 ∀ (B : Option Addr) (d : Nat), Rd w B s.keys.length (s.keys.map .string) → Calls Tryz.prog 48 #[.pointer (some ⟨p, 0, none⟩), .agg (stepV s B d).toArray] w (DoPost T D w p (.slice A P.length c) P s)
theorem do_null_spec (s : StepV) (hu : usedF s = true) (hs : s.sort = 1) : DoSpec s := fun T D w p A c vs P h hn _ B d _ => do_null T D w p A c vs P h hn s B d hu hs
def BuildPost (w : World) (l : List StepV) (e : Ending) (w' : World) : Prop := Keeps (fun _ => False) w w' ∧ match buildF l with
 | .inl (k, none) => e = .returned (.tuple #[.pointer none, errE k])
 | .inl (k, some i) => e = .returned (.tuple #[.pointer none, spotE k i])
 | .inr j => ∃ q v, e = .returned (.tuple #[.pointer (some ⟨q, 0, none⟩), .nilIface]) ∧ TreeAt (fun i => w.heap.size ≤ i) w' q v j ∧ j.within
structure Building (w wr : World) (l : List StepV) (k : Nat) (A : Option Addr) (c : Nat) (vs : List Value) (P : List JV) : Prop where
 row : RowAt 108 (fun i => w.heap.size ≤ i) wr w.heap.size A c vs P
 keep : Keeps (fun _ => False) w wr
 run : rowF 0 [] l = rowF k P (l.drop k)
 few : P.length ≤ k
 inn : ∀ j ∈ P, j.within
theorem keep_lo {w w' wr : World} {F : Nat → Prop} (h : Keeps (fun _ => False) w wr) (k : Keeps F wr w') (hF : ∀ i, F i → w.heap.size ≤ i) : Keeps (fun _ => False) w w' := h.trans k (fun i hi e => by have := hF i e; omega)
theorem Build_spec (w : World) (A : Option Addr) (n c : Nat) (l : List StepV) (hn : l.length = n) (hS : StepsAt w A l) (hdo : ∀ s ∈ l, DoSpec s) :
  Calls Tryz.prog 17 #[.slice A n c] w (BuildPost w l) := by
 by_cases hlong : 65536 < n
 ·have HB : Hid (buildF l = .inl (3, none)) := H_ (by unfold buildF; rw [hn, if_pos hlong])
  clear hS hn hdo
  go_enter Tryz.func17, Tryz.ntmps17
  go_wp2
  go_ret2
  refine ⟨Keeps.refl _ _, ?_⟩
  rw [HB.out]
  rfl
 ·have HRF : Hid (∀ r, rowF 0 [] l = r → buildF l = match r with | .inl (e, i) => .inl (e, some i) | .inr [v] => .inr v | .inr _ => .inl (103, some l.length)) := H_ fun r hr => by
   unfold buildF
   rw [if_neg (by rw [hn]; exact hlong), hr]
   rcases r with ⟨e, i⟩ | P
   ·rfl
   match P with
   | [] => rfl
   | [v] => rfl
   | _ :: _ :: _ => rfl
  have HSC : Hid (∀ k, k < n → ∃ s g o B d, l[k]? = some s ∧ A = some ⟨g, o, none⟩ ∧ w.rangeAt g (o + k * 6) (stepV s B d) ∧ Rd w B s.keys.length (s.keys.map .string) ∧ DoSpec s) := H_ fun k hk => by
   obtain ⟨s, hs⟩ : ∃ s, l[k]? = some s := ⟨_, List.getElem?_eq_getElem (by omega)⟩
   obtain ⟨g, o, B, d, h1, h2, h3⟩ := hS k s hs
   exact ⟨s, g, o, B, d, hs, h1, h2, h3, hdo s (List.mem_of_getElem? hs)⟩
  have HDN : Hid (∀ (P : List JV), rowF n P (l.drop n) = .inr P) := H_ fun P => by rw [List.drop_of_length_le (by omega)]; rfl
  have HLN := H_ hn
  have hB0 : Building w (w.alloc (.cells #[.slice none 0 0] 108)) l 0 none 0 [] [] := by
   refine ⟨⟨Blk.new w 108 [.slice none 0 0], World.ownsRow_nil _ _ _ _, fun i v j h => (by cases h), by decide, fun i hi => (by rw [World.size_alloc] at hi; omega), fun g h => (by cases h)⟩, (Keeps.refl _ w).alloc _, rfl, Nat.le_refl _, fun j h => (by cases h)⟩
  have HB0 := H_ hB0
  clear hS hn hB0 hdo
  go_enter Tryz.func17, Tryz.ntmps17
  go_upto_region 4 with fail
  refine gen_codeF (fun W => Building w W l 0 none 0 [] []) HB0.out ?_
  intro w1 hb1
  have HB1 := H_ hb1
  clear hb1
  go_wp2
  go_loopg [14] n (fun gk i wr => ∃ (k : Nat) (A2 : Option Addr) (c2 : Nat) (vs : List Value) (P : List JV), k ≤ n ∧ i = .int .i64 k ∧ gk = n - k ∧ Hid (Building w wr l k A2 c2 vs P))
  case atStart => exact ⟨0, _, _, _, _, by omega, rfl, by omega, HB1⟩
  case round =>
   obtain ⟨k, A2, c2, vs, P, hk, rfl, hgk, HB⟩ := hrel
   have HGK := H_ hgk
   clear hgk
   by_cases hlt : k < n
   ·obtain ⟨s, g, o, B, d, hs, hA, hr, hkr, hds⟩ := HSC.out k hlt
    subst hA
    obtain ⟨SC, hSC⟩ : ∃ SC, SC = stepV s B d := ⟨_, rfl⟩
    rw [← hSC] at hr
    have HRE : Hid (wr.rangeAt g (o + k * 6) SC) := H_ fun j y hj => cell_keep HB.out.keep (hr j y hj)
    have HSL : Hid (SC.length = 6) := H_ (by rw [hSC]; rfl)
    have HSO : Hid (∀ u ∈ SC, u.oneCell' = true) := H_ (by rw [hSC]; exact stepV_one _ _ _)
    have HSI : Hid ((Tryz.prog.info? 53).map (·.size) = some SC.length) := H_ (by rw [HSL.out]; kernel_rfl)
    have HZL : Hid (stepZ.length = 6) := H_ rfl
    have HST : Hid (∀ W, Keeps (fun _ => False) wr W → Calls Tryz.prog 48 #[.pointer (some ⟨w.heap.size, 0, none⟩), .agg SC.toArray] W (DoPost 108 (fun i => w.heap.size ≤ i) W w.heap.size (.slice A2 P.length c2) P s)) := H_ fun W hW => by
     rw [hSC]
     refine hds 108 _ W w.heap.size A2 c2 vs P (HB.out.row.stay hW) ?_ HB.out.inn B d ((hkr.keep HB.out.keep (fun _ _ _ h => h)).keep hW (fun _ _ _ h => h))
     have := HB.out.few
     omega
    have hrn : rowF 0 [] l = match doF P s with
      | .inl e => .inl (e, k)
      | .inr P' => rowF (k + 1) P' (l.drop (k + 1)) := by
     rw [HB.out.run, List.drop_eq_getElem_cons (by have := HLN.out; omega)]
     have e : l[k]'(by have := HLN.out; omega) = s := by
      have := List.getElem?_eq_getElem (l := l) (i := k) (by have := HLN.out; omega)
      rw [hs] at this
      injection this with this
      exact this.symm
     rw [e]
     rfl
    unfold DoPost errE at HST
    rcases hd : doF P s with k3 | P2
    ·rw [hd] at hrn HST
     have HRN := H_ (HRF.out _ hrn)
     clear hSC hr hs hkr hds hrn hd
     go_upto_region 9 with (first
      | ((with_reducible show wpList _ _ _ (⟨some 18, _, _, _, _, _⟩ :: _) _ _); refine wpList_load_mid rfl 53 _ rfl _ _ rfl SC _ HRE.out Tryz.underlying53 rfl HSI.out ?_)
      | ((with_reducible show wpList _ _ _ (⟨none, Op.store 53 _ _, _, _, _, _⟩ :: _) _ _); refine wpList_store_whole rfl 53 _ _ rfl SC rfl rfl (Blk.new wr 53 stepZ) (by rw [HSL.out, HZL.out]) HSI.out HSO.out ?_; refine gen_world (fun W => Blk W wr.heap.size 53 SC ∧ Keeps (fun _ => False) wr W) ⟨(Blk.new wr 53 stepZ).setRow SC, ((Keeps.refl _ wr).alloc _).setRow (.inr (Nat.le_refl _)) _⟩ ?_; rintro wa ⟨hba, hka⟩; have HBA := H_ hba; have HKA := H_ hka; clear hba hka)
      | ((with_reducible show wpList _ _ _ (⟨some 19, _, _, _, _, _⟩ :: _) _ _); refine wpList_load_whole rfl 53 _ rfl _ rfl HBA.out Tryz.underlying53 rfl HSI.out ?_)
      | (go_at_call 48; refine (HST.out wa HKA.out).mono ?_; rintro e w2 ⟨rfl, hk2⟩; have HK2 := H_ hk2; clear hk2))
     have hta := at_errno_errno
     refine wp_region_held_drew (S := Keeps (fun _ => False) w2) (by kernel_rfl) (Keeps.refl (fun _ => False) _).drew (fun h_ => ?_)
     refine tI 0 23 h_ ?_
     try simp only [pu]
     refine tI 1 24 h_ ?_ (hy := .inl ⟨by rfl, by intro w' hSw; have ta := hta; go_simp; first | done | rfl⟩)
     try simp only [pu]
     refine tI 2 25 h_ ?_
     try simp only [pu]
     refine tI 3 26 h_ ?_
     try simp only [pu]
     refine tI 4 27 h_ ?_
     try simp only [pu]
     refine tI 5 2 h_ ?_
     try simp only [pu]
     refine tI 6 3 h_ ?_
     try simp only [pu]
     refine wpAnyH_done (by kernel_rfl) ?_ _
     go_wp2
     go_ret2
     have hF : ∀ i, (i = w.heap.size ∨ (Value.slice A2 P.length c2).ownBlock = some i) → w.heap.size ≤ i := fun i hi => by
      rcases hi with rfl | hi
      ·exact Nat.le_refl _
      exact (HB.out.row.inn i hi).1
     refine ⟨keep_lo (HB.out.keep.trans HKA.out (fun _ _ h => h)) (HK2.out.drew) (fun _ h => h.elim), ?_⟩
     rw [HRN.out]
     rfl
    rw [hd] at hrn HST
    have HD3 := H_ (And.intro (doF_within hd HB.out.inn) (doF_length hd))
    have HRN := H_ hrn
    clear hSC hr hs hkr hds hrn hd
    go_wp2_with (first
     | ((with_reducible show wpList _ _ _ (⟨some 18, _, _, _, _, _⟩ :: _) _ _); refine wpList_load_mid rfl 53 _ rfl _ _ rfl SC _ HRE.out Tryz.underlying53 rfl HSI.out ?_)
     | ((with_reducible show wpList _ _ _ (⟨none, Op.store 53 _ _, _, _, _, _⟩ :: _) _ _); refine wpList_store_whole rfl 53 _ _ rfl SC rfl rfl (Blk.new wr 53 stepZ) (by rw [HSL.out, HZL.out]) HSI.out HSO.out ?_; refine gen_world (fun W => Blk W wr.heap.size 53 SC ∧ Keeps (fun _ => False) wr W) ⟨(Blk.new wr 53 stepZ).setRow SC, ((Keeps.refl _ wr).alloc _).setRow (.inr (Nat.le_refl _)) _⟩ ?_; rintro wa ⟨hba, hka⟩; have HBA := H_ hba; have HKA := H_ hka; clear hba hka)
     | ((with_reducible show wpList _ _ _ (⟨some 19, _, _, _, _, _⟩ :: _) _ _); refine wpList_load_whole rfl 53 _ rfl _ rfl HBA.out Tryz.underlying53 rfl HSI.out ?_)
     | (go_at_call 48; refine (HST.out wa HKA.out).mono ?_; rintro e w2 ⟨rfl, ⟨A3, c3, vs3, hrow⟩, hk2⟩; have HROW := H_ hrow; have HK2 := H_ hk2; clear hrow hk2))
    go_roundg (n - (k + 1))
    case measure => rw [HGK.out]; omega
    case rel =>
     have hF : ∀ i, (i = w.heap.size ∨ (Value.slice A2 P.length c2).ownBlock = some i) → w.heap.size ≤ i := fun i hi => by
      rcases hi with rfl | hi
      ·exact Nat.le_refl _
      exact (HB.out.row.inn i hi).1
     refine ⟨k + 1, A3, c3, vs3, P2, by omega, by go_num, rfl, H_ ⟨HROW.out, keep_lo (HB.out.keep.trans HKA.out (fun _ _ h => h)) HK2.out hF, HRN.out, by have := HB.out.few; have := HD3.out.2; omega, HD3.out.1⟩⟩
   obtain rfl : k = n := by omega
   have hrn := HB.out.run.trans (HDN.out P)
   have hbf := HRF.out _ hrn
   clear hrn
   have cb := HB.out.row.blk.cell 0
   by_cases h1 : P.length = 1
   ·obtain ⟨t, hP⟩ : ∃ t, P = [t] := List.length_eq_one_iff.1 h1
    subst hP
    have hv : ∃ v, vs = [v] := List.length_eq_one_iff.1 HB.out.row.len
    obtain ⟨v, rfl⟩ := hv
    obtain ⟨g1, o1, hA1, hc1⟩ := (Rd.of_own HB.out.row.own).2 (by simp)
    subst hA1
    have hj := HB.out.row.at_ 0 v t rfl rfl
    obtain ⟨T, x, rfl⟩ := hj.iface
    have ce : wr.cell? ⟨g1, o1, none⟩ = some (.iface T x) := hc1 0 (by simp)
    have HJ := H_ hj
    have HIN := H_ (HB.out.inn t (by simp))
    have HBF := H_ hbf
    have HKB := H_ HB.out.keep
    clear hbf h1 hj hc1
    have hl1 : ([t] : List JV).length = 1 := rfl
    rw [hl1] at cb
    go_wp2
    go_ret2
    refine ⟨HKB.out.alloc _, ?_⟩
    rw [HBF.out]
    exact ⟨wr.heap.size, .iface T x, rfl, ⟨HKB.out.size, Blk.new wr _ _, (HJ.out.mono fun i hi _ => hi.1).stay ((Keeps.refl _ wr).alloc _)⟩, HIN.out⟩
   obtain ⟨m, hm⟩ : ∃ m, m = P.length := ⟨_, rfl⟩
   rw [← hm] at cb h1
   have HBF : Hid (buildF l = .inl (103, some k)) := H_ (by
    rw [hbf, HLN.out]
    match P, hm with
    | [], _ => rfl
    | [t], hm => exact absurd hm h1
    | _ :: _ :: _, _ => rfl)
   have HMM := H_ hm
   clear hbf hm
   go_wp2
   go_ret2
   refine ⟨HB.out.keep, ?_⟩
   rw [HBF.out]
   rfl
end Go.Proofs.YtdmcioghdindfaaGreatDoor
