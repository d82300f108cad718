/-
  Texts put together: FltP; FltW; NDoNW.
-/
import Derived.Test.YtdmcioghdindfaaGreatQ05
import GoSem.Core.Float
import Derived.Test.YtdmcioghdindfaaGreatQ07
import Derived.Laws.Externs
import Derived.Laws.BitsAllLaws
import Derived.Test.YtdmcioghdindfaaGreatQ10
set_option linter.unusedSimpArgs false
namespace Go.Flt
open Ieee Go.Json
/-- The sign, the magnitude, the place of a finite float. -/
def sgn (b : Nat) : Bool := b / 9223372036854775808 % 2 == 1
def rng (b : Nat) : Nat := b % 9223372036854775808
def magF (b : Nat) : Nat := if rng b < 4503599627370496 then rng b else 4503599627370496 + rng b % 4503599627370496
def plcF (b : Nat) : Nat := rng b / 4503599627370496 - 1
theorem sw : Format.signWeight double = 9223372036854775808 := rfl
theorem bw : Format.binade double = 4503599627370496 := rfl
theorem iw : Format.infRung double = 9218868437227405312 := rfl
theorem lw : Format.leastPlace double = -1074 := rfl
theorem rng_fin (b : Nat) : finiteF b = decide (rng b < 9218868437227405312) := by
  unfold finiteF rng
  rw [Bool.eq_iff_iff]
  simp only [Bool.not_eq_true', decide_eq_false_iff_not, decide_eq_true_eq]
  omega
theorem read_eq (b : Nat) : double.read b = if rng b < 4503599627370496 then .number (sgn b) (rng b) (-1074) else if rng b < 9218868437227405312 then .number (sgn b) (4503599627370496 + rng b % 4503599627370496) (-1074 + ((rng b / 4503599627370496 - 1 : Nat) : Int))
    else if rng b = 9218868437227405312 then .infinity (sgn b) else .nan (sgn b) (rng b - 9218868437227405312) := rfl
theorem read_fin {b : Nat} (h : finiteF b = true) : double.read b = .number (sgn b) (magF b) (-1074 + (plcF b : Int)) := by
  rw [rng_fin, decide_eq_true_eq] at h
  rw [read_eq]
  unfold magF plcF
  split
  · rename_i h1
    congr 1
    omega
  · rfl
theorem read_not {b : Nat} (h : finiteF b = false) : double.read b = .infinity (sgn b) ∨ ∃ n, double.read b = .nan (sgn b) n := by
  rw [rng_fin, decide_eq_false_iff_not] at h
  rw [read_eq, if_neg (by omega), if_neg (by omega)]
  split
  · exact .inl rfl
  · exact .inr ⟨_, rfl⟩
theorem order_self {b : Nat} (h : finiteF b = true) : double.order b b = some .eq := by
  unfold Format.order Datum.order
  rw [read_fin h]
  simp
theorem abs_fin (b : Nat) : finiteF (rng b) = finiteF b := by
  rw [rng_fin, rng_fin]
  unfold rng
  congr 2
  omega
theorem mag_lt (b : Nat) : magF b < 9007199254740992 := by
  unfold magF
  split <;> omega
theorem max_read : double.read 9218868437227405311 = .number false 9007199254740991 971 := by decide +kernel
theorem order_max {b : Nat} (h : finiteF b = true) : double.order (rng b) 9218868437227405311 ≠ some .gt := by
  have hp : plcF (rng b) ≤ 2045 := by
    have h2 := abs_fin b
    rw [h, rng_fin, decide_eq_true_eq] at h2
    unfold plcF
    omega
  have hm := mag_lt (rng b)
  unfold Format.order Datum.order
  rw [read_fin ((abs_fin b).trans h), max_read]
  have hs : sgn (rng b) = false := by
    unfold sgn rng
    rw [Nat.div_eq_of_lt (Nat.mod_lt _ (by decide))]
    rfl
  rw [hs]
  have hmin : min (-1074 + (plcF (rng b) : Int)) 971 = -1074 + (plcF (rng b) : Int) := by omega
  simp only [hmin, Int.sub_self, Int.toNat_zero]
  intro e
  injection e with e
  have e := Int.compare_eq_gt.1 e
  unfold signed at e
  simp only [Bool.false_eq_true, if_false, Nat.shiftLeft_eq, Nat.pow_zero, Nat.mul_one] at e
  have h1 := Nat.one_le_two_pow (n := (971 - (-1074 + (plcF (rng b) : Int))).toNat)
  have h2 : 9007199254740991 * 1 ≤ 9007199254740991 * 2 ^ (971 - (-1074 + (plcF (rng b) : Int))).toNat := Nat.mul_le_mul_left _ h1
  omega
theorem rng_mag (b : Nat) : rng b = magF b + plcF b * 4503599627370496 := by
  unfold magF plcF
  split <;> omega
theorem mag_ge {b : Nat} (h : 1 ≤ plcF b) : 4503599627370496 ≤ magF b := by
  unfold plcF at h
  unfold magF
  split <;> omega
/-- The whole number that stands for a finite float, in units of a common place. -/
def vF (b k : Nat) : Int := signed (sgn b) (magF b) (plcF b - k)
theorem order_fin {a b : Nat} (ha : finiteF a = true) (hb : finiteF b = true) : double.order a b = some (compare (vF a (min (plcF a) (plcF b))) (vF b (min (plcF a) (plcF b)))) := by
  unfold Format.order Datum.order vF
  rw [read_fin ha, read_fin hb]
  have h1 : (-1074 + (plcF a : Int) - min (-1074 + (plcF a : Int)) (-1074 + (plcF b : Int))).toNat = plcF a - min (plcF a) (plcF b) := by omega
  have h2 : (-1074 + (plcF b : Int) - min (-1074 + (plcF a : Int)) (-1074 + (plcF b : Int))).toNat = plcF b - min (plcF a) (plcF b) := by omega
  simp only [h1, h2]
theorem signed_zero (s : Bool) (m k : Nat) : signed s m k = 0 ↔ m = 0 := by
  unfold signed
  rw [Nat.shiftLeft_eq]
  have h1 := Nat.one_le_two_pow (n := k)
  have h2 : m * 2 ^ k = 0 ↔ m = 0 := by
    constructor
    · intro h
      rcases Nat.mul_eq_zero.1 h with h | h
      · exact h
      · omega
    · intro h; rw [h, Nat.zero_mul]
  split <;> omega
theorem signed_inj {s t : Bool} {m n k l : Nat} (h : signed s m k = signed t n l) : m * 2 ^ k = n * 2 ^ l ∧ (m ≠ 0 → s = t) := by
  unfold signed at h
  rw [Nat.shiftLeft_eq, Nat.shiftLeft_eq] at h
  have h1 := Nat.one_le_two_pow (n := k)
  have h2 : m ≠ 0 → 0 < m * 2 ^ k := fun h => Nat.mul_pos (by omega) (by omega)
  generalize m * 2 ^ k = X at *
  generalize n * 2 ^ l = Y at *
  cases s <;> cases t <;> simp at h
  · exact ⟨by omega, fun _ => rfl⟩
  · refine ⟨by omega, fun h3 => ?_⟩
    have := h2 h3
    omega
  · refine ⟨by omega, fun h3 => ?_⟩
    have := h2 h3
    omega
  · exact ⟨by omega, fun _ => rfl⟩
theorem mag_shift {a b : Nat} (h : magF a * 2 ^ (plcF a - min (plcF a) (plcF b)) = magF b * 2 ^ (plcF b - min (plcF a) (plcF b))) : rng a = rng b := by
  have hlt := mag_lt a
  have hlt2 := mag_lt b
  have key : ∀ {x y k : Nat}, x < 9007199254740992 → 4503599627370496 ≤ y → 1 ≤ k → x = y * 2 ^ k → False := by
    intro x y k h1 h2 h3 h4
    have h5 : 2 ^ 1 ≤ 2 ^ k := Nat.pow_le_pow_right (by decide) h3
    have h6 : y * 2 ^ 1 ≤ y * 2 ^ k := Nat.mul_le_mul_left _ h5
    omega
  rcases Nat.lt_trichotomy (plcF a) (plcF b) with hp | hp | hp
  · have hm : min (plcF a) (plcF b) = plcF a := by omega
    rw [hm, Nat.sub_self, Nat.pow_zero, Nat.mul_one] at h
    exact (key hlt (mag_ge (by omega)) (by omega) h).elim
  · rw [hp, Nat.min_self, Nat.sub_self, Nat.pow_zero, Nat.mul_one, Nat.mul_one] at h
    rw [rng_mag a, rng_mag b, h, hp]
  · have hm : min (plcF a) (plcF b) = plcF b := by omega
    rw [hm, Nat.sub_self, Nat.pow_zero, Nat.mul_one] at h
    exact (key hlt2 (mag_ge (by omega)) (by omega) h.symm).elim
theorem mag_zero {b : Nat} : magF b = 0 ↔ rng b = 0 := by
  have h := rng_mag b
  constructor
  · intro h2
    rcases Nat.eq_zero_or_pos (plcF b) with h3 | h3
    · rw [h, h2, h3]
    · have := mag_ge h3; omega
  · intro h2; omega
theorem sgn_rng {a b : Nat} (ha : a < 18446744073709551616) (hb : b < 18446744073709551616) (hs : sgn a = sgn b) (hr : rng a = rng b) : a = b := by
  unfold sgn at hs
  unfold rng at hr
  have h1 : a / 9223372036854775808 = 0 ∨ a / 9223372036854775808 = 1 := by omega
  have h2 : b / 9223372036854775808 = 0 ∨ b / 9223372036854775808 = 1 := by omega
  rcases h1 with h1 | h1 <;> rcases h2 with h2 | h2 <;> rw [h1, h2] at hs <;> simp at hs <;> omega
/-- Finite floats, none minus nought, are one alone with the same bits. -/
theorem order_eq {a b : Nat} (ha : finiteF a = true) (hb : finiteF b = true) (ha2 : a < 18446744073709551616) (hb2 : b < 18446744073709551616) (hna : a ≠ 9223372036854775808) (hnb : b ≠ 9223372036854775808) :
    (double.order a b == some .eq) = decide (a = b) := by
  rw [Bool.eq_iff_iff, decide_eq_true_iff, beq_iff_eq]
  constructor
  · intro h
    rw [order_fin ha hb] at h
    injection h with h
    have h := Int.compare_eq_eq.1 h
    obtain ⟨h1, h2⟩ := signed_inj h
    have hr := mag_shift h1
    by_cases hz : magF a = 0
    · have z1 := mag_zero.1 hz
      have z2 := hr ▸ z1
      unfold rng at z1 z2
      omega
    · exact sgn_rng ha2 hb2 (h2 hz) hr
  · rintro rfl
    exact order_self ha
theorem order_zero {b : Nat} (h : finiteF b = true) (hb : b < 18446744073709551616) : (double.order b 0 == some .eq) = decide (b = 0 ∨ b = 9223372036854775808) := by
  rw [Bool.eq_iff_iff, decide_eq_true_iff, beq_iff_eq, order_fin h (by decide)]
  have h0 : vF 0 (min (plcF b) (plcF 0)) = 0 := (signed_zero _ _ _).2 (by decide)
  rw [h0]
  constructor
  · intro e
    injection e with e
    have e := mag_zero.1 ((signed_zero _ _ _).1 (Int.compare_eq_eq.1 e))
    unfold rng at e
    omega
  · intro e
    have : vF b (min (plcF b) (plcF 0)) = 0 := (signed_zero _ _ _).2 (mag_zero.2 (by unfold rng; omega))
    rw [this]
    rfl
/-- What is not finite is no number or beyond all. -/
theorem order_not {b : Nat} (h : finiteF b = false) : double.order b b ≠ some .eq ∨ double.order (rng b) 9218868437227405311 = some .gt := by
  rw [rng_fin, decide_eq_false_iff_not] at h
  rcases Nat.eq_or_lt_of_le (Nat.le_of_not_lt h) with h1 | h1
  · right
    rw [← h1]
    decide +kernel
  · left
    unfold Format.order
    rw [read_eq, if_neg (by omega), if_neg (by omega), if_neg (by omega)]
    unfold Datum.order
    simp
end Go.Flt

set_option linter.unusedSimpArgs false
namespace Go.Proofs.YtdmcioghdindfaaGreat
open Go Go.RowKit Go.Aff Go.Json Go.Flt
theorem frombits (n : Int) (w : World) : (callFunc 52 #[.int .u64 n]).run Tryz.prog w = .ok (.value (.float .f64 n.toNat)) w := by
  rw [run_callFunc_extern Tryz.func52 (by kernel_rfl) (by kernel_rfl) (by kernel_rfl) (e := Extern.MathFloatBits.float64frombits) (by kernel_rfl)]
  rfl
theorem bitsof (n : Nat) (w : World) : (callFunc 77 #[.float .f64 n]).run Tryz.prog w = .ok (.value (.int .u64 n)) w := by
  rw [run_callFunc_extern Tryz.func77 (by kernel_rfl) (by kernel_rfl) (by kernel_rfl) (e := Extern.MathFloatBits.float64bits) (by kernel_rfl)]
  rfl
theorem u64_abs (b : Nat) (hb : b < 18446744073709551616) : bits .andNot .u64 (b : Int) 9223372036854775808 = ((rng b : Nat) : Int) := by
  show IntKind.u64.wrap ((BitVec.ofInt 64 (b : Int) &&& ~~~ BitVec.ofInt 64 9223372036854775808).toNat : Int) = _
  have h1 : ~~~ BitVec.ofInt 64 9223372036854775808 = BitVec.ofNat 64 9223372036854775807 := by decide
  have h2 : b &&& 9223372036854775807 = b % 9223372036854775808 := Nat.and_two_pow_sub_one_eq_mod b 63
  rw [h1, BitVec.toNat_and, ofInt_u64 b hb]
  have h3 : (BitVec.ofNat 64 9223372036854775807).toNat = 9223372036854775807 := by decide
  rw [h3, h2]
  unfold rng
  simp [IntKind.wrap, IntKind.bits, IntKind.signed]
  omega
set_option maxRecDepth 100000 in
theorem isnan_any (w : World) (b : Nat) : Calls Tryz.prog 53 #[.float .f64 b] w fun e w' => e = .returned (.bool (Ieee.double.order b b != some .eq)) ∧ w' = w := by
  go_enter Tryz.func53, Tryz.ntmps53
  go_wp2
  go_ret
  exact ⟨rfl, rfl⟩
set_option maxRecDepth 100000 in
theorem abs_any (w : World) (b : Nat) (hb : b < 18446744073709551616) : Calls Tryz.prog 72 #[.float .f64 b] w fun e w' => e = .returned (.float .f64 (rng b)) ∧ w' = w := by
  have h1 := frombits
  have h2 := bitsof
  go_enter Tryz.func72, Tryz.ntmps72
  go_wp2
  go_ret
  exact ⟨by show Ending.returned (.float .f64 (bits .andNot .u64 (b : Int) 9223372036854775808).toNat) = _; rw [u64_abs b hb]; rfl, rfl⟩
set_option maxRecDepth 100000 in
theorem isinf_any (w : World) (b : Nat) (hb : b < 18446744073709551616) : Calls Tryz.prog 54 #[.float .f64 b, .int .i64 0] w fun e w' => e = .returned (.bool (Ieee.double.order (rng b) 9218868437227405311 == some .gt)) ∧ w' = w := by
  have HA := Lib.hid (abs_any w b hb)
  go_enter Tryz.func54, Tryz.ntmps54
  go_wp2_with (go_at_call 72; refine HA.out.mono ?_; rintro e w2 ⟨rfl, rfl⟩)
  go_ret
  exact ⟨rfl, rfl⟩
end Go.Proofs.YtdmcioghdindfaaGreat

set_option linter.unusedSimpArgs false
namespace Go.Proofs.YtdmcioghdindfaaGreat
open Go Go.RowKit Go.Aff Go.Json Go.Flt
def numN (b : Nat) : Nat := if b = 9223372036854775808 then 0 else b
theorem doF_ok_num {P : List JV} {s : StepV} (hu : usedF s = true) (hs : s.sort = 3) (hf : finiteF s.bits = true) : doF P s = .inr (P ++ [JV.num (numN s.bits)]) := by
  obtain ⟨u1, u2, u3, _, _, _⟩ := used_parts hu
  have k := u3 (by omega)
  have ct := u2 (by omega)
  have hw : (JV.num (numN s.bits)).within := by simp [JV.within, JV.nodes, JV.bytes, JV.deep]
  have hm : mkV s [] = JV.num (numN s.bits) := by simp [mkV, hs, numN]
  unfold doF
  rw [if_neg (by rw [hu]; decide), if_neg (by rw [hf]; simp), if_neg (by rw [right_empty (u1 (by omega)), k]; simp), if_neg (by rw [k]; simp), if_neg (by rw [k, ct]; simp)]
  have hz : s.count.toNat + s.keys.length = 0 := by rw [k, ct]; rfl
  rw [hz, Nat.sub_zero, List.drop_length, List.take_length, hm, if_neg (by simpa using hw)]
theorem doF_bad_num {P : List JV} {s : StepV} (hu : usedF s = true) (hs : s.sort = 3) (hf : finiteF s.bits = false) : doF P s = .inl 104 := by
  unfold doF
  rw [if_neg (by rw [hu]; decide), if_pos ⟨hs, hf⟩]
set_option maxHeartbeats 4000000 in
set_option maxRecDepth 100000 in
theorem do_num_nan (T : TypeId) (D : Nat → Prop) (w : World) (p : Nat) (A : Option Addr) (c : Nat) (vs : List Value) (P : List JV) (h : RowAt T D w p A c vs P) (hn : P.length ≤ 1048576) (s : StepV) (B : Option Addr) (d : Nat) (hu : usedF s = true) (hs : s.sort = 3) (hbits : s.bits < 18446744073709551616) (hf : finiteF s.bits = false) (hq : (Ieee.double.order s.bits s.bits != some .eq) = true) :
    Calls Tryz.prog 28 #[.pointer (some ⟨p, 0, none⟩), .agg (stepV s B d).toArray] w (DoPost T D w p (.slice A P.length c) P s) := by
  have _ := hn
  have HQ := Lib.hid (DoQ.made w s B d)
  obtain ⟨SV, hSV⟩ : ∃ SV, SV = stepV s B d := ⟨_, rfl⟩
  rw [← hSV] at HQ ⊢
  have HU : Hid (∀ W, Calls Tryz.prog 50 #[.agg SV.toArray] W fun e w' => e = .returned (.bool true) ∧ Keeps (fun _ => False) W w') := Lib.hid fun W => by
    have := used_any W s B d
    rw [hu, ← hSV] at this
    exact this
  have HSI : Hid ((Tryz.prog.info? 44).map (·.size) = some SV.length) := Lib.hid (by rw [hSV, stepV_len]; kernel_rfl)
  have HS := Lib.hid hs
  have HR := Lib.hid h
  have hmf : ∀ (fn : Fn) (first cap : Array Value) (w : World), (Instr.makeFunc fn first cap).run Tryz.prog w = .ok (.func fn first cap) w := fun _ _ _ _ => rfl
  clear h hSV
  have _ := hbits
  have HD : Hid (doF P s = .inl 104) := Lib.hid (doF_bad_num hu hs hf)
  have hfb : ∀ W, (callFunc 52 #[.int .u64 s.bits]).run Tryz.prog W = .ok (.value (.float .f64 s.bits)) W := fun W => frombits _ W
  have HNA := Lib.hid fun W => isnan_any W s.bits
  rw [hq] at HNA
  clear hf hq
  go_enter_defers Tryz.func28, Tryz.ntmps28
  go_wp2_with (first
    | ((with_reducible show wpList _ _ _ (⟨some 8, _, _, _, _, _⟩ :: _) _ _); refine wpList_load_whole rfl 44 _ rfl _ rfl HQ.out.blk Tryz.underlying44 rfl HSI.out ?_)
    | (go_at_call 50; refine (HU.out _).mono ?_; rintro e w2 ⟨rfl, hk2⟩; have HQ2 := Lib.hid (HQ.out.stay hk2); obtain ⟨s0, s1, s2, s3, s4, s5⟩ := HQ2.out.cells; rw [HS.out] at s0; have tk : True := trivial; clear hk2)
    | (go_at_call 49; have _t := tk; clear tk; refine (refuse_ok _ _).mono ?_; rintro e w3 ⟨he, rfl⟩; subst he; clear _t)
    | (go_at_call 53; refine (HNA.out _).mono ?_; rintro e w5 ⟨rfl, rfl⟩)
    | (go_at_call 49; refine (refuse_no _ _).mono ?_; rintro e w3 ⟨he, rfl⟩; unfold errP at he; subst he))
  have hbe := HQ2.out.err
  refine leaves_cons (f := 48) (args := #[.pointer (some ⟨w.heap.size + 1, 0, none⟩)]) (by simp) (by simp [go_sem]) ?_
  refine (do_catch (w.heap.size + 1) 104 [] _ hbe).mono ?_
  rintro e u' w'' ⟨rfl, rfl, hb, hk⟩
  refine ⟨_, results_err rfl _ _ _ _ rfl hb, ?_⟩
  unfold DoPost
  rw [HD.out]
  exact ⟨rfl, HQ2.out.keep.trans hk (fun i hi e => by omega)⟩
set_option maxHeartbeats 4000000 in
set_option maxRecDepth 100000 in
theorem do_num_inf (T : TypeId) (D : Nat → Prop) (w : World) (p : Nat) (A : Option Addr) (c : Nat) (vs : List Value) (P : List JV) (h : RowAt T D w p A c vs P) (hn : P.length ≤ 1048576) (s : StepV) (B : Option Addr) (d : Nat) (hu : usedF s = true) (hs : s.sort = 3) (hbits : s.bits < 18446744073709551616) (hf : finiteF s.bits = false) (hq : (Ieee.double.order s.bits s.bits != some .eq) = false) (hi : (Ieee.double.order (rng s.bits) 9218868437227405311 == some .gt) = true) :
    Calls Tryz.prog 28 #[.pointer (some ⟨p, 0, none⟩), .agg (stepV s B d).toArray] w (DoPost T D w p (.slice A P.length c) P s) := by
  have _ := hn
  have HQ := Lib.hid (DoQ.made w s B d)
  obtain ⟨SV, hSV⟩ : ∃ SV, SV = stepV s B d := ⟨_, rfl⟩
  rw [← hSV] at HQ ⊢
  have HU : Hid (∀ W, Calls Tryz.prog 50 #[.agg SV.toArray] W fun e w' => e = .returned (.bool true) ∧ Keeps (fun _ => False) W w') := Lib.hid fun W => by
    have := used_any W s B d
    rw [hu, ← hSV] at this
    exact this
  have HSI : Hid ((Tryz.prog.info? 44).map (·.size) = some SV.length) := Lib.hid (by rw [hSV, stepV_len]; kernel_rfl)
  have HS := Lib.hid hs
  have HR := Lib.hid h
  have hmf : ∀ (fn : Fn) (first cap : Array Value) (w : World), (Instr.makeFunc fn first cap).run Tryz.prog w = .ok (.func fn first cap) w := fun _ _ _ _ => rfl
  clear h hSV
  have HD : Hid (doF P s = .inl 104) := Lib.hid (doF_bad_num hu hs hf)
  have hfb : ∀ W, (callFunc 52 #[.int .u64 s.bits]).run Tryz.prog W = .ok (.value (.float .f64 s.bits)) W := fun W => frombits _ W
  have HNA := Lib.hid fun W => isnan_any W s.bits
  have HIN := Lib.hid fun W => isinf_any W s.bits hbits
  rw [hq] at HNA
  rw [hi] at HIN
  clear hf hq hi
  go_enter_defers Tryz.func28, Tryz.ntmps28
  go_wp2_with (first
    | ((with_reducible show wpList _ _ _ (⟨some 8, _, _, _, _, _⟩ :: _) _ _); refine wpList_load_whole rfl 44 _ rfl _ rfl HQ.out.blk Tryz.underlying44 rfl HSI.out ?_)
    | (go_at_call 50; refine (HU.out _).mono ?_; rintro e w2 ⟨rfl, hk2⟩; have HQ2 := Lib.hid (HQ.out.stay hk2); obtain ⟨s0, s1, s2, s3, s4, s5⟩ := HQ2.out.cells; rw [HS.out] at s0; have tk : True := trivial; clear hk2)
    | (go_at_call 49; have _t := tk; clear tk; refine (refuse_ok _ _).mono ?_; rintro e w3 ⟨he, rfl⟩; subst he; clear _t)
    | (go_at_call 53; refine (HNA.out _).mono ?_; rintro e w5 ⟨rfl, rfl⟩)
    | (go_at_call 54; refine (HIN.out _).mono ?_; rintro e w5 ⟨rfl, rfl⟩)
    | (go_at_call 49; refine (refuse_no _ _).mono ?_; rintro e w3 ⟨he, rfl⟩; unfold errP at he; subst he))
  have hbe := HQ2.out.err
  refine leaves_cons (f := 48) (args := #[.pointer (some ⟨w.heap.size + 1, 0, none⟩)]) (by simp) (by simp [go_sem]) ?_
  refine (do_catch (w.heap.size + 1) 104 [] _ hbe).mono ?_
  rintro e u' w'' ⟨rfl, rfl, hb, hk⟩
  refine ⟨_, results_err rfl _ _ _ _ rfl hb, ?_⟩
  unfold DoPost
  rw [HD.out]
  exact ⟨rfl, HQ2.out.keep.trans hk (fun i hi e => by omega)⟩
set_option maxHeartbeats 4000000 in
set_option maxRecDepth 100000 in
theorem do_num_zero (T : TypeId) (D : Nat → Prop) (w : World) (p : Nat) (A : Option Addr) (c : Nat) (vs : List Value) (P : List JV) (h : RowAt T D w p A c vs P) (hn : P.length ≤ 1048576) (s : StepV) (B : Option Addr) (d : Nat) (hu : usedF s = true) (hs : s.sort = 3) (hbits : s.bits < 18446744073709551616) (hf : finiteF s.bits = true) (hz : (FloatKind.f64.format.order s.bits 0 == some Ordering.eq) = true) (hv : numN s.bits = 0) :
    Calls Tryz.prog 28 #[.pointer (some ⟨p, 0, none⟩), .agg (stepV s B d).toArray] w (DoPost T D w p (.slice A P.length c) P s) := by
  have _ := hn
  have HQ := Lib.hid (DoQ.made w s B d)
  obtain ⟨SV, hSV⟩ : ∃ SV, SV = stepV s B d := ⟨_, rfl⟩
  rw [← hSV] at HQ ⊢
  have HU : Hid (∀ W, Calls Tryz.prog 50 #[.agg SV.toArray] W fun e w' => e = .returned (.bool true) ∧ Keeps (fun _ => False) W w') := Lib.hid fun W => by
    have := used_any W s B d
    rw [hu, ← hSV] at this
    exact this
  have HSI : Hid ((Tryz.prog.info? 44).map (·.size) = some SV.length) := Lib.hid (by rw [hSV, stepV_len]; kernel_rfl)
  have HS := Lib.hid hs
  have HR := Lib.hid h
  have hmf : ∀ (fn : Fn) (first cap : Array Value) (w : World), (Instr.makeFunc fn first cap).run Tryz.prog w = .ok (.func fn first cap) w := fun _ _ _ _ => rfl
  clear h hSV
  have HD : Hid (doF P s = .inr (P ++ [JV.num (0)])) := Lib.hid (by rw [doF_ok_num hu hs hf, hv])
  have hfb : ∀ W, (callFunc 52 #[.int .u64 s.bits]).run Tryz.prog W = .ok (.value (.float .f64 s.bits)) W := fun W => frombits _ W
  have HNA := Lib.hid fun W => isnan_any W s.bits
  have HIN := Lib.hid fun W => isinf_any W s.bits hbits
  have hq : (Ieee.double.order s.bits s.bits != some .eq) = false := by rw [order_self hf]; rfl
  have hi : (Ieee.double.order (rng s.bits) 9218868437227405311 == some .gt) = false := by simpa using order_max hf
  rw [hq] at HNA
  rw [hi] at HIN
  have HP : Hid (∀ W, Keeps (fun _ => False) w W → Calls Tryz.prog 51 #[.pointer (some ⟨p, 0, none⟩), .iface 122 (.float .f64 0)] W fun e w' => e = .returned (.tuple #[]) ∧ RowPost T D W p (.slice A P.length c) (P ++ [JV.num 0]) w') := Lib.hid fun W hW =>
    put_number T D W p A c vs P (HR.out.stay hW) hn _ (.num _ (by decide) (by decide) (by decide)) true (by decide)
  clear hf hq hi hv
  go_enter_defers Tryz.func28, Tryz.ntmps28
  go_wp2_with (first
    | ((with_reducible show wpList _ _ _ (⟨some 8, _, _, _, _, _⟩ :: _) _ _); refine wpList_load_whole rfl 44 _ rfl _ rfl HQ.out.blk Tryz.underlying44 rfl HSI.out ?_)
    | (go_at_call 50; refine (HU.out _).mono ?_; rintro e w2 ⟨rfl, hk2⟩; have HQ2 := Lib.hid (HQ.out.stay hk2); obtain ⟨s0, s1, s2, s3, s4, s5⟩ := HQ2.out.cells; rw [HS.out] at s0; have tk : True := trivial; clear hk2)
    | (go_at_call 49; refine (refuse_ok _ _).mono ?_; rintro e w3 ⟨he, rfl⟩; subst he)
    | (go_at_call 53; refine (HNA.out _).mono ?_; rintro e w5 ⟨rfl, rfl⟩)
    | (go_at_call 54; refine (HIN.out _).mono ?_; rintro e w5 ⟨rfl, rfl⟩)
    | (go_at_call 51; refine (HP.out _ HQ2.out.keep).mono ?_; rintro e w4 ⟨rfl, hr4⟩; have hbe := HQ2.out.err_row HR.out hr4.2; have HR4 := Lib.hid hr4; have HBE := Lib.hid hbe; have c0 := hbe.cell 0; have f0 := hbe.frozen 0; clear hr4 hbe))
  rw [set_same HBE.out]
  refine leaves_cons (f := 48) (args := #[.pointer (some ⟨w.heap.size + 1, 0, none⟩)]) (by simp) (by simp [go_sem]) ?_
  refine (do_idle ⟨w.heap.size + 1, 0, none⟩ _).mono ?_
  rintro e u' w'' ⟨rfl, rfl, rfl⟩
  refine ⟨_, results_err rfl _ _ _ _ rfl HBE.out, ?_⟩
  unfold DoPost
  rw [HD.out]
  exact ⟨rfl, HR4.out.1, (HQ2.out.keep.mono (fun _ _ h => h.elim)).trans HR4.out.2 (fun _ _ h => h)⟩
set_option maxHeartbeats 4000000 in
set_option maxRecDepth 100000 in
theorem do_num_some (T : TypeId) (D : Nat → Prop) (w : World) (p : Nat) (A : Option Addr) (c : Nat) (vs : List Value) (P : List JV) (h : RowAt T D w p A c vs P) (hn : P.length ≤ 1048576) (s : StepV) (B : Option Addr) (d : Nat) (hu : usedF s = true) (hs : s.sort = 3) (hbits : s.bits < 18446744073709551616) (hf : finiteF s.bits = true) (hz : (FloatKind.f64.format.order s.bits 0 == some Ordering.eq) = false) (hv : numN s.bits = s.bits) (hn0 : s.bits ≠ 9223372036854775808) :
    Calls Tryz.prog 28 #[.pointer (some ⟨p, 0, none⟩), .agg (stepV s B d).toArray] w (DoPost T D w p (.slice A P.length c) P s) := by
  have _ := hn
  have HQ := Lib.hid (DoQ.made w s B d)
  obtain ⟨SV, hSV⟩ : ∃ SV, SV = stepV s B d := ⟨_, rfl⟩
  rw [← hSV] at HQ ⊢
  have HU : Hid (∀ W, Calls Tryz.prog 50 #[.agg SV.toArray] W fun e w' => e = .returned (.bool true) ∧ Keeps (fun _ => False) W w') := Lib.hid fun W => by
    have := used_any W s B d
    rw [hu, ← hSV] at this
    exact this
  have HSI : Hid ((Tryz.prog.info? 44).map (·.size) = some SV.length) := Lib.hid (by rw [hSV, stepV_len]; kernel_rfl)
  have HS := Lib.hid hs
  have HR := Lib.hid h
  have hmf : ∀ (fn : Fn) (first cap : Array Value) (w : World), (Instr.makeFunc fn first cap).run Tryz.prog w = .ok (.func fn first cap) w := fun _ _ _ _ => rfl
  clear h hSV
  have HD : Hid (doF P s = .inr (P ++ [JV.num (s.bits)])) := Lib.hid (by rw [doF_ok_num hu hs hf, hv])
  have hfb : ∀ W, (callFunc 52 #[.int .u64 s.bits]).run Tryz.prog W = .ok (.value (.float .f64 s.bits)) W := fun W => frombits _ W
  have HNA := Lib.hid fun W => isnan_any W s.bits
  have HIN := Lib.hid fun W => isinf_any W s.bits hbits
  have hq : (Ieee.double.order s.bits s.bits != some .eq) = false := by rw [order_self hf]; rfl
  have hi : (Ieee.double.order (rng s.bits) 9218868437227405311 == some .gt) = false := by simpa using order_max hf
  rw [hq] at HNA
  rw [hi] at HIN
  have HP : Hid (∀ W, Keeps (fun _ => False) w W → Calls Tryz.prog 51 #[.pointer (some ⟨p, 0, none⟩), .iface 122 (.float .f64 s.bits)] W fun e w' => e = .returned (.tuple #[]) ∧ RowPost T D W p (.slice A P.length c) (P ++ [JV.num s.bits]) w') := Lib.hid fun W hW =>
    put_number T D W p A c vs P (HR.out.stay hW) hn _ (.num _ hf hn0 hbits) true (by decide)
  clear hf hq hi hv
  go_enter_defers Tryz.func28, Tryz.ntmps28
  go_wp2_with (first
    | ((with_reducible show wpList _ _ _ (⟨some 8, _, _, _, _, _⟩ :: _) _ _); refine wpList_load_whole rfl 44 _ rfl _ rfl HQ.out.blk Tryz.underlying44 rfl HSI.out ?_)
    | (go_at_call 50; refine (HU.out _).mono ?_; rintro e w2 ⟨rfl, hk2⟩; have HQ2 := Lib.hid (HQ.out.stay hk2); obtain ⟨s0, s1, s2, s3, s4, s5⟩ := HQ2.out.cells; rw [HS.out] at s0; have tk : True := trivial; clear hk2)
    | (go_at_call 49; refine (refuse_ok _ _).mono ?_; rintro e w3 ⟨he, rfl⟩; subst he)
    | (go_at_call 53; refine (HNA.out _).mono ?_; rintro e w5 ⟨rfl, rfl⟩)
    | (go_at_call 54; refine (HIN.out _).mono ?_; rintro e w5 ⟨rfl, rfl⟩)
    | (go_at_call 51; refine (HP.out _ HQ2.out.keep).mono ?_; rintro e w4 ⟨rfl, hr4⟩; have hbe := HQ2.out.err_row HR.out hr4.2; have HR4 := Lib.hid hr4; have HBE := Lib.hid hbe; have c0 := hbe.cell 0; have f0 := hbe.frozen 0; clear hr4 hbe))
  rw [set_same HBE.out]
  refine leaves_cons (f := 48) (args := #[.pointer (some ⟨w.heap.size + 1, 0, none⟩)]) (by simp) (by simp [go_sem]) ?_
  refine (do_idle ⟨w.heap.size + 1, 0, none⟩ _).mono ?_
  rintro e u' w'' ⟨rfl, rfl, rfl⟩
  refine ⟨_, results_err rfl _ _ _ _ rfl HBE.out, ?_⟩
  unfold DoPost
  rw [HD.out]
  exact ⟨rfl, HR4.out.1, (HQ2.out.keep.mono (fun _ _ h => h.elim)).trans HR4.out.2 (fun _ _ h => h)⟩
theorem do_num_spec (s : StepV) (hu : usedF s = true) (hs : s.sort = 3) (hbits : s.bits < 18446744073709551616) (T : TypeId) (D : Nat → Prop) (w : World) (p : Nat) (A : Option Addr) (c : Nat) (vs : List Value) (P : List JV) (h : RowAt T D w p A c vs P) (hn : P.length ≤ 1048576) (B : Option Addr) (d : Nat) :
    Calls Tryz.prog 28 #[.pointer (some ⟨p, 0, none⟩), .agg (stepV s B d).toArray] w (DoPost T D w p (.slice A P.length c) P s) := by
  cases hf : finiteF s.bits
  · rcases hq : (Ieee.double.order s.bits s.bits != some .eq) with _ | _
    · have hi := (order_not hf).resolve_left (by simpa using hq)
      exact do_num_inf T D w p A c vs P h hn s B d hu hs hbits hf hq (by rw [hi]; rfl)
    · exact do_num_nan T D w p A c vs P h hn s B d hu hs hbits hf hq
  · have hz := order_zero hf hbits
    by_cases h0 : s.bits = 0 ∨ s.bits = 9223372036854775808
    · exact do_num_zero T D w p A c vs P h hn s B d hu hs hbits hf (by exact hz.trans (by simp [h0])) (by unfold numN; rcases h0 with h0 | h0 <;> simp [h0])
    · exact do_num_some T D w p A c vs P h hn s B d hu hs hbits hf (by exact hz.trans (by simp [h0])) (by unfold numN; rw [if_neg (fun e => h0 (.inr e))]) (fun e => h0 (.inr e))
end Go.Proofs.YtdmcioghdindfaaGreat
