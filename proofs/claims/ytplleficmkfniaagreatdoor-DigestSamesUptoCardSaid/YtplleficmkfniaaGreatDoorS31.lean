/- Texts. -/
import Derived.Laws.Bits64b
import Derived.Laws.Bits64
import Derived.Test.YtplleficmkfniaaGreatDoorS04
import Derived.Laws.BitsAllLaws
set_option linter.unusedSimpArgs false
set_option maxRecDepth 100000
set_option maxHeartbeats 4000000
namespace Go.Sha
open Go
theorem tailB_get (n : Nat) : ∀ (K i : Nat), i < K → (tailB n K).getD i 0 = 8 * (n : Int) / 2 ^ (8 * (K - 1 - i)) % 256
 | 0, i, h => absurd h (by omega)
 | K + 1, 0, _ => by simp [tailB]
 | K + 1, i + 1, h => by
  have := tailB_get n K i (by omega)
  rw [show K + 1 - 1 - (i + 1) = K - 1 - i by omega, ← this]
  simp [tailB]
theorem big_div (n e : Nat) (hn : n < 2305843009213693952) (he : 64 ≤ e) : 8 * (n : Int) / 2 ^ e = 0 := by
 refine Int.ediv_eq_zero_of_lt (by omega) ?_
 have h2 : (2 : Int) ^ 64 ≤ 2 ^ e := by
  have := Nat.pow_le_pow_right (n := 2) (by omega) he
  exact_mod_cast this
 have h3 : (2 : Int) ^ 64 = 18446744073709551616 := by decide
 omega
theorem padF_zero (n k : Nat) (h : k + 9 < padLen n) : (padF n).getD (k + 1) 0 = 0 := by
 have := padLen_ge n
 unfold padF padK
 simp only [List.getD_eq_getElem?_getD, List.getElem?_cons_succ]
 rw [List.getElem?_append_left (by simp; omega), List.getElem?_replicate, if_pos (by omega)]
 rfl
theorem padF_byte (n k : Nat) (hn : n < 2305843009213693952) (h : k + 1 < padLen n) : (padF n).getD (k + 1) 0 = 8 * (n : Int) / 2 ^ (8 * (padLen n - 1 - (k + 1))) % 256 := by
 have hp := padLen_ge n
 by_cases hz : k + 9 < padLen n
 ·rw [padF_zero n k hz, big_div n _ hn (by omega)]
  rfl
 ·unfold padF padK
  simp only [List.getD_eq_getElem?_getD, List.getElem?_cons_succ]
  rw [List.getElem?_append_right (by simp; omega), List.length_replicate]
  have := tailB_get n 8 (k - (padLen n - 1 - 8)) (by omega)
  rw [List.getD_eq_getElem?_getD] at this
  rw [this]
  congr 4
  omega
def lo32 (x : Int) : Int := bits .and .u64 x 4294967295
def mulT (x y : Int) : Int := IntKind.u64.wrap (IntKind.u64.wrap (x / 4294967296 * lo32 y) + IntKind.u64.wrap (lo32 x * lo32 y) / 4294967296)
def mulHi (x y : Int) : Int := IntKind.u64.wrap (IntKind.u64.wrap (IntKind.u64.wrap (x / 4294967296 * (y / 4294967296)) + mulT x y / 4294967296) + IntKind.u64.wrap (lo32 (mulT x y) + IntKind.u64.wrap (lo32 x * (y / 4294967296))) / 4294967296)
def mulLo (x y : Int) : Int := IntKind.u64.wrap (x * y)
theorem wrap_nonneg (x : Int) : 0 ≤ IntKind.u64.wrap x := by rw [IntKind.wrap_u64]; omega
theorem mulHi_nonneg (x y : Int) : 0 ≤ mulHi x y := wrap_nonneg _
theorem mulLo_nonneg (x y : Int) : 0 ≤ mulLo x y := wrap_nonneg _
def sqB (s p : Int) : Bool := decide (mulHi s s < p) || (mulHi s s == p && mulLo s s == 0)
def cubeTop (s : Int) : Int := IntKind.u64.wrap (mulHi (mulLo s s) s + IntKind.u64.wrap (mulHi s s * s))
def cubeB (s p : Int) : Bool := decide (cubeTop s < IntKind.u64.wrap (p * 4294967296)) || (cubeTop s == IntKind.u64.wrap (p * 4294967296) && mulLo (mulLo s s) s == 0)
def rootT (j : Nat) (x : Int) : Int := bits .or .u64 x (IntKind.u64.wrap (2 ^ j))
def rootC (three : Bool) (p t : Int) : Bool := bif three then decide (t < 68719476736) && cubeB t p else sqB t p
def rootL (three : Bool) (p : Int) : Nat → Int → Int
 | 0, x => x
 | j + 1, x => rootL three p j (bif rootC three p (rootT j x) then rootT j x else x)
def rootF (p : Int) (three : Bool) : Int := IntKind.u32.wrap (rootL three p 40 0)
theorem rootT_nonneg (j : Nat) (x : Int) : 0 ≤ rootT j x := by
 have h : ∀ z, (Lit.int .u64 z).wf = true → 0 ≤ z := fun z hz => (bounds_u64 hz).1
 exact h _ (wf_bits .or .u64 x _)
theorem rootC_true {p t : Int} {b c : Bool} (h : decide (t < 68719476736) = b) (hc : c = cubeB t p) : rootC true p t = (b && c) := by unfold rootC; rw [h, hc]; rfl
theorem rootC_false {p t : Int} {c : Bool} (hc : c = sqB t p) : rootC false p t = c := by unfold rootC; rw [hc]; rfl
theorem rootL_yes {three : Bool} {p x t : Int} {j : Nat} (ht : t = rootT j x) (hc : rootC three p t = true) : rootL three p (j + 1) x = rootL three p j t := by
 subst ht; show rootL three p j (bif rootC three p (rootT j x) then rootT j x else x) = _; rw [hc]; rfl
theorem rootL_no {three : Bool} {p x t : Int} {j : Nat} (ht : t = rootT j x) (hc : rootC three p t = false) : rootL three p (j + 1) x = rootL three p j x := by
 subst ht; show rootL three p j (bif rootC three p (rootT j x) then rootT j x else x) = _; rw [hc]; rfl
def innerL (p : Int) : Nat → Int → Bool → Bool
 | 0, _, is => is
 | f + 1, d, is => bif decide (d * d ≤ p) && is then innerL p f (d + 1) (p % d != 0) else is
def isPr (p : Int) : Bool := innerL p 18 2 true
def outerL : Nat → Nat → Int → List Int → Option (List Int)
 | 0, n, _, l => bif decide (n < 64) then none else some l
 | f + 1, n, p, l => bif decide (n < 64) then (bif isPr p then outerL f (n + 1) (p + 1) (l.set n p) else outerL f n (p + 1) l) else some l
def primesL : List Int := [2, 3, 5, 7, 11, 13, 17, 19, 23, 29, 31, 37, 41, 43, 47, 53, 59, 61, 67, 71, 73, 79, 83, 89, 97, 101, 103, 107, 109, 113, 127, 131, 137, 139, 149, 151, 157, 163, 167, 173, 179, 181, 191, 193, 197, 199, 211, 223, 227, 229, 233, 239, 241, 251, 257, 263, 269, 271, 277, 281, 283, 293, 307, 311]
theorem outer_all : outerL 310 0 2 (List.replicate 64 0) = some primesL := by decide +kernel
theorem roots_cube : primesL.map (fun p => rootF p true) = K := by decide +kernel
theorem roots_square : (primesL.take 8).map (fun p => rootF p false) = firstL := by decide +kernel
theorem inner_go {p d : Int} {f : Nat} (h : d * d ≤ p) : innerL p (f + 1) d true = innerL p f (d + 1) (p % d != 0) := by
 show (bif decide (d * d ≤ p) && true then _ else _) = _
 rw [decide_eq_true h]; rfl
theorem inner_stop {p d : Int} {f : Nat} {b : Bool} (h : ¬ d * d ≤ p) : innerL p f d b = b := by
 cases f with
 | zero => rfl
 | succ f => show (bif decide (d * d ≤ p) && b then _ else _) = _; rw [decide_eq_false h]; rfl
theorem inner_false {p d : Int} {f : Nat} : innerL p f d false = false := by
 cases f with
 | zero => rfl
 | succ f => show (bif decide (d * d ≤ p) && false then _ else _) = _; rw [Bool.and_false]; rfl
theorem outer_fuel {n : Nat} {p : Int} {l r : List Int} (h : outerL 0 n p l = some r) : ¬ n < 64 := by
 intro hn
 have : (bif decide (n < 64) then none else some l) = some r := h
 rw [decide_eq_true hn] at this
 cases this
theorem outer_yes {n f : Nat} {p : Int} {l : List Int} (h : n < 64) (hp : isPr p = true) : outerL (f + 1) n p l = outerL f (n + 1) (p + 1) (l.set n p) := by
 show (bif decide (n < 64) then (bif isPr p then _ else _) else _) = _
 rw [decide_eq_true h, hp]; rfl
theorem outer_no {n f : Nat} {p : Int} {l : List Int} (h : n < 64) (hp : isPr p = false) : outerL (f + 1) n p l = outerL f n (p + 1) l := by
 show (bif decide (n < 64) then (bif isPr p then _ else _) else _) = _
 rw [decide_eq_true h, hp]; rfl
theorem outer_end {n f : Nat} {p : Int} {l : List Int} (h : ¬ n < 64) : outerL f n p l = some l := by
 cases f with
 | zero => show (bif decide (n < 64) then none else some l) = _; rw [decide_eq_false h]; rfl
 | succ f => show (bif decide (n < 64) then (bif isPr p then _ else _) else some l) = _; rw [decide_eq_false h]; rfl
end Go.Sha
namespace Go.Proofs.YtplleficmkfniaaGreatDoor
open Go Go.RowKit Go.Sha Go.Aff
theorem mul64_any (w : World) (x y : Int) (_hx : 0 ≤ x) (_hy : 0 ≤ y) : Calls Tryz.prog 269 #[.int .u64 x, .int .u64 y] w fun e w' => e = .returned (.tuple #[.int .u64 (mulHi x y), .int .u64 (mulLo x y)]) ∧ w = w' := by
 go_enter Tryz.func269, Tryz.ntmps269
 go_wp2
 go_ret2
 exact ⟨rfl, rfl⟩
theorem square_any (w : World) (s p : Int) (hs : 0 ≤ s) : Calls Tryz.prog 250 #[.int .u64 s, .int .u64 p] w fun e w' => e = .returned (.bool (sqB s p)) ∧ w = w' := by
 have hm := mul64_any w s s hs hs
 have HB : Hid (sqB s p = (decide (mulHi s s < p) || (mulHi s s == p && mulLo s s == 0))) := rfl
 have h1 := mulHi_nonneg s s
 have h2 := mulLo_nonneg s s
 obtain ⟨R, hR⟩ : ∃ R, R = sqB s p := ⟨_, rfl⟩
 obtain ⟨hi, hhi⟩ : ∃ hi, hi = mulHi s s := ⟨_, rfl⟩
 obtain ⟨lo, hlo⟩ : ∃ lo, lo = mulLo s s := ⟨_, rfl⟩
 rw [← hR, ← hhi, ← hlo] at HB
 rw [← hhi, ← hlo] at hm
 rw [← hhi] at h1
 rw [← hlo] at h2
 rw [← hR]
 have HM := H_ hm
 clear hm hR hhi hlo
 go_enter Tryz.func250, Tryz.ntmps250
 go_wp2_with (go_at_call 269; refine HM.out.mono ?_; rintro e w1 ⟨rfl, rfl⟩)
 all_goals
  go_ret
  refine ⟨?_, rfl⟩
  rw [HB.out]
  congr 2
  first | (simp [*]; done) | (simp; omega)
theorem cube_any (w : World) (s p : Int) (hs : 0 ≤ s) : Calls Tryz.prog 249 #[.int .u64 s, .int .u64 p] w fun e w' => e = .returned (.bool (cubeB s p)) ∧ w = w' := by
 have hm := mul64_any w s s hs hs
 have hm2 := mul64_any w (mulLo s s) s (mulLo_nonneg _ _) hs
 have HB : Hid (cubeB s p = (decide (cubeTop s < IntKind.u64.wrap (p * 4294967296)) || (cubeTop s == IntKind.u64.wrap (p * 4294967296) && mulLo (mulLo s s) s == 0))) := rfl
 have h1 := mulHi_nonneg s s
 have h2 := mulLo_nonneg s s
 have h3 := mulHi_nonneg (mulLo s s) s
 have h4 := mulLo_nonneg (mulLo s s) s
 rw [show cubeTop s = IntKind.u64.wrap (mulHi (mulLo s s) s + IntKind.u64.wrap (mulHi s s * s)) from rfl] at HB
 obtain ⟨R, hR⟩ : ∃ R, R = cubeB s p := ⟨_, rfl⟩
 obtain ⟨hi, hhi⟩ : ∃ hi, hi = mulHi s s := ⟨_, rfl⟩
 obtain ⟨lo, hlo⟩ : ∃ lo, lo = mulLo s s := ⟨_, rfl⟩
 rw [← hR, ← hhi, ← hlo] at HB
 rw [← hhi, ← hlo] at hm
 rw [← hlo] at hm2 h2 h3 h4
 rw [← hhi] at h1
 rw [← hR]
 clear hR hhi hlo
 obtain ⟨top, htop⟩ : ∃ top, top = mulHi lo s := ⟨_, rfl⟩
 obtain ⟨low, hlow⟩ : ∃ low, low = mulLo lo s := ⟨_, rfl⟩
 rw [← htop, ← hlow] at HB hm2
 rw [← htop] at h3
 rw [← hlow] at h4
 clear htop hlow
 have HM := H_ hm
 have HM2 := H_ hm2
 clear hm hm2
 go_enter Tryz.func249, Tryz.ntmps249
 go_wp2_with (go_at_call 269; (first | (with_reducible refine HM.out.mono ?_) | (with_reducible refine HM2.out.mono ?_)); rintro e w1 ⟨rfl, rfl⟩)
 all_goals
  go_ret
  refine ⟨?_, rfl⟩
  rw [HB.out]
  congr 2
  first | (simp [*]; done) | (simp; omega)
theorem sh_root_any (w : World) (p : Int) (three : Bool) : Calls Tryz.prog 215 #[.int .u64 p, .bool three] w fun e w' => e = .returned (.int .u32 (rootF p three)) ∧ w = w' := by
 obtain ⟨R, hR⟩ : ∃ R, R = rootL three p 40 0 := ⟨_, rfl⟩
 have HR : Hid (rootF p three = IntKind.u32.wrap R) := by rw [hR]; rfl
 have H0 : Hid (rootL three p 40 0 = R) := hR.symm
 obtain ⟨RF, hRF⟩ : ∃ RF, RF = rootF p three := ⟨_, rfl⟩
 rw [← hRF] at HR ⊢
 clear hR hRF
 cases three
 all_goals
  go_enter Tryz.func215, Tryz.ntmps215
  go_wp2
  go_loop [5, 6, 7] (fun s i _ => ∃ (k : Nat) (x : Int), k ≤ 40 ∧ i = .int .i64 ((k : Int) - 1) ∧ s = .int .u64 x ∧ 0 ≤ x ∧ rootL _ p k x = R) (fun _ i _ => (intOf i + 1).toNat)
  case atStart => exact ⟨40, 0, by omega, by go_num, rfl, by omega, H0.out⟩
  case round =>
   obtain ⟨k, x, hk, rfl, rfl, hx, hl⟩ := hrel
   rcases k with _ | j
   ·have HL := H_ hl
    clear hl hx
    rw [show ((0 : Nat) : Int) - 1 = -1 by omega]
    go_wp2
    go_ret
    exact ⟨by rw [HR.out, ← HL.out]; rfl, rfl⟩
   ·rw [show ((j + 1 : Nat) : Int) - 1 = (j : Int) by omega]
    have ht0 := rootT_nonneg j x
    obtain ⟨t, ht⟩ : ∃ t, t = rootT j x := ⟨_, rfl⟩
    have HT : Hid (bits BinOp.or IntKind.u64 x (IntKind.u64.wrap (2 ^ j)) = t) := ht.symm
    have hc := fun wx => cube_any wx t p (by rw [ht]; exact ht0)
    have hs := fun wx => square_any wx t p (by rw [ht]; exact ht0)
    rw [← ht] at ht0
    obtain ⟨cu, hcu⟩ : ∃ cu, cu = cubeB t p := ⟨_, rfl⟩
    obtain ⟨sq, hsq⟩ : ∃ sq, sq = sqB t p := ⟨_, rfl⟩
    simp only [← hcu] at hc
    simp only [← hsq] at hs
    have HC := H_ hc
    have HS := H_ hs
    have HL := H_ hl
    have HTT := H_ ht
    have HCU := H_ hcu
    have HSQ := H_ hsq
    clear hc hs hl ht hcu hsq
    go_upto_region 6 with (fail)
    rw [HT.out]
    obtain ⟨b36, h36⟩ : ∃ b, decide (t < 68719476736) = b := ⟨_, rfl⟩
    cases b36
    all_goals
     cases cu
     all_goals
      cases sq
      all_goals
       go_wp2_with (first
        | (go_at_call 249; refine (HC.out _).mono ?_; rintro e w1 ⟨rfl, rfl⟩)
        | (go_at_call 250; refine (HS.out _).mono ?_; rintro e w1 ⟨rfl, rfl⟩))
       go_round
       case rel =>
        refine ⟨j, _, by omega, by go_num, rfl, by first | exact hx | exact ht0, ?_⟩
        rw [← HL.out]
        first
         | exact (rootL_yes HTT.out (rootC_true h36 HCU.out)).symm
         | exact (rootL_no HTT.out (rootC_true h36 HCU.out)).symm
         | exact (rootL_yes HTT.out (rootC_false HSQ.out)).symm
         | exact (rootL_no HTT.out (rootC_false HSQ.out)).symm
       case measure => simp [intOf]
def FillRel (w : World) (t : TypeId) (z : Value) (N M : Nat) (l : List Value) (wr : World) : Prop :=
 Blk wr M t l ∧ Blk wr N t (List.replicate l.length z) ∧ Keeps (fun _ => False) w wr ∧ w.heap.size ≤ N ∧ w.heap.size ≤ M ∧ N ≠ M
theorem FillRel.set {w : World} {t : TypeId} {z : Value} {N M : Nat} {l : List Value} {wr : World} (h : FillRel w t z N M l wr) (i : Nat) (v : Value) : FillRel w t z N M (l.set i v) (wr.setCell ⟨M, i, none⟩ v) :=
 ⟨h.1.set_ i v, by rw [List.length_set]; exact h.2.1.far h.2.2.2.2.2 v, h.2.2.1.setCell (.inr h.2.2.2.2.1) v, h.2.2.2⟩
theorem vi_set (k : IntKind) (l : List Int) (i : Nat) (x : Int) : (vi k l).set i (.int k x) = vi k (l.set i x) := by simp [vi]
theorem vi_length (k : IntKind) (l : List Int) : (vi k l).length = l.length := by simp [vi]
theorem vi_one (k : IntKind) (l : List Int) : ∀ u ∈ vi k l, u.oneCell' = true := by intro u hu; obtain ⟨x, _, rfl⟩ := List.mem_map.1 hu; rfl
def fillL (L : List Int) (k : Nat) : List Int := L.take k ++ List.replicate (L.length - k) 0
theorem fillL_length (L : List Int) (k : Nat) (h : k ≤ L.length) : (fillL L k).length = L.length := by simp [fillL]; omega
theorem fillL_zero (L : List Int) : fillL L 0 = List.replicate L.length 0 := by simp [fillL]
theorem fillL_all (L : List Int) : fillL L L.length = L := by simp [fillL]
theorem fillL_set (L : List Int) (k : Nat) (h : k < L.length) : (fillL L k).set k (L.getD k 0) = fillL L (k + 1) := by
 unfold fillL
 rw [List.set_append_right _ _ (by simp; omega), List.take_succ_eq_append_getElem h, List.append_assoc]
 congr 1
 rw [List.length_take, Nat.min_eq_left (Nat.le_of_lt h), Nat.sub_self]
 obtain ⟨m, hm⟩ : ∃ m, L.length - k = m + 1 := ⟨L.length - k - 1, by omega⟩
 rw [hm, List.replicate_succ, List.set_cons_zero, show L.length - (k + 1) = m by omega]
 simp [h]
theorem getD_map (f : Int → Int) (l : List Int) (k : Nat) (h : k < l.length) : (l.map f).getD k 0 = f (l.getD k 0) := by simp [h]
theorem primesL_length : primesL.length = 64 := rfl
theorem root_cube (k : Nat) (h : k < 64) : rootF (primesL.getD k 0) true = K.getD k 0 :=
 (getD_map (fun p => rootF p true) primesL k (by rw [primesL_length]; exact h)).symm.trans (by rw [roots_cube])
theorem root_square (k : Nat) (h : k < 8) : rootF (primesL.getD k 0) false = firstL.getD k 0 := by
 have e : (primesL.take 8).getD k 0 = primesL.getD k 0 := by simp [List.getD, h]
 rw [← e]
 exact (getD_map (fun p => rootF p false) (primesL.take 8) k (by rw [List.length_take, primesL_length]; omega)).symm.trans (by rw [roots_square])
theorem primes_any (w : World) : Calls Tryz.prog 214 #[] w fun e w' => e = .returned (.agg (vi .u64 primesL).toArray) ∧ Keeps (fun _ => False) w w' := by
 obtain ⟨PL, hPL⟩ : ∃ PL, PL = primesL := ⟨_, rfl⟩
 have H0 : Hid (outerL 310 0 2 (List.replicate 64 0) = some PL) := by rw [hPL]; exact outer_all
 rw [← hPL]
 clear hPL
 go_enter Tryz.func214, Tryz.ntmps214
 go_wp2
 have R0 : FillRel w 348 (.int .u64 0) w.heap.size (w.heap.size + 1) (vi .u64 (List.replicate 64 0)) ((w.alloc (.cells (List.replicate 64 (Value.int .u64 0)).toArray 348)).alloc (.cells (List.replicate 64 (Value.int .u64 0)).toArray 348)) := by
  have h2 := Blk.new (w.alloc (.cells (List.replicate 64 (Value.int .u64 0)).toArray 348)) 348 (List.replicate 64 (Value.int .u64 0))
  rw [World.size_alloc] at h2
  exact ⟨h2, (Blk.new w 348 (List.replicate 64 (Value.int .u64 0))).alloc _, ((Keeps.refl _ _).alloc _).alloc _, Nat.le_refl _, by omega, by omega⟩
 have HR0 := H_ R0
 clear R0
 go_loopw [2, 3, 4, 5] (fun n p _ _ wr => ∃ (f nn : Nat) (pp : Int) (l : List Int), n = .int .i64 nn ∧ p = .int .u64 pp ∧ pp + f = 312 ∧ 2 ≤ pp ∧ nn ≤ 64 ∧ l.length = 64 ∧ outerL f nn pp l = some PL ∧ FillRel w 348 (.int .u64 0) w.heap.size (w.heap.size + 1) (vi .u64 l) wr) (fun _ p _ _ _ => (312 - intOf p).toNat)
 case atStart => exact ⟨310, 0, 2, _, rfl, rfl, by omega, by omega, by omega, by simp, H0.out, HR0.out⟩
 case round =>
  clear H0 HR0
  obtain ⟨f, nn, pp, l, rfl, rfl, hpf, hp2, hnn, hll, ho, hF⟩ := hrel
  have HLL := H_ hll
  have HO := H_ ho
  have HF := H_ hF
  clear hll ho
  by_cases hlt : nn < 64
  ·have hf0 : 0 < f := by
    rcases f with _ | f
    ·exact absurd hlt (outer_fuel HO.out)
    ·omega
   obtain ⟨g, rfl⟩ : ∃ g, f = g + 1 := ⟨f - 1, by omega⟩
   have hcell : ∃ u, wr.cell? ⟨w.heap.size + 1, nn, none⟩ = some u := by
    rw [hF.1.cell]
    exact ⟨_, List.getElem?_eq_getElem (by rw [vi_length, HLL.out]; exact hlt)⟩
   obtain ⟨u, hcell⟩ := hcell
   have hfz := hF.1.frozen nn
   clear hF
   have HB : Hid (innerL pp 18 2 true = isPr pp) := rfl
   obtain ⟨B, hB⟩ : ∃ B, B = isPr pp := ⟨_, rfl⟩
   rw [← hB] at HB
   have HBB := H_ hB
   clear hB
   go_wp2
   go_loop [4, 5] (fun is d => ∃ (f2 : Nat) (dd : Int) (b : Bool), d = .int .u64 dd ∧ is = .bool b ∧ dd + f2 = 20 ∧ 2 ≤ dd ∧ innerL pp f2 dd b = B) (fun _ d => (20 - intOf d).toNat)
   case atStart => exact ⟨18, 2, true, rfl, rfl, by omega, by omega, HB.out⟩
   case round =>
    clear HB
    obtain ⟨f2, dd, b, rfl, rfl, hdf, hd2, hi⟩ := hrel
    have hdd0 : 0 ≤ dd * dd := Int.mul_nonneg (by omega) (by omega)
    have hdd1 : dd * dd ≤ 400 := by
     have := Int.mul_le_mul (show dd ≤ 20 by omega) (show dd ≤ 20 by omega) (by omega) (by omega)
     omega
    have hdd2 : 18 ≤ dd → 324 ≤ dd * dd := by
     intro h18
     have := Int.mul_le_mul h18 h18 (by omega) (by omega)
     omega
    have HI := H_ hi
    clear hi
    by_cases hgo : dd * dd ≤ pp ∧ b = true
    ·obtain ⟨hle, rfl⟩ := hgo
     have hd18 : dd < 18 := by
      rcases Decidable.em (dd < 18) with h | h
      ·exact h
      ·have := hdd2 (by omega); omega
     obtain ⟨g2, rfl⟩ : ∃ g2, f2 = g2 + 1 := ⟨f2 - 1, by omega⟩
     clear hdd2
     go_wp2
     go_round
     case rel => exact ⟨g2, dd + 1, _, rfl, rfl, by omega, by omega, by rw [← HI.out, inner_go hle]⟩
     case measure => simp [intOf]; omega
    ·have hb : b = B := by
      rw [← HI.out]
      by_cases hle : dd * dd ≤ pp
      ·have : b = false := by cases b; rfl; exact absurd ⟨hle, rfl⟩ hgo
       subst this
       exact inner_false.symm
      ·exact (inner_stop hle).symm
     have hno : dd * dd ≤ pp → b = false := fun hle => by cases b; rfl; exact absurd ⟨hle, rfl⟩ hgo
     have HNO := H_ hno
     clear hgo hdd2 hno HI
     have HBe := H_ hb
     clear hb
     by_cases hle : dd * dd ≤ pp
     ·obtain rfl := HNO.out hle
      go_wp2
      go_roundw
      case rel => exact ⟨g, nn, pp + 1, l, rfl, rfl, by omega, by omega, by omega, HLL.out, by rw [← HO.out, outer_no hlt (by rw [← HBB.out, ← HBe.out])], HF.out⟩
      case measure => simp [intOf]; omega
     ·cases b
      ·go_wp2
       go_roundw
       case rel => exact ⟨g, nn, pp + 1, l, rfl, rfl, by omega, by omega, by omega, HLL.out, by rw [← HO.out, outer_no hlt (by rw [← HBB.out, ← HBe.out])], HF.out⟩
       case measure => simp [intOf]; omega
      ·go_wp2
       go_roundw
       case rel => exact ⟨g, nn + 1, pp + 1, l.set nn pp, by go_num, rfl, by omega, by omega, by omega, by rw [List.length_set]; exact HLL.out, by rw [← HO.out, outer_yes hlt (by rw [← HBB.out, ← HBe.out])], by rw [← vi_set]; exact HF.out.set nn _⟩
       case measure => simp [intOf]; omega
  ·have hl : l = PL := by
    have := HO.out
    rw [outer_end hlt] at this
    exact Option.some.inj this
   subst hl
   obtain ⟨h1, h2, h3, h4, h5, h6⟩ := hF
   have hlen := HLL.out
   rw [vi_length, hlen] at h2
   have HLEN := H_ hlen
   clear hlen
   go_wp2_with (first | ((with_reducible show wpList _ _ _ (⟨some _, Op.load 348 _, _, _, _, _⟩ :: _) _ _); refine wpList_load_whole rfl 348 _ rfl _ rfl h1 Tryz.underlying348 rfl (by rw [vi_length, HLEN.out]; kernel_rfl) ?_) | ((with_reducible show wpList _ _ _ (⟨none, Op.store 348 _ _, _, _, _, _⟩ :: _) _ _); refine wpList_store_whole rfl 348 _ _ rfl (vi .u64 l) rfl rfl h2 (by rw [vi_length, HLEN.out]; simp) (by rw [vi_length, HLEN.out]; kernel_rfl) (vi_one _ _) ?_))
   refine bodyPost_ret (results_blk rfl _ _ rfl (h2.setRow (vi .u64 l)) Tryz.underlying348 rfl (by rw [vi_length, HLEN.out]; kernel_rfl)) rfl ⟨rfl, h3.setRow (.inr h4) _⟩
theorem constants_any (w : World) : Calls Tryz.prog 216 #[] w fun e w' => e = .returned (.agg (vi .u32 K).toArray) ∧ Keeps (fun _ => False) w w' := by
 obtain ⟨L, hL⟩ : ∃ L, L = K := ⟨_, rfl⟩
 obtain ⟨PL, hPL⟩ : ∃ PL, PL = primesL := ⟨_, rfl⟩
 have hp := fun wx => primes_any wx
 have hlen : L.length = 64 := by rw [hL]; rfl
 have hpl : PL.length = 64 := by rw [hPL]; rfl
 have hr : ∀ k, k < 64 → rootF (PL.getD k 0) true = L.getD k 0 := fun k hk => by rw [hPL, hL]; exact root_cube k hk
 rw [← hL]
 rw [← hPL] at hp
 have HP := H_ hp
 have HLEN := H_ hlen
 have HPL := H_ hpl
 have HR := H_ hr
 clear hL hPL hp hlen hpl hr
 go_enter Tryz.func216, Tryz.ntmps216
 go_wp2_with (first
  | (go_at_call 214; refine (HP.out _).mono ?_; rintro e w1 ⟨rfl, hk1⟩; have HK1 := H_ hk1; clear hk1)
  | ((with_reducible show wpList _ _ _ (⟨none, Op.store 348 _ _, _, _, _, _⟩ :: _) _ _); refine wpList_store_whole rfl 348 _ _ rfl (vi .u64 PL) rfl rfl (Blk.new w1 348 (List.replicate 64 (Value.int .u64 0))) (by rw [vi_length, HPL.out]; simp) (by rw [vi_length, HPL.out]; kernel_rfl) (vi_one _ _) ?_))
 have R0 : FillRel w 346 (.int .u32 0) w.heap.size (w.heap.size + 1) (vi .u32 (fillL L 0)) ((w1.alloc (.cells (List.replicate 64 (Value.int .u64 0)).toArray 348)).setRow w1.heap.size (vi .u64 PL).toArray) := by
  have h2 := Blk.new (w.alloc (.cells (List.replicate 64 (Value.int .u32 0)).toArray 346)) 346 (List.replicate 64 (Value.int .u32 0))
  rw [World.size_alloc] at h2
  have h1 := (Blk.new w 346 (List.replicate 64 (Value.int .u32 0))).alloc (.cells (List.replicate 64 (Value.int .u32 0)).toArray 346)
  have k1 := HK1.out.blk h1 (fun h => h)
  have k2 := HK1.out.blk h2 (fun h => h)
  have l1 := k1.lt
  have l2 := k2.lt
  have e : vi .u32 (fillL L 0) = List.replicate 64 (Value.int .u32 0) := by rw [fillL_zero, HLEN.out]; simp [vi]
  rw [e]
  refine ⟨(k2.alloc _).setRow_far (by omega) _, ?_, ?_, by omega, by omega, by omega⟩
  ·rw [List.length_replicate]
   exact (k1.alloc _).setRow_far (by omega) _
  ·exact (((((Keeps.refl (fun _ => False) w).alloc _).alloc _).trans HK1.out (fun _ _ h => h)).alloc _).setRow (.inr (by omega)) _
 have P0 : Blk ((w1.alloc (.cells (List.replicate 64 (Value.int .u64 0)).toArray 348)).setRow w1.heap.size (vi .u64 PL).toArray) w1.heap.size 348 (vi .u64 PL) := (Blk.new w1 _ _).setRow _
 have hM : w.heap.size + 1 < w1.heap.size := by
  have := HK1.out.size
  simp at this
  omega
 have HR0 := H_ R0
 have HP0 := H_ P0
 clear R0 P0
 go_loopw [3] (fun i wr => ∃ k : Nat, k ≤ 64 ∧ i = .int .i64 k ∧ FillRel w 346 (.int .u32 0) w.heap.size (w.heap.size + 1) (vi .u32 (fillL L k)) wr ∧ Blk wr w1.heap.size 348 (vi .u64 PL)) (fun i _ => 64 - (intOf i).toNat)
 case atStart => exact ⟨0, by omega, rfl, HR0.out, HP0.out⟩
 case round =>
  clear HR0 HP0
  obtain ⟨k, hk, rfl, hF, hB⟩ := hrel
  by_cases hlt : k < 64
  ·have hcp : wr.cell? ⟨w1.heap.size, k, none⟩ = some (.int .u64 (PL.getD k 0)) := by
    rw [hB.cell]
    have h64 : k < PL.length := by rw [HPL.out]; omega
    simp [vi, h64]
   have hcell : ∃ u, wr.cell? ⟨w.heap.size + 1, k, none⟩ = some u := by
    rw [hF.1.cell]
    exact ⟨_, List.getElem?_eq_getElem (by rw [vi_length, fillL_length _ _ (by rw [HLEN.out]; exact hk), HLEN.out]; exact hlt)⟩
   obtain ⟨u, hcell⟩ := hcell
   have hfz := hF.1.frozen k
   have hrt := fun wx => sh_root_any wx (PL.getD k 0) true
   simp only [HR.out k hlt] at hrt
   obtain ⟨pk, hpk⟩ : ∃ pk, pk = PL.getD k 0 := ⟨_, rfl⟩
   obtain ⟨ck, hck⟩ : ∃ ck, ck = L.getD k 0 := ⟨_, rfl⟩
   simp only [← hpk, ← hck] at hrt hcp
   have HRT := H_ hrt
   have HF := H_ hF
   have HB := H_ hB
   have HCK := H_ hck
   clear hrt hF hB hck hpk
   go_wp2_with (go_at_call 215; refine (HRT.out _).mono ?_; rintro e w2 ⟨rfl, rfl⟩)
   go_roundw
   case rel =>
    refine ⟨k + 1, by omega, by go_num, ?_, HB.out.far (by show w1.heap.size ≠ w.heap.size + 1; omega) _⟩
    have := HF.out.set k (.int .u32 ck)
    rw [vi_set, HCK.out, fillL_set L k (by rw [HLEN.out]; exact hlt), ← HCK.out] at this
    exact this
   case measure => simp [intOf]; omega
  ·obtain rfl : k = 64 := by omega
   obtain ⟨h1, h2, h3, h4, h5, h6⟩ := hF
   have e1 : fillL L 64 = L := by
    have := fillL_all L
    rwa [HLEN.out] at this
   rw [e1] at h1 h2
   rw [vi_length, HLEN.out] at h2
   clear e1
   go_wp2_with (first | ((with_reducible show wpList _ _ _ (⟨some _, Op.load 346 _, _, _, _, _⟩ :: _) _ _); refine wpList_load_whole rfl 346 _ rfl _ rfl h1 Tryz.underlying346 rfl (by rw [vi_length, HLEN.out]; kernel_rfl) ?_) | ((with_reducible show wpList _ _ _ (⟨none, Op.store 346 _ _, _, _, _, _⟩ :: _) _ _); refine wpList_store_whole rfl 346 _ _ rfl (vi .u32 L) rfl rfl h2 (by rw [vi_length, HLEN.out]; simp) (by rw [vi_length, HLEN.out]; kernel_rfl) (vi_one _ _) ?_))
   refine bodyPost_ret (results_blk rfl _ _ rfl (h2.setRow (vi .u32 L)) Tryz.underlying346 rfl (by rw [vi_length, HLEN.out]; kernel_rfl)) rfl ⟨rfl, h3.setRow (.inr h4) _⟩
theorem refFirst_any (w : World) : Calls Tryz.prog 184 #[] w fun e w' => e = .returned (.agg (vi .u32 firstL).toArray) ∧ Keeps (fun _ => False) w w' := by
 obtain ⟨L, hL⟩ : ∃ L, L = firstL := ⟨_, rfl⟩
 obtain ⟨PL, hPL⟩ : ∃ PL, PL = primesL := ⟨_, rfl⟩
 have hp := fun wx => primes_any wx
 have hlen : L.length = 8 := by rw [hL]; rfl
 have hpl : PL.length = 64 := by rw [hPL]; rfl
 have hr : ∀ k, k < 8 → rootF (PL.getD k 0) false = L.getD k 0 := fun k hk => by rw [hPL, hL]; exact root_square k hk
 rw [← hL]
 rw [← hPL] at hp
 have HP := H_ hp
 have HLEN := H_ hlen
 have HPL := H_ hpl
 have HR := H_ hr
 clear hL hPL hp hlen hpl hr
 go_enter Tryz.func184, Tryz.ntmps184
 go_wp2_with (first
  | (go_at_call 214; refine (HP.out _).mono ?_; rintro e w1 ⟨rfl, hk1⟩; have HK1 := H_ hk1; clear hk1)
  | ((with_reducible show wpList _ _ _ (⟨none, Op.store 348 _ _, _, _, _, _⟩ :: _) _ _); refine wpList_store_whole rfl 348 _ _ rfl (vi .u64 PL) rfl rfl (Blk.new w1 348 (List.replicate 64 (Value.int .u64 0))) (by rw [vi_length, HPL.out]; simp) (by rw [vi_length, HPL.out]; kernel_rfl) (vi_one _ _) ?_))
 have R0 : FillRel w 254 (.int .u32 0) w.heap.size (w.heap.size + 1) (vi .u32 (fillL L 0)) ((w1.alloc (.cells (List.replicate 64 (Value.int .u64 0)).toArray 348)).setRow w1.heap.size (vi .u64 PL).toArray) := by
  have h2 := Blk.new (w.alloc (.cells (List.replicate 8 (Value.int .u32 0)).toArray 254)) 254 (List.replicate 8 (Value.int .u32 0))
  rw [World.size_alloc] at h2
  have h1 := (Blk.new w 254 (List.replicate 8 (Value.int .u32 0))).alloc (.cells (List.replicate 8 (Value.int .u32 0)).toArray 254)
  have k1 := HK1.out.blk h1 (fun h => h)
  have k2 := HK1.out.blk h2 (fun h => h)
  have l1 := k1.lt
  have l2 := k2.lt
  have e : vi .u32 (fillL L 0) = List.replicate 8 (Value.int .u32 0) := by rw [fillL_zero, HLEN.out]; simp [vi]
  rw [e]
  refine ⟨(k2.alloc _).setRow_far (by omega) _, ?_, ?_, by omega, by omega, by omega⟩
  ·rw [List.length_replicate]
   exact (k1.alloc _).setRow_far (by omega) _
  ·exact (((((Keeps.refl (fun _ => False) w).alloc _).alloc _).trans HK1.out (fun _ _ h => h)).alloc _).setRow (.inr (by omega)) _
 have P0 : Blk ((w1.alloc (.cells (List.replicate 64 (Value.int .u64 0)).toArray 348)).setRow w1.heap.size (vi .u64 PL).toArray) w1.heap.size 348 (vi .u64 PL) := (Blk.new w1 _ _).setRow _
 have hM : w.heap.size + 1 < w1.heap.size := by
  have := HK1.out.size
  simp at this
  omega
 have HR0 := H_ R0
 have HP0 := H_ P0
 clear R0 P0
 go_loopw [3] (fun i wr => ∃ k : Nat, k ≤ 8 ∧ i = .int .i64 k ∧ FillRel w 254 (.int .u32 0) w.heap.size (w.heap.size + 1) (vi .u32 (fillL L k)) wr ∧ Blk wr w1.heap.size 348 (vi .u64 PL)) (fun i _ => 8 - (intOf i).toNat)
 case atStart => exact ⟨0, by omega, rfl, HR0.out, HP0.out⟩
 case round =>
  clear HR0 HP0
  obtain ⟨k, hk, rfl, hF, hB⟩ := hrel
  by_cases hlt : k < 8
  ·have hcp : wr.cell? ⟨w1.heap.size, k, none⟩ = some (.int .u64 (PL.getD k 0)) := by
    rw [hB.cell]
    have h64 : k < PL.length := by rw [HPL.out]; omega
    simp [vi, h64]
   have hcell : ∃ u, wr.cell? ⟨w.heap.size + 1, k, none⟩ = some u := by
    rw [hF.1.cell]
    exact ⟨_, List.getElem?_eq_getElem (by rw [vi_length, fillL_length _ _ (by rw [HLEN.out]; exact hk), HLEN.out]; exact hlt)⟩
   obtain ⟨u, hcell⟩ := hcell
   have hfz := hF.1.frozen k
   have hrt := fun wx => sh_root_any wx (PL.getD k 0) false
   simp only [HR.out k hlt] at hrt
   obtain ⟨pk, hpk⟩ : ∃ pk, pk = PL.getD k 0 := ⟨_, rfl⟩
   obtain ⟨ck, hck⟩ : ∃ ck, ck = L.getD k 0 := ⟨_, rfl⟩
   simp only [← hpk, ← hck] at hrt hcp
   have HRT := H_ hrt
   have HF := H_ hF
   have HB := H_ hB
   have HCK := H_ hck
   clear hrt hF hB hck hpk
   go_wp2_with (go_at_call 215; refine (HRT.out _).mono ?_; rintro e w2 ⟨rfl, rfl⟩)
   go_roundw
   case rel =>
    refine ⟨k + 1, by omega, by go_num, ?_, HB.out.far (by show w1.heap.size ≠ w.heap.size + 1; omega) _⟩
    have := HF.out.set k (.int .u32 ck)
    rw [vi_set, HCK.out, fillL_set L k (by rw [HLEN.out]; exact hlt), ← HCK.out] at this
    exact this
   case measure => simp [intOf]; omega
  ·obtain rfl : k = 8 := by omega
   obtain ⟨h1, h2, h3, h4, h5, h6⟩ := hF
   have e1 : fillL L 8 = L := by
    have := fillL_all L
    rwa [HLEN.out] at this
   rw [e1] at h1 h2
   rw [vi_length, HLEN.out] at h2
   clear e1
   go_wp2_with (first | ((with_reducible show wpList _ _ _ (⟨some _, Op.load 254 _, _, _, _, _⟩ :: _) _ _); refine wpList_load_whole rfl 254 _ rfl _ rfl h1 Tryz.underlying254 rfl (by rw [vi_length, HLEN.out]; kernel_rfl) ?_) | ((with_reducible show wpList _ _ _ (⟨none, Op.store 254 _ _, _, _, _, _⟩ :: _) _ _); refine wpList_store_whole rfl 254 _ _ rfl (vi .u32 L) rfl rfl h2 (by rw [vi_length, HLEN.out]; simp) (by rw [vi_length, HLEN.out]; kernel_rfl) (vi_one _ _) ?_))
   refine bodyPost_ret (results_blk rfl _ _ rfl (h2.setRow (vi .u32 L)) Tryz.underlying254 rfl (by rw [vi_length, HLEN.out]; kernel_rfl)) rfl ⟨rfl, h3.setRow (.inr h4) _⟩
end Go.Proofs.YtplleficmkfniaaGreatDoor
namespace Go.Sha
open Go
theorem or_nat32 (a b : Nat) (ha : a < 4294967296) (hb : b < 4294967296) : bits .or .u32 (a : Int) (b : Int) = ((a ||| b : Nat) : Int) := by
 have hx : a ||| b < 2 ^ 32 := Nat.or_lt_two_pow (by omega) (by omega)
 have h1 : (BitVec.ofInt 32 (a : Int)).toNat = a := by
  rw [BitVec.ofInt_natCast, BitVec.toNat_ofNat]; exact Nat.mod_eq_of_lt (by omega)
 have h2 : (BitVec.ofInt 32 (b : Int)).toNat = b := by
  rw [BitVec.ofInt_natCast, BitVec.toNat_ofNat]; exact Nat.mod_eq_of_lt (by omega)
 show IntKind.u32.wrap ((BitVec.ofInt 32 (a : Int) ||| BitVec.ofInt 32 (b : Int)).toNat : Int) = _
 rw [BitVec.toNat_or, h1, h2]
 simp [IntKind.wrap, IntKind.bits, IntKind.signed]
 omega
theorem or_add (a b : Int) (k : Nat) (m : Int) (hk : k ≤ 32) (ha : a = m * 2 ^ k) (hm : 0 ≤ m) (ha2 : a < 4294967296) (hb : 0 ≤ b) (hb2 : b < 2 ^ k) : bits .or .u32 a b = a + b := by
 obtain ⟨m, rfl⟩ := Int.eq_ofNat_of_zero_le hm
 obtain ⟨b, rfl⟩ := Int.eq_ofNat_of_zero_le hb
 have hb3 : b < 2 ^ k := by exact_mod_cast hb2
 have e : (m : Int) * 2 ^ k = ((2 ^ k * m : Nat) : Int) := by
  rw [Int.mul_comm, Int.natCast_mul, Int.natCast_pow]
  rfl
 have h1 := Nat.two_pow_add_eq_or_of_lt hb3 m
 have hlt : b < 4294967296 := by
  have := Nat.pow_le_pow_right (n := 2) (by omega) hk
  have e2 : 2 ^ 32 = 4294967296 := by decide
  omega
 rw [ha, e] at ha2 ⊢
 rw [or_nat32 _ _ (by omega) hlt, ← h1, Int.natCast_add]
theorem or_256 (x b : Int) (hx : 0 ≤ x) (hx2 : x < 16777216) (hb : 0 ≤ b) (hb2 : b < 256) : bits .or .u32 (x * 256 % 4294967296) b = x * 256 + b := by
 rw [show x * 256 % 4294967296 = x * 256 by omega]
 exact or_add _ _ 8 x (by omega) rfl hx (by omega) hb (by simpa using hb2)
theorem hz_four (B : Nat → Int) (hB : ∀ i, 0 ≤ B i ∧ B i < 256) (t : Nat) : hz B t 4 = B (4 * t) * 16777216 + B (4 * t + 1) * 65536 + B (4 * t + 2) * 256 + B (4 * t + 3) := by
 have b0 := hB (4 * t)
 have b1 := hB (4 * t + 1)
 have b2 := hB (4 * t + 2)
 have b3 := hB (4 * t + 3)
 have h0 : hz B t 0 = 0 := rfl
 have h1 : hz B t 1 = B (4 * t) := by
  show bits .or .u32 (hz B t 0 * 256 % 4294967296) (B (4 * t + 0)) = _
  rw [h0, Nat.add_zero, or_256 0 _ (by omega) (by omega) b0.1 b0.2]
  simp
 have h2 : hz B t 2 = B (4 * t) * 256 + B (4 * t + 1) := by
  show bits .or .u32 (hz B t 1 * 256 % 4294967296) (B (4 * t + 1)) = _
  rw [h1, or_256 _ _ (by omega) (by omega) b1.1 b1.2]
 have h3 : hz B t 3 = (B (4 * t) * 256 + B (4 * t + 1)) * 256 + B (4 * t + 2) := by
  show bits .or .u32 (hz B t 2 * 256 % 4294967296) (B (4 * t + 2)) = _
  rw [h2, or_256 _ _ (by omega) (by omega) b2.1 b2.2]
 show bits .or .u32 (hz B t 3 * 256 % 4294967296) (B (4 * t + 3)) = _
 rw [h3, or_256 _ _ (by omega) (by omega) b3.1 b3.2]
 omega
theorem word_four (a b c d : Int) (ha : 0 ≤ a ∧ a < 256) (hb : 0 ≤ b ∧ b < 256) (hc : 0 ≤ c ∧ c < 256) (hd : 0 ≤ d ∧ d < 256) :
  bits .or .u32 (bits .or .u32 (bits .or .u32 (a * 16777216) (b * 65536)) (c * 256)) d = a * 16777216 + b * 65536 + c * 256 + d := by
 rw [or_add (a * 16777216) (b * 65536) 24 a (by omega) (by simp) ha.1 (by omega) (by omega) (by simp; omega)]
 rw [or_add _ (c * 256) 16 (a * 256 + b) (by omega) (by simp; omega) (by omega) (by omega) (by omega) (by simp; omega)]
 rw [or_add _ d 8 (a * 65536 + b * 256 + c) (by omega) (by simp; omega) (by omega) (by omega) (by omega) (by simp; omega)]
end Go.Sha
namespace Go.Proofs.YtplleficmkfniaaGreatDoor
open Go Go.RowKit Go.Sha Go.Aff
theorem r_any (x n : Int) (h0 : 0 ≤ n) (h1 : n ≤ 32) (w : World) :
  Calls Tryz.prog 217 #[.int .u32 x, .int .i64 n] w fun e w' => e = .returned (.int .u32 (tu x n)) ∧ ∃ k, w' = w.drewN k := by
 go_enter Tryz.func217, Tryz.ntmps217
 go_wp2
 go_quiet (fail)
 go_wp2
 go_ret
 exact ⟨rfl, _, rfl⟩
structure RRel (S B : Nat → Int) (N A : Nat) (W : Nat → Int) (w wr : World) : Prop where
 wrow : wr.rowIs (A + 1) 346 64 (fun j => .int .u32 (W j))
 krow : wr.rowIs A 346 64 (fun j => .int .u32 (K.getD j 0))
 srow : wr.rowIs N 254 8 (fun j => .int .u32 (S j))
 brow : wr.rowIs (N + 1) 313 64 (fun j => .int .u8 (B j))
 zrow : Blk wr (N + 1 + 1) 254 (List.replicate 8 (Value.int .u32 0))
 keep : Keeps (fun _ => False) w wr
 low : w.heap.size ≤ N
 apart : N + 1 + 1 < A
theorem RRel.congr {S B : Nat → Int} {N A : Nat} {W W' : Nat → Int} {w wr : World} (h : RRel S B N A W w wr) (e : ∀ j, W j = W' j) : RRel S B N A W' w wr := by
 have : W = W' := funext e
 exact this ▸ h
theorem RRel.set {S B : Nat → Int} {N A : Nat} {W : Nat → Int} {w wr : World} (h : RRel S B N A W w wr) (t : Nat) (x : Int) :
  RRel S B N A (fun j => if j = t then x else W j) w (wr.setCell ⟨A + 1, t, none⟩ (.int .u32 x)) := by
 have hl := h.low
 have ha := h.apart
 refine ⟨(h.wrow.set t _).congr ?_, h.krow.setOther (by show A ≠ A + 1; omega) _, h.srow.setOther (by show N ≠ A + 1; omega) _, h.brow.setOther (by show N + 1 ≠ A + 1; omega) _, h.zrow.far (by show N + 1 + 1 ≠ A + 1; omega) _, h.keep.setCell (.inr (by show w.heap.size ≤ A + 1; omega)) _, hl, ha⟩
 intro i _
 show _ = Value.int .u32 (if i = t then x else W i)
 split <;> rfl
theorem RRel.drewN {S B : Nat → Int} {N A : Nat} {W : Nat → Int} {w wr : World} (h : RRel S B N A W w wr) (k : Nat) : RRel S B N A W w (wr.drewN k) :=
 ⟨h.wrow, h.krow, h.srow, h.brow, h.zrow.drewN k, h.keep.drewN k, h.low, h.apart⟩
def TurnRel (S B : Nat → Int) (w : World) (A : Nat) (a b c d e f g h i : Value) (wx : World) : Prop :=
 ∃ (t : Nat) (xa xb xc xd xe xf xg xh : Int), t ≤ 64 ∧ i = .int .i64 t ∧ a = .int .u32 xa ∧ b = .int .u32 xb ∧ c = .int .u32 xc ∧ d = .int .u32 xd ∧ e = .int .u32 xe ∧ f = .int .u32 xf ∧ g = .int .u32 xg ∧ h = .int .u32 xh ∧ csL (wsv B 64) S t = [xa, xb, xc, xd, xe, xf, xg, xh] ∧ RRel S B w.heap.size A (wsv B 64) w wx
theorem refRound_any (S B : Nat → Int) (hB : ∀ i, 0 ≤ B i ∧ B i < 256) (w : World) :
  Calls Tryz.prog 186 #[.agg (wl S).toArray, .agg (bl B).toArray] w fun e w' => e = .returned (.agg (wl (round S B)).toArray) ∧ Keeps (fun _ => False) w w' := by
 obtain ⟨sl, hsl⟩ : ∃ sl, sl = wl S := ⟨_, rfl⟩
 obtain ⟨bb, hbb⟩ : ∃ bb, bb = bl B := ⟨_, rfl⟩
 obtain ⟨KL, hKL⟩ : ∃ KL, KL = vi .u32 K := ⟨_, rfl⟩
 have hcs := fun wx => constants_any wx
 have hk64 : KL.length = 64 := by rw [hKL]; rfl
 have hone : ∀ u ∈ KL, u.oneCell' = true := by rw [hKL]; exact vi_one _ _
 have hR : ∀ w1, Keeps (fun _ => False) (((w.alloc (.cells sl.toArray 254)).alloc (.cells bb.toArray 313)).alloc (.cells (List.replicate 8 (Value.int .u32 0)).toArray 254)) w1 →
   RRel S B w.heap.size w1.heap.size (wsv B 0) w (((w1.alloc (.cells (List.replicate 64 (Value.int .u32 0)).toArray 346)).setRow w1.heap.size KL.toArray).alloc (.cells (List.replicate 64 (Value.int .u32 0)).toArray 346)) := by
  intro w1 hk
  subst hsl hbb hKL
  have n1 := ((Blk.new w 254 (wl S)).alloc (.cells (bl B).toArray 313)).alloc (.cells (List.replicate 8 (Value.int .u32 0)).toArray 254)
  have n2 := (Blk.new (w.alloc (.cells (wl S).toArray 254)) 313 (bl B)).alloc (.cells (List.replicate 8 (Value.int .u32 0)).toArray 254)
  have n3 := Blk.new ((w.alloc (.cells (wl S).toArray 254)).alloc (.cells (bl B).toArray 313)) 254 (List.replicate 8 (Value.int .u32 0))
  simp only [World.size_alloc] at n2 n3
  have m1 := hk.blk n1 (fun h => h)
  have m2 := hk.blk n2 (fun h => h)
  have m3 := hk.blk n3 (fun h => h)
  have l3 := m3.lt
  have k1 := ((Blk.new w1 346 (List.replicate 64 (Value.int .u32 0))).setRow (vi .u32 K)).alloc (.cells (List.replicate 64 (Value.int .u32 0)).toArray 346)
  have k2 := Blk.new ((w1.alloc (.cells (List.replicate 64 (Value.int .u32 0)).toArray 346)).setRow w1.heap.size (vi .u32 K).toArray) 346 (List.replicate 64 (Value.int .u32 0))
  have hs : ((w1.alloc (.cells (List.replicate 64 (Value.int .u32 0)).toArray 346)).setRow w1.heap.size (vi .u32 K).toArray).heap.size = w1.heap.size + 1 := by simp
  rw [hs] at k2
  have z64 : List.replicate 64 (Value.int .u32 0) = (List.range 64).map fun j => Value.int .u32 (wsv B 0 j) := by simp [wsv_zero, List.range_succ]
  have e64 : vi .u32 K = (List.range 64).map fun j => Value.int .u32 (K.getD j 0) := by rfl
  refine ⟨?_, ?_, row_of_blk (((m1.alloc _).setRow_far (by omega) _).alloc _), row_of_blk (((m2.alloc _).setRow_far (by omega) _).alloc _), ((m3.alloc _).setRow_far (by omega) _).alloc _, ?_, Nat.le_refl _, l3⟩
  ·exact row_of_blk (z64 ▸ k2)
  ·exact row_of_blk (e64 ▸ k1)
  ·exact (((((((Keeps.refl (fun _ => False) w).alloc _).alloc _).alloc _).trans hk (fun _ _ h => h)).alloc _).setRow (.inr (by omega)) _).alloc _
 rw [← hsl, ← hbb]
 simp only [← hKL] at hcs
 have HR := H_ hR
 have HCS := H_ hcs
 have HB := H_ hB
 have HK := H_ hk64
 have HO := H_ hone
 clear hsl hbb hKL hR hcs hB hk64 hone
 go_enter Tryz.func186, Tryz.ntmps186
 go_wp2_with (first
  | (go_at_call 216; refine (HCS.out _).mono ?_; rintro e w1 ⟨rfl, hk1⟩; have HK1 := H_ hk1; clear hk1)
  | ((with_reducible show wpList _ _ _ (⟨none, Op.store 346 _ _, _, _, _, _⟩ :: _) _ _); refine wpList_store_whole rfl 346 _ _ rfl KL rfl rfl (Blk.new w1 346 (List.replicate 64 (Value.int .u32 0))) (by rw [HK.out]; simp) (by rw [HK.out]; kernel_rfl) HO.out ?_))
 have R0 := HR.out w1 HK1.out
 have HR0 := H_ R0
 clear R0
 obtain ⟨A, hA⟩ : ∃ A, A = w1.heap.size := ⟨_, rfl⟩
 rw [← hA] at HR0 ⊢
 clear hA HCS HK HO HR
 go_loopw [7, 8, 9] (fun i _ _ wr => ∃ t : Nat, t ≤ 64 ∧ i = .int .i64 t ∧ RRel S B w.heap.size A (wsv B t) w wr) (fun i _ _ _ => 64 - (intOf i).toNat)
 case atStart => exact ⟨0, by omega, rfl, HR0.out⟩
 case round =>
  clear HR0
  obtain ⟨t, ht, rfl, hr⟩ := hrel
  by_cases hlt : t < 64
  ·by_cases h16 : t < 16
   ·have c0 := hr.brow.cell (i := 4 * t) (by omega)
    have c1 := hr.brow.cell (i := 4 * t + 1) (by omega)
    have c2 := hr.brow.cell (i := 4 * t + 2) (by omega)
    have c3 := hr.brow.cell (i := 4 * t + 3) (by omega)
    have c5 := hr.wrow.cell (i := t) (by omega)
    have f5 := hr.wrow.frozen t
    have b0 := HB.out (4 * t)
    have b1 := HB.out (4 * t + 1)
    have b2 := HB.out (4 * t + 2)
    have b3 := HB.out (4 * t + 3)
    have hz4 := hz_four B HB.out t
    have hw4 := word_four (B (4 * t)) (B (4 * t + 1)) (B (4 * t + 2)) (B (4 * t + 3)) b0 b1 b2 b3
    rw [← hz4] at hw4
    have HZ4 := H_ hw4
    have HREL := H_ hr
    clear hz4 hw4 hr
    generalize B (4 * t) = q0 at *
    generalize B (4 * t + 1) = q1 at *
    generalize B (4 * t + 2) = q2 at *
    generalize B (4 * t + 3) = q3 at *
    obtain ⟨b0l, b0h⟩ := b0
    obtain ⟨b1l, b1h⟩ := b1
    obtain ⟨b2l, b2h⟩ := b2
    obtain ⟨b3l, b3h⟩ := b3
    go_wp2
    refine wp_region_quiet_tail 31 (by kernel_rfl) (by kernel_rfl) ?_
    simp only [List.take_succ_cons, List.take_zero, List.drop_succ_cons, List.drop_zero]
    repeat (go_big_quiet_step (fail))
    refine wpQuiet_nil ?_
    rintro _ ⟨nq, rfl⟩
    go_wp2
    go_roundw
    case rel =>
     refine ⟨t + 1, by omega, by go_num, ((HREL.out.drewN nq).set t _).congr fun j => ?_⟩
     rw [wsv_succ_lt B t j h16]
     unfold wk
     by_cases hj : j = t
     ·simp only [hj, if_true]
      exact HZ4.out
     ·simp only [hj, if_false]
    case measure => simp [intOf]; omega
   ·have c1 := hr.wrow.cell (i := t - 15) (by omega)
    have c2 := hr.wrow.cell (i := t - 2) (by omega)
    have c3 := hr.wrow.cell (i := t - 16) (by omega)
    have c4 := hr.wrow.cell (i := t - 7) (by omega)
    have c5 := hr.wrow.cell (i := t) (by omega)
    have f5 := hr.wrow.frozen t
    have i1 : ((t : Int) - 15).toNat = t - 15 := by omega
    have i2 : ((t : Int) - 2).toNat = t - 2 := by omega
    have i3 : ((t : Int) - 16).toNat = t - 16 := by omega
    have i4 : ((t : Int) - 7).toNat = t - 7 := by omega
    have HREL := H_ hr
    clear hr
    obtain ⟨x15, h15⟩ : ∃ x, x = wsv B t (t - 15) := ⟨_, rfl⟩
    obtain ⟨x2, h2⟩ : ∃ x, x = wsv B t (t - 2) := ⟨_, rfl⟩
    obtain ⟨x16, hx16⟩ : ∃ x, x = wsv B t (t - 16) := ⟨_, rfl⟩
    obtain ⟨x7, h7⟩ : ∃ x, x = wsv B t (t - 7) := ⟨_, rfl⟩
    rw [← h15] at c1
    rw [← h2] at c2
    rw [← hx16] at c3
    rw [← h7] at c4
    have H15 := H_ h15
    have H2 := H_ h2
    have H16 := H_ hx16
    have H7 := H_ h7
    clear h15 h2 hx16 h7
    go_wp2
    go_quiet (fail)
    go_wp2_with fail
    have hr1 := HREL.out.drewN nq
    clear HREL c1 c2 c3 c4 c5 f5
    generalize wr.drewN nq = wx at hr1 ⊢
    have c3 := hr1.wrow.cell (i := t - 16) (by omega)
    have c4 := hr1.wrow.cell (i := t - 7) (by omega)
    have c5 := hr1.wrow.cell (i := t) (by omega)
    have f5 := hr1.wrow.frozen t
    rw [← H16.out] at c3
    rw [← H7.out] at c4
    have HREL := H_ hr1
    clear hr1
    refine wp_region_quiet_tail 29 (by kernel_rfl) (by kernel_rfl) ?_
    simp only [List.take_succ_cons, List.take_zero, List.drop_succ_cons, List.drop_zero]
    repeat (go_big_quiet_step ((go_at_call 217; refine quiet_more (r_any _ _ (by omega) (by omega) _))))
    refine wpQuiet_nil ?_
    rintro _ ⟨nq2, rfl⟩
    go_wp2
    go_roundw
    case rel =>
     refine ⟨t + 1, by omega, by go_num, ((HREL.out.drewN nq2).set t _).congr fun j => ?_⟩
     rw [wsv_succ_ge B t j (by omega)]
     by_cases hj : j = t
     ·simp only [hj, if_true]
      unfold nextW
      rw [← H15.out, ← H2.out, ← H16.out, ← H7.out]
      omega
     ·simp only [hj, if_false]
    case measure => simp [intOf]; omega
  ·obtain rfl : t = 64 := by omega
   have c0 := hr.srow.cell (i := 0) (by omega)
   have c1 := hr.srow.cell (i := 1) (by omega)
   have c2 := hr.srow.cell (i := 2) (by omega)
   have c3 := hr.srow.cell (i := 3) (by omega)
   have c4 := hr.srow.cell (i := 4) (by omega)
   have c5 := hr.srow.cell (i := 5) (by omega)
   have c6 := hr.srow.cell (i := 6) (by omega)
   have c7 := hr.srow.cell (i := 7) (by omega)
   have HREL := H_ hr
   clear hr
   go_wp2
   go_quiet (fail)
   go_wp2
   clear c0 c1 c2 c3 c4 c5 c6 c7
   go_loopw [10, 11, 12, 13, 14, 15, 16, 17, 18, 19, 20] (fun a b c d e f g h i _ _ wx => TurnRel S B w A a b c d e f g h i wx) (fun _ _ _ _ _ _ _ _ i _ _ _ => 64 - (intOf i).toNat)
   case atStart => unfold TurnRel; exact ⟨0, _, _, _, _, _, _, _, _, by omega, rfl, rfl, rfl, rfl, rfl, rfl, rfl, rfl, rfl, rfl, HREL.out.drewN nq⟩
   case round =>
    clear HREL
    unfold TurnRel at hrel
    obtain ⟨t, xa, xb, xc, xd, xe, xf, xg, xh, ht, rfl, rfl, rfl, rfl, rfl, rfl, rfl, rfl, rfl, hl, hr⟩ := hrel
    by_cases hlt : t < 64
    ·have hs : csL (wsv B 64) S (t + 1) = stL (csL (wsv B 64) S t) (K.getD t 0) (wsv B 64 t) := rfl
     rw [hl] at hs
     have gw := hr.wrow.cell (i := t) hlt
     have gk := hr.krow.cell (i := t) hlt
     have HREL := H_ hr
     obtain ⟨kt, hkt⟩ : ∃ kt, kt = K.getD t 0 := ⟨_, rfl⟩
     obtain ⟨wt, hwt⟩ : ∃ wt, wt = wsv B 64 t := ⟨_, rfl⟩
     rw [← hkt] at gk hs
     rw [← hwt] at gw hs
     have HS := H_ hs
     clear hs hl hr hkt hwt
     go_wp2
     go_quiet ((go_at_call 217; refine quiet_more (r_any _ _ (by omega) (by omega) _)))
     clear gw gk
     go_wp2_with (go_at_call 217; refine (r_any _ _ (by omega) (by omega) _).mono ?_; rintro e w' ⟨rfl, k, rfl⟩)
     refine ⟨⟨_, _, _, _, _, _, _, _, _, ?_, rfl, rfl, rfl, rfl, rfl, rfl, rfl, rfl, rfl⟩, by simp [intOf]; omega⟩
     unfold TurnRel
     refine ⟨t + 1, _, _, _, _, _, _, _, _, by omega, by go_num, rfl, rfl, rfl, rfl, rfl, rfl, rfl, rfl, ?_, HREL.out.drewN _⟩
     rw [HS.out]
     have ea : (tOne xe xf xg xh kt wt + tTwo xa xb xc) % 4294967296 = (xh + bits BinOp.xor IntKind.u32 (bits BinOp.xor IntKind.u32 (tu xe 6) (tu xe 11)) (tu xe 25) + bits BinOp.xor IntKind.u32 (bits BinOp.and IntKind.u32 xe xf) (bits BinOp.and IntKind.u32 (bits BinOp.xor IntKind.u32 IntKind.u32.max xe) xg) + kt + wt + (bits BinOp.xor IntKind.u32 (bits BinOp.xor IntKind.u32 (tu xa 2) (tu xa 13)) (tu xa 22) + bits BinOp.xor IntKind.u32 (bits BinOp.xor IntKind.u32 (bits BinOp.and IntKind.u32 xa xb) (bits BinOp.and IntKind.u32 xa xc)) (bits BinOp.and IntKind.u32 xb xc))) % 4294967296 := by
      unfold tOne tTwo
      omega
     have ee : (xd + tOne xe xf xg xh kt wt) % 4294967296 = (xd + (xh + bits BinOp.xor IntKind.u32 (bits BinOp.xor IntKind.u32 (tu xe 6) (tu xe 11)) (tu xe 25) + bits BinOp.xor IntKind.u32 (bits BinOp.and IntKind.u32 xe xf) (bits BinOp.and IntKind.u32 (bits BinOp.xor IntKind.u32 IntKind.u32.max xe) xg) + kt + wt)) % 4294967296 := by
      unfold tOne
      omega
     rw [← ea, ← ee]
     rfl
    ·obtain rfl : t = 64 := by omega
     have c0 := hr.srow.cell (i := 0) (by omega)
     have c1 := hr.srow.cell (i := 1) (by omega)
     have c2 := hr.srow.cell (i := 2) (by omega)
     have c3 := hr.srow.cell (i := 3) (by omega)
     have c4 := hr.srow.cell (i := 4) (by omega)
     have c5 := hr.srow.cell (i := 5) (by omega)
     have c6 := hr.srow.cell (i := 6) (by omega)
     have c7 := hr.srow.cell (i := 7) (by omega)
     have hz := hr.zrow
     have HREL := H_ hr
     have HZ := H_ hz
     have e8 : wl (round S B) = [.int .u32 ((S 0 + xa) % 4294967296), .int .u32 ((S 1 + xb) % 4294967296), .int .u32 ((S 2 + xc) % 4294967296), .int .u32 ((S 3 + xd) % 4294967296), .int .u32 ((S 4 + xe) % 4294967296), .int .u32 ((S 5 + xf) % 4294967296), .int .u32 ((S 6 + xg) % 4294967296), .int .u32 ((S 7 + xh) % 4294967296)] := by
      unfold wl round
      rw [hl]
      simp [List.range_succ, Int.add_comm]
     have H8 := H_ e8
     clear hl hr hz e8
     go_wp2_with ((with_reducible show wpList _ _ _ (⟨none, Op.store 254 _ _, _, _, _, _⟩ :: _) _ _); refine wpList_store_whole rfl 254 _ _ rfl [_, _, _, _, _, _, _, _] rfl rfl HZ.out (by simp) ?hi (by simp [Value.oneCell']) ?_)
     case hi => kernel_rfl
     refine bodyPost_ret (results_blk rfl _ _ rfl (HZ.out.setRow [_, _, _, _, _, _, _, _]) Tryz.underlying254 rfl (by kernel_rfl)) rfl ⟨by rw [H8.out], ?_⟩
     exact HREL.out.keep.setRow (.inr (by have := HREL.out.low; omega)) _
end Go.Proofs.YtplleficmkfniaaGreatDoor
