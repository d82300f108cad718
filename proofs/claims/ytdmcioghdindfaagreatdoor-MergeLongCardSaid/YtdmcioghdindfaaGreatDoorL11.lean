/- Texts. -/
import Derived.Test.YtdmcioghdindfaaGreatDoorL10
set_option linter.unusedSimpArgs false
set_option maxRecDepth 100000
set_option maxHeartbeats 4000000
namespace Go.Utf
def okR (c : Int) (k : Nat) (d : Int) : Bool := if k = 1 then secondR c d && contR d else contR d
def baseR (c : Int) : Int := if wideR c = 2 then c - 192 else if wideR c = 3 then c - 224 else if wideR c = 4 then c - 240 else c
def accR (x : Int) (l : List Int) : Int := l.foldl (fun x d => 64 * x + d - 128) x
theorem accR_next {x d : Int} {l : List Int} {j : Nat} (h : l[j]? = some d) : accR x (l.take (j + 1)) = 64 * accR x (l.take j) + d - 128 := by
  unfold accR
  rw [List.take_add_one, h, List.foldl_append]
  rfl
theorem atR_ok {c : Int} {T : List Int} {n : Nat} (hw : wideR c = n) (h1 : 1 ≤ n) (h : ∀ k, 1 ≤ k → k < n → ∃ d, T[k - 1]? = some d ∧ okR c k d = true) : atR (c :: T) = some (accR (baseR c) (T.take (n - 1)), n) := by
  have hn : n = 1 ∨ n = 2 ∨ n = 3 ∨ n = 4 := by rcases wide_cases c with h | h | h | h | h <;> omega
  rcases hn with rfl | rfl | rfl | rfl
  · have : wideR c = 1 := hw
    simp [atR, baseR, this, accR]
  · have hw : wideR c = 2 := hw
    obtain ⟨d, h1, h2⟩ := h 1 (by omega) (by omega)
    match T, h1 with
    | x :: T, h1 =>
      simp at h1
      subst h1
      simp [okR] at h2
      simp [atR, baseR, hw, h2, accR]
  · have hw : wideR c = 3 := hw
    obtain ⟨d, h1, h2⟩ := h 1 (by omega) (by omega)
    obtain ⟨e, h3, h4⟩ := h 2 (by omega) (by omega)
    match T, h1, h3 with
    | x :: y :: T, h1, h3 =>
      simp at h1 h3
      subst h1 h3
      simp [okR] at h2 h4
      simp [atR, baseR, hw, h2, h4, accR]
    | [x], h1, h3 => simp at h3
  have hw : wideR c = 4 := hw
  obtain ⟨d, h1, h2⟩ := h 1 (by omega) (by omega)
  obtain ⟨e, h3, h4⟩ := h 2 (by omega) (by omega)
  obtain ⟨f, h5, h6⟩ := h 3 (by omega) (by omega)
  match T, h1, h3, h5 with
  | x :: y :: z :: T, h1, h3, h5 =>
    simp at h1 h3 h5
    subst h1 h3 h5
    simp [okR] at h2 h4 h6
    simp [atR, baseR, hw, h2, h4, h6, accR]
  | [x, y], h1, h3, h5 => simp at h5
  | [x], h1, h3, _ => simp at h3
theorem atR_bad {c : Int} {T : List Int} {n j : Nat} (hw : wideR c = n) (h1 : 1 ≤ j) (h2 : j < n) (h : ∀ d, T[j - 1]? = some d → okR c j d = false) : atR (c :: T) = none := by
  cases ha : atR (c :: T) with
  | none => rfl
  | some p =>
    exfalso
    have hn : n = 2 ∨ n = 3 ∨ n = 4 := by rcases wide_cases c with h | h | h | h | h <;> omega
    rcases hn with rfl | rfl | rfl
    · have hw : wideR c = 2 := hw
      obtain rfl : j = 1 := by omega
      match T with
      | [] => simp [atR, hw] at ha
      | d :: T =>
        have := h d rfl
        simp [okR] at this
        simp [atR, hw] at ha
        have := this ha.1.1
        rw [ha.1.2] at this
        cases this
    · have hw : wideR c = 3 := hw
      match T with
      | [] => simp [atR, hw] at ha
      | [d] => simp [atR, hw] at ha
      | d :: e :: T =>
        simp [atR, hw] at ha
        have hj : j = 1 ∨ j = 2 := by omega
        rcases hj with rfl | rfl
        · have := h d rfl; simp [okR, ha.1] at this
        have := h e rfl; simp [okR, ha.1] at this
    have hw : wideR c = 4 := hw
    match T with
    | [] => simp [atR, hw] at ha
    | [d] => simp [atR, hw] at ha
    | [d, e] => simp [atR, hw] at ha
    | d :: e :: f :: T =>
      simp [atR, hw] at ha
      have hj : j = 1 ∨ j = 2 ∨ j = 3 := by omega
      rcases hj with rfl | rfl | rfl
      · have := h d rfl; simp [okR, ha.1] at this
      · have := h e rfl; simp [okR, ha.1] at this
      have := h f rfl; simp [okR, ha.1] at this
theorem base_bound {c : Int} (h : 0 ≤ c) (h2 : c < 256) (hw : wideR c ≠ 1) (h0 : wideR c ≠ 0) : 0 ≤ baseR c ∧ baseR c ≤ 63 := by
  unfold baseR
  unfold wideR at *
  repeat' split at *
  all_goals omega
theorem ok_bound {c : Int} {k : Nat} {d : Int} (h : okR c k d = true) : 128 ≤ d ∧ d ≤ 191 := by
  have hc : ∀ d : Int, contR d = true → 128 ≤ d ∧ d ≤ 191 := by intro d; unfold contR; simp
  unfold okR at h
  split at h
  · simp at h; exact hc d h.2
  exact hc d h
end Go.Utf
namespace Go.Proofs.YtdmcioghdindfaaGreatDoor
open Go Go.RowKit Go.Aff Go.Utf Go.Json
theorem rwide_any (w : World) (c : Int) : Calls Tryz.prog 153 #[.int .u8 c] w fun e w' => e = .returned (.int .i64 (wideR c)) ∧ w' = w := by
  have hc : c < 128 ∨ (128 ≤ c ∧ c ≤ 193) ∨ (194 ≤ c ∧ c ≤ 223) ∨ (224 ≤ c ∧ c ≤ 239) ∨ (240 ≤ c ∧ c ≤ 244) ∨ 245 ≤ c := by omega
  rcases hc with hc | hc | hc | hc | hc | hc
  · have HF : Hid (wideR c = 1) := Lib.hid (by unfold wideR; repeat' split
                                               all_goals omega)
    have d0 : decide (c < 128) = true := decide_eq_true (by omega)
    have d1 : decide (194 ≤ c) = false := decide_eq_false (by omega)
    have d2 : decide (c ≤ 223) = true := decide_eq_true (by omega)
    have d3 : decide (224 ≤ c) = false := decide_eq_false (by omega)
    have d4 : decide (c ≤ 239) = true := decide_eq_true (by omega)
    have d5 : decide (240 ≤ c) = false := decide_eq_false (by omega)
    have d6 : decide (c ≤ 244) = true := decide_eq_true (by omega)
    clear hc
    go_enter Tryz.func153, Tryz.ntmps153
    go_wp2
    go_ret
    exact ⟨by rw [HF.out]; rfl, rfl⟩
  · have HF : Hid (wideR c = 0) := Lib.hid (by unfold wideR; repeat' split
                                               all_goals omega)
    have d0 : decide (c < 128) = false := decide_eq_false (by omega)
    have d1 : decide (194 ≤ c) = false := decide_eq_false (by omega)
    have d2 : decide (c ≤ 223) = true := decide_eq_true (by omega)
    have d3 : decide (224 ≤ c) = false := decide_eq_false (by omega)
    have d4 : decide (c ≤ 239) = true := decide_eq_true (by omega)
    have d5 : decide (240 ≤ c) = false := decide_eq_false (by omega)
    have d6 : decide (c ≤ 244) = true := decide_eq_true (by omega)
    clear hc
    go_enter Tryz.func153, Tryz.ntmps153
    go_wp2
    go_ret
    exact ⟨by rw [HF.out]; rfl, rfl⟩
  · have HF : Hid (wideR c = 2) := Lib.hid (by unfold wideR; repeat' split
                                               all_goals omega)
    have d0 : decide (c < 128) = false := decide_eq_false (by omega)
    have d1 : decide (194 ≤ c) = true := decide_eq_true (by omega)
    have d2 : decide (c ≤ 223) = true := decide_eq_true (by omega)
    have d3 : decide (224 ≤ c) = false := decide_eq_false (by omega)
    have d4 : decide (c ≤ 239) = true := decide_eq_true (by omega)
    have d5 : decide (240 ≤ c) = false := decide_eq_false (by omega)
    have d6 : decide (c ≤ 244) = true := decide_eq_true (by omega)
    clear hc
    go_enter Tryz.func153, Tryz.ntmps153
    go_wp2
    go_ret
    exact ⟨by rw [HF.out]; rfl, rfl⟩
  · have HF : Hid (wideR c = 3) := Lib.hid (by unfold wideR; repeat' split
                                               all_goals omega)
    have d0 : decide (c < 128) = false := decide_eq_false (by omega)
    have d1 : decide (194 ≤ c) = true := decide_eq_true (by omega)
    have d2 : decide (c ≤ 223) = false := decide_eq_false (by omega)
    have d3 : decide (224 ≤ c) = true := decide_eq_true (by omega)
    have d4 : decide (c ≤ 239) = true := decide_eq_true (by omega)
    have d5 : decide (240 ≤ c) = false := decide_eq_false (by omega)
    have d6 : decide (c ≤ 244) = true := decide_eq_true (by omega)
    clear hc
    go_enter Tryz.func153, Tryz.ntmps153
    go_wp2
    go_ret
    exact ⟨by rw [HF.out]; rfl, rfl⟩
  · have HF : Hid (wideR c = 4) := Lib.hid (by unfold wideR; repeat' split
                                               all_goals omega)
    have d0 : decide (c < 128) = false := decide_eq_false (by omega)
    have d1 : decide (194 ≤ c) = true := decide_eq_true (by omega)
    have d2 : decide (c ≤ 223) = false := decide_eq_false (by omega)
    have d3 : decide (224 ≤ c) = true := decide_eq_true (by omega)
    have d4 : decide (c ≤ 239) = false := decide_eq_false (by omega)
    have d5 : decide (240 ≤ c) = true := decide_eq_true (by omega)
    have d6 : decide (c ≤ 244) = true := decide_eq_true (by omega)
    clear hc
    go_enter Tryz.func153, Tryz.ntmps153
    go_wp2
    go_ret
    exact ⟨by rw [HF.out]; rfl, rfl⟩
  have HF : Hid (wideR c = 0) := Lib.hid (by unfold wideR; repeat' split
                                             all_goals omega)
  have d0 : decide (c < 128) = false := decide_eq_false (by omega)
  have d1 : decide (194 ≤ c) = true := decide_eq_true (by omega)
  have d2 : decide (c ≤ 223) = false := decide_eq_false (by omega)
  have d3 : decide (224 ≤ c) = true := decide_eq_true (by omega)
  have d4 : decide (c ≤ 239) = false := decide_eq_false (by omega)
  have d5 : decide (240 ≤ c) = true := decide_eq_true (by omega)
  have d6 : decide (c ≤ 244) = false := decide_eq_false (by omega)
  clear hc
  go_enter Tryz.func153, Tryz.ntmps153
  go_wp2
  go_ret
  exact ⟨by rw [HF.out]; rfl, rfl⟩
theorem rsecond_any (w : World) (c d : Int) : Calls Tryz.prog 154 #[.int .u8 c, .int .u8 d] w fun e w' => e = .returned (.bool (secondR c d)) ∧ w' = w := by
  by_cases h1 : d < 128
  · have d1 : decide (d < 128) = true := decide_eq_true h1
    have HF : Hid (secondR c d = false) := H_ (by simp [secondR, h1])
    go_enter Tryz.func154, Tryz.ntmps154
    go_wp2
    go_ret
    exact ⟨by first | (rw [HF.out]; rfl) | rw [HF.out], rfl⟩
  have d1 : decide (d < 128) = false := decide_eq_false h1
  by_cases h2 : 191 < d
  · have d2 : decide (191 < d) = true := decide_eq_true h2
    have HF : Hid (secondR c d = false) := H_ (by simp [secondR, h2])
    go_enter Tryz.func154, Tryz.ntmps154
    go_wp2
    go_ret
    exact ⟨by first | (rw [HF.out]; rfl) | rw [HF.out], rfl⟩
  have d2 : decide (191 < d) = false := decide_eq_false h2
  by_cases e224 : c = 224
  · subst e224
    have HF : Hid (secondR 224 d = decide (160 ≤ d)) := H_ (by simp [secondR, h1, h2])
    go_enter Tryz.func154, Tryz.ntmps154
    go_wp2
    go_ret
    exact ⟨by first | (rw [HF.out]; rfl) | rw [HF.out], rfl⟩
  have q224 : (c == 224) = false := by simp [e224]
  by_cases e237 : c = 237
  · subst e237
    have HF : Hid (secondR 237 d = decide (d ≤ 159)) := H_ (by simp [secondR, h1, h2])
    go_enter Tryz.func154, Tryz.ntmps154
    go_wp2
    go_ret
    exact ⟨by first | (rw [HF.out]; rfl) | rw [HF.out], rfl⟩
  have q237 : (c == 237) = false := by simp [e237]
  by_cases e240 : c = 240
  · subst e240
    have HF : Hid (secondR 240 d = decide (144 ≤ d)) := H_ (by simp [secondR, h1, h2])
    go_enter Tryz.func154, Tryz.ntmps154
    go_wp2
    go_ret
    exact ⟨by first | (rw [HF.out]; rfl) | rw [HF.out], rfl⟩
  have q240 : (c == 240) = false := by simp [e240]
  by_cases e244 : c = 244
  · subst e244
    have HF : Hid (secondR 244 d = decide (d ≤ 143)) := H_ (by simp [secondR, h1, h2])
    go_enter Tryz.func154, Tryz.ntmps154
    go_wp2
    go_ret
    exact ⟨by first | (rw [HF.out]; rfl) | rw [HF.out], rfl⟩
  have q244 : (c == 244) = false := by simp [e244]
  have HF : Hid (secondR c d = true) := H_ (by simp [secondR, h1, h2, e224, e237, e240, e244])
  go_enter Tryz.func154, Tryz.ntmps154
  go_wp2
  go_ret
  exact ⟨by first | (rw [HF.out]; rfl) | rw [HF.out], rfl⟩
theorem results_tmp4 {fn : Func} {t u v x : Tmp} (h : fn.results = #[.tmp t, .tmp u, .tmp v, .tmp x]) (tmps : Array Value) (P : Program) (w : World) :
    (results fn tmps).run P w = .ok (.tuple #[tmps.getD t undef, tmps.getD u undef, tmps.getD v undef, tmps.getD x undef]) w := by
  simp [results, h]
def atV (L : List Int) : Ending → Prop := fun e => match atR L with
  | some (r, n) => e = .returned (.tuple #[.int .i32 r, .int .i64 n, .int .i64 0, .int .i64 0])
  | none => ∃ k p, k ≠ 0 ∧ e = .returned (.tuple #[.int .i32 0, .int .i64 0, .int .i64 k, .int .i64 p])
theorem byte_bound {s : ByteArray} {j : Nat} {x : Int} (h : (sb s)[j]? = some x) : 0 ≤ x ∧ x < 256 := by
  have h2 := (List.getElem?_eq_some_iff.1 h).1
  rw [sb_len] at h2
  rw [byte_get h2] at h
  injection h with h
  have := (s.get j h2).toNat_lt
  omega
theorem run_byte {s : ByteArray} {j : Nat} {x : Int} (h : (sb s)[j]? = some x) (W : World) : (Instr.index 9 (.string s) (.int .i64 (j : Int))).run Tryz.prog W = .ok (.int .u8 x) W := by
  have h2 := (List.getElem?_eq_some_iff.1 h).1
  rw [sb_len] at h2
  rw [byte_get h2] at h
  injection h with h
  rw [run_index_string W 9 s .i64 j Tryz.underlying9, dif_pos ⟨by omega, by omega⟩, ← h]
  rfl
def OkTo (s : ByteArray) (i : Nat) (c : Int) (j : Nat) : Prop := ∀ k, 1 ≤ k → k < j → ∃ d, (sb s)[i + k]? = some d ∧ okR c k d = true
def bndX (j : Nat) (x : Int) : Prop := 0 ≤ x ∧ (j ≤ 1 → x ≤ 63) ∧ (j ≤ 2 → x ≤ 4159) ∧ (j ≤ 3 → x ≤ 266303) ∧ x ≤ 17043519
theorem rat_any (w : World) (s : ByteArray) (i : Nat) (hi : i < s.size) (hs : s.size ≤ 1152921504606846976) :
    Calls Tryz.prog 139 #[.string s, .int .i64 (i : Int)] w fun e w' => atV ((sb s).drop i) e ∧ w' = w := by
  obtain ⟨c, hc⟩ : ∃ c, (sb s)[i]? = some c := ⟨_, List.getElem?_eq_getElem (by rw [sb_len]; exact hi)⟩
  have hdrop : (sb s).drop i = c :: (sb s).drop (i + 1) := by
    obtain ⟨h1, e1⟩ := List.getElem?_eq_some_iff.1 hc
    rw [List.drop_eq_getElem_cons h1, e1]
  have hT : ∀ k, 1 ≤ k → ((sb s).drop (i + 1))[k - 1]? = (sb s)[i + k]? := fun k hk => by rw [List.getElem?_drop]; congr 1; omega
  have hic := run_byte hc
  have HB := H_ (byte_bound hc)
  rw [hdrop]
  have HT := H_ hT
  obtain ⟨n, hn⟩ : ∃ n : Nat, wideR c = n := by
    rcases wide_cases c with h | h | h | h | h
    · exact ⟨0, h⟩
    · exact ⟨1, h⟩
    · exact ⟨2, h⟩
    · exact ⟨3, h⟩
    exact ⟨4, h⟩
  have hn4 : n ≤ 4 := by rcases wide_cases c with h | h | h | h | h <;> omega
  have HW := H_ fun W => rwide_any W c
  rw [hn] at HW
  have HN := H_ hn
  obtain ⟨m, hm⟩ : ∃ m, m = s.size := ⟨_, rfl⟩
  have hm' := hm.symm
  have hsm : m ≤ 1152921504606846976 := hm ▸ hs
  have him : i < m := hm ▸ hi
  clear hn hT hdrop hc hi hs hm
  have ARM : True := trivial
  by_cases h0 : n = 0
  · subst h0
    have HF : Hid (atR (c :: (sb s).drop (i + 1)) = none) := H_ (by simp [atR, HN.out])
    go_enter Tryz.func139, Tryz.ntmps139
    go_wp2_with (go_at_call 153; refine (HW.out _).mono ?_; rintro e w1 ⟨rfl, hw1⟩; subst w1)
    ((try simp only [Exit.inBlock, Exit.then]); refine bodyPost_ret (results_tmp4 rfl _ _ _) rfl ?_)
    exact ⟨by unfold atV; rw [HF.out]; exact ⟨30, _, by decide, rfl⟩, rfl⟩
  have hz : ((n : Int) == 0) = false := by simp; omega
  go_enter Tryz.func139, Tryz.ntmps139
  go_upto_block 0 with (go_at_call 153; refine (HW.out _).mono ?_; rintro e w1 ⟨rfl, hw1⟩; subst w1)
  go_wp2
  go_loopg [9] (n - 1) (fun gk t wx => ∃ j : Nat, 1 ≤ j ∧ j ≤ n ∧ t = .int .i64 j ∧ gk = n - j ∧ Hid (wx = w) ∧ Hid (OkTo s i c j))
  case atStart => exact ⟨1, by omega, by omega, rfl, rfl, H_ rfl, H_ fun k h1 h2 => absurd h2 (by omega)⟩
  case round =>
    obtain ⟨j, hj1, hjn, rfl, hgk, HWX, HI⟩ := hrel
    have HGK := H_ hgk
    clear hgk
    by_cases hlt : j < n
    · by_cases hin : i + j < m
      · obtain ⟨d, hd⟩ : ∃ d, (sb s)[i + j]? = some d := ⟨_, List.getElem?_eq_getElem (by rw [sb_len, hm']; exact hin)⟩
        have hid' := run_byte hd
        rw [Int.natCast_add] at hid'
        have HS := H_ fun W => rsecond_any W c d
        have HD := H_ hd
        have HDB := H_ (byte_bound hd)
        clear hd
        by_cases h1 : j = 1
        · have hj0 : ((j : Int) == 1) = true := by simp; omega
          have HO : Hid (okR c j d = (secondR c d && contR d)) := H_ (if_pos h1)
          obtain ⟨sq, hsq⟩ : ∃ q, q = secondR c d := ⟨_, rfl⟩
          rw [← hsq] at HS HO
          clear hsq h1
          rcases sq with _ | _
          · have hq : okR c j d = false := by rw [HO.out]; rfl
            skip
            have HF := H_ (atR_bad HN.out hj1 hlt fun d' hd' => by rw [HT.out _ hj1, HD.out] at hd'; injection hd' with hd'; rw [← hd']; exact hq)
            clear hq
            go_wp2_with (go_at_call 154; refine (HS.out _).mono ?_; rintro e w3 ⟨rfl, hw3⟩; subst w3)
            ((try simp only [Exit.inBlock, Exit.then]); refine bodyPost_ret (results_tmp4 rfl _ _ _) rfl ?_)
            exact ⟨by unfold atV; rw [HF.out]; exact ⟨30, _, by decide, rfl⟩, HWX.out⟩
          by_cases q1 : d < 128
          · have e1 : decide (d < 128) = true := by simp [q1]
            have hq : okR c j d = false := by rw [HO.out]; simp [contR, q1]
            clear q1
            have HF := H_ (atR_bad HN.out hj1 hlt fun d' hd' => by rw [HT.out _ hj1, HD.out] at hd'; injection hd' with hd'; rw [← hd']; exact hq)
            clear hq
            go_wp2_with (go_at_call 154; refine (HS.out _).mono ?_; rintro e w3 ⟨rfl, hw3⟩; subst w3)
            ((try simp only [Exit.inBlock, Exit.then]); refine bodyPost_ret (results_tmp4 rfl _ _ _) rfl ?_)
            exact ⟨by unfold atV; rw [HF.out]; exact ⟨30, _, by decide, rfl⟩, HWX.out⟩
          have e1 : decide (d < 128) = false := by simp [q1]
          by_cases q2 : 191 < d
          · have e2 : decide (191 < d) = true := by simp [q2]
            have hq : okR c j d = false := by rw [HO.out]; simp [contR, q2]
            clear q1 q2
            have HF := H_ (atR_bad HN.out hj1 hlt fun d' hd' => by rw [HT.out _ hj1, HD.out] at hd'; injection hd' with hd'; rw [← hd']; exact hq)
            clear hq
            go_wp2_with (go_at_call 154; refine (HS.out _).mono ?_; rintro e w3 ⟨rfl, hw3⟩; subst w3)
            ((try simp only [Exit.inBlock, Exit.then]); refine bodyPost_ret (results_tmp4 rfl _ _ _) rfl ?_)
            exact ⟨by unfold atV; rw [HF.out]; exact ⟨30, _, by decide, rfl⟩, HWX.out⟩
          have e2 : decide (191 < d) = false := by simp [q2]
          have hq : okR c j d = true := by rw [HO.out]; simp [contR, q1, q2]
          clear q1 q2
          have HNX : Hid (OkTo s i c (j + 1)) := H_ fun k h1 h2 => by
            rcases Nat.lt_or_ge k j with h3 | h3
            · exact HI.out k h1 h3
            obtain rfl : k = j := by omega
            exact ⟨d, HD.out, hq⟩
          clear hq
          go_wp2_with (go_at_call 154; refine (HS.out _).mono ?_; rintro e w3 ⟨rfl, hw3⟩; subst w3)
          go_roundg (n - (j + 1))
          case measure => rw [HGK.out]; omega
          case rel => exact ⟨j + 1, by omega, by omega, by go_num, rfl, HWX, HNX⟩
        have hj0 : ((j : Int) == 1) = false := by simp; omega
        have HO : Hid (okR c j d = contR d) := H_ (if_neg h1)
        clear h1
        by_cases q1 : d < 128
        · have e1 : decide (d < 128) = true := by simp [q1]
          have hq : okR c j d = false := by rw [HO.out]; simp [contR, q1]
          clear q1
          have HF := H_ (atR_bad HN.out hj1 hlt fun d' hd' => by rw [HT.out _ hj1, HD.out] at hd'; injection hd' with hd'; rw [← hd']; exact hq)
          clear hq
          go_wp2_with (go_at_call 154; refine (HS.out _).mono ?_; rintro e w3 ⟨rfl, hw3⟩; subst w3)
          ((try simp only [Exit.inBlock, Exit.then]); refine bodyPost_ret (results_tmp4 rfl _ _ _) rfl ?_)
          exact ⟨by unfold atV; rw [HF.out]; exact ⟨30, _, by decide, rfl⟩, HWX.out⟩
        have e1 : decide (d < 128) = false := by simp [q1]
        by_cases q2 : 191 < d
        · have e2 : decide (191 < d) = true := by simp [q2]
          have hq : okR c j d = false := by rw [HO.out]; simp [contR, q2]
          clear q1 q2
          have HF := H_ (atR_bad HN.out hj1 hlt fun d' hd' => by rw [HT.out _ hj1, HD.out] at hd'; injection hd' with hd'; rw [← hd']; exact hq)
          clear hq
          go_wp2_with (go_at_call 154; refine (HS.out _).mono ?_; rintro e w3 ⟨rfl, hw3⟩; subst w3)
          ((try simp only [Exit.inBlock, Exit.then]); refine bodyPost_ret (results_tmp4 rfl _ _ _) rfl ?_)
          exact ⟨by unfold atV; rw [HF.out]; exact ⟨30, _, by decide, rfl⟩, HWX.out⟩
        have e2 : decide (191 < d) = false := by simp [q2]
        have hq : okR c j d = true := by rw [HO.out]; simp [contR, q1, q2]
        clear q1 q2
        have HNX : Hid (OkTo s i c (j + 1)) := H_ fun k h1 h2 => by
          rcases Nat.lt_or_ge k j with h3 | h3
          · exact HI.out k h1 h3
          obtain rfl : k = j := by omega
          exact ⟨d, HD.out, hq⟩
        clear hq
        go_wp2_with (go_at_call 154; refine (HS.out _).mono ?_; rintro e w3 ⟨rfl, hw3⟩; subst w3)
        go_roundg (n - (j + 1))
        case measure => rw [HGK.out]; omega
        case rel => exact ⟨j + 1, by omega, by omega, by go_num, rfl, HWX, HNX⟩
      have HF := H_ (atR_bad (T := (sb s).drop (i + 1)) HN.out hj1 hlt fun d' hd' => by rw [HT.out _ hj1, List.getElem?_eq_none (by rw [sb_len, hm']; omega)] at hd'; cases hd')
      go_wp2
      ((try simp only [Exit.inBlock, Exit.then]); refine bodyPost_ret (results_tmp4 rfl _ _ _) rfl ?_)
      exact ⟨by unfold atV; rw [HF.out]; exact ⟨31, _, by decide, rfl⟩, HWX.out⟩
    obtain rfl : n = j := by omega
    have HA := H_ (atR_ok (T := (sb s).drop (i + 1)) HN.out (by omega) fun k h1 h2 => by rw [HT.out k h1]; exact HI.out k h1 h2)
    clear hlt hjn HGK
    have hn1 : n = 1 ∨ n = 2 ∨ n = 3 ∨ n = 4 := by omega
    have HNB : Hid (n ≠ 1 → 0 ≤ baseR c ∧ baseR c ≤ 63) := H_ fun h => base_bound HB.out.1 HB.out.2 (by rw [HN.out]; omega) (by rw [HN.out]; omega)
    have HBB : Hid (∀ k : Int, wideR c = k → baseR c = if k = 2 then c - 192 else if k = 3 then c - 224 else if k = 4 then c - 240 else c) := H_ fun k hk => by subst hk; rfl
    obtain ⟨hc0, hc1⟩ := HB.out
    rcases hn1 with hq | hq | hq | hq
    · have HBA : Hid (baseR c = c) := H_ (by have := HBB.out n HN.out; rw [hq] at this; simpa using this)
      have e2 : ((n : Int) == 2) = false := by simp; omega
      have e3 : ((n : Int) == 3) = false := by simp; omega
      have e4 : ((n : Int) == 4) = false := by simp; omega
      have HX0 : Hid (n ≠ 1 → bndX 1 (c)) := H_ fun h => by have := HNB.out h; rw [HBA.out] at this; unfold bndX; omega
      go_upto_block 2 with fail
      go_wp2
      go_loopg [11, 12] (n - 1) (fun gk y t wx => ∃ (j : Nat) (x : Int), 1 ≤ j ∧ j ≤ n ∧ y = .int .i64 x ∧ t = .int .i64 j ∧ gk = n - j ∧ Hid (wx = w) ∧ Hid (x = accR (baseR c) (((sb s).drop (i + 1)).take (j - 1))) ∧ Hid (n ≠ 1 → bndX j x) ∧ Hid (n = 1 → x = c))
      case atStart => exact ⟨1, _, by omega, by omega, rfl, rfl, rfl, HWX, H_ HBA.out.symm, HX0, H_ fun _ => rfl⟩
      case round =>
        obtain ⟨j, x, hj1, hjn, rfl, rfl, hgk, HW2, HX, HBX, HX1⟩ := hrel
        have HGK := H_ hgk
        clear hgk
        by_cases hlt : j < n
        · exfalso; omega
        obtain rfl : n = j := by omega
        obtain ⟨hx1, hx2⟩ : 0 ≤ x ∧ x < 2147483648 := by
          by_cases h : n = 1
          · have := HX1.out h; omega
          have := HBX.out h; unfold bndX at this; omega
        go_wp2
        ((try simp only [Exit.inBlock, Exit.then]); refine bodyPost_ret (results_tmp4 rfl _ _ _) rfl ?_)
        exact ⟨by unfold atV; rw [HA.out, ← HX.out]; rfl, HW2.out⟩
    · have HBA : Hid (baseR c = c - 192) := H_ (by have := HBB.out n HN.out; rw [hq] at this; simpa using this)
      have e2 : ((n : Int) == 2) = true := by simp; omega
      have e3 : ((n : Int) == 3) = false := by simp; omega
      have e4 : ((n : Int) == 4) = false := by simp; omega
      have HX0 : Hid (n ≠ 1 → bndX 1 (c - 192)) := H_ fun h => by have := HNB.out h; rw [HBA.out] at this; unfold bndX; omega
      go_upto_block 2 with fail
      go_wp2
      go_loopg [11, 12] (n - 1) (fun gk y t wx => ∃ (j : Nat) (x : Int), 1 ≤ j ∧ j ≤ n ∧ y = .int .i64 x ∧ t = .int .i64 j ∧ gk = n - j ∧ Hid (wx = w) ∧ Hid (x = accR (baseR c) (((sb s).drop (i + 1)).take (j - 1))) ∧ Hid (n ≠ 1 → bndX j x) ∧ Hid (n = 1 → x = c))
      case atStart => exact ⟨1, _, by omega, by omega, rfl, rfl, rfl, HWX, H_ HBA.out.symm, HX0, H_ fun h => absurd h (by omega)⟩
      case round =>
        obtain ⟨j, x, hj1, hjn, rfl, rfl, hgk, HW2, HX, HBX, HX1⟩ := hrel
        have HGK := H_ hgk
        clear hgk
        by_cases hlt : j < n
        · obtain ⟨d, hd, hok⟩ := HI.out j hj1 hlt
          have hid' := run_byte hd
          rw [Int.natCast_add] at hid'
          obtain ⟨hd1, hd2⟩ := ok_bound hok
          obtain ⟨hx1, hx2⟩ : 0 ≤ x ∧ x ≤ 266303 := by have := HBX.out (by omega); unfold bndX at this; omega
          have HNX : Hid (64 * x + d - 128 = accR (baseR c) (((sb s).drop (i + 1)).take (j + 1 - 1))) := H_ (by
            rw [show j + 1 - 1 = (j - 1) + 1 by omega, accR_next (by rw [HT.out j hj1]; exact hd), ← HX.out])
          have HNB2 : Hid (bndX (j + 1) (64 * x + d - 128)) := H_ (by have := HBX.out (by omega); unfold bndX at this ⊢; omega)
          clear hd hok
          go_wp2
          go_roundg (n - (j + 1))
          case measure => rw [HGK.out]; omega
          case rel => exact ⟨j + 1, 64 * x + d - 128, by omega, by omega, by go_num, by go_num, rfl, HW2, HNX, H_ fun _ => HNB2.out, H_ fun h => absurd h (by omega)⟩
        obtain rfl : n = j := by omega
        obtain ⟨hx1, hx2⟩ : 0 ≤ x ∧ x < 2147483648 := by
          by_cases h : n = 1
          · have := HX1.out h; omega
          have := HBX.out h; unfold bndX at this; omega
        go_wp2
        ((try simp only [Exit.inBlock, Exit.then]); refine bodyPost_ret (results_tmp4 rfl _ _ _) rfl ?_)
        exact ⟨by unfold atV; rw [HA.out, ← HX.out]; rfl, HW2.out⟩
    · have HBA : Hid (baseR c = c - 224) := H_ (by have := HBB.out n HN.out; rw [hq] at this; simpa using this)
      have e2 : ((n : Int) == 2) = false := by simp; omega
      have e3 : ((n : Int) == 3) = true := by simp; omega
      have e4 : ((n : Int) == 4) = false := by simp; omega
      have HX0 : Hid (n ≠ 1 → bndX 1 (c - 224)) := H_ fun h => by have := HNB.out h; rw [HBA.out] at this; unfold bndX; omega
      go_upto_block 2 with fail
      go_wp2
      go_loopg [11, 12] (n - 1) (fun gk y t wx => ∃ (j : Nat) (x : Int), 1 ≤ j ∧ j ≤ n ∧ y = .int .i64 x ∧ t = .int .i64 j ∧ gk = n - j ∧ Hid (wx = w) ∧ Hid (x = accR (baseR c) (((sb s).drop (i + 1)).take (j - 1))) ∧ Hid (n ≠ 1 → bndX j x) ∧ Hid (n = 1 → x = c))
      case atStart => exact ⟨1, _, by omega, by omega, rfl, rfl, rfl, HWX, H_ HBA.out.symm, HX0, H_ fun h => absurd h (by omega)⟩
      case round =>
        obtain ⟨j, x, hj1, hjn, rfl, rfl, hgk, HW2, HX, HBX, HX1⟩ := hrel
        have HGK := H_ hgk
        clear hgk
        by_cases hlt : j < n
        · obtain ⟨d, hd, hok⟩ := HI.out j hj1 hlt
          have hid' := run_byte hd
          rw [Int.natCast_add] at hid'
          obtain ⟨hd1, hd2⟩ := ok_bound hok
          obtain ⟨hx1, hx2⟩ : 0 ≤ x ∧ x ≤ 266303 := by have := HBX.out (by omega); unfold bndX at this; omega
          have HNX : Hid (64 * x + d - 128 = accR (baseR c) (((sb s).drop (i + 1)).take (j + 1 - 1))) := H_ (by
            rw [show j + 1 - 1 = (j - 1) + 1 by omega, accR_next (by rw [HT.out j hj1]; exact hd), ← HX.out])
          have HNB2 : Hid (bndX (j + 1) (64 * x + d - 128)) := H_ (by have := HBX.out (by omega); unfold bndX at this ⊢; omega)
          clear hd hok
          go_wp2
          go_roundg (n - (j + 1))
          case measure => rw [HGK.out]; omega
          case rel => exact ⟨j + 1, 64 * x + d - 128, by omega, by omega, by go_num, by go_num, rfl, HW2, HNX, H_ fun _ => HNB2.out, H_ fun h => absurd h (by omega)⟩
        obtain rfl : n = j := by omega
        obtain ⟨hx1, hx2⟩ : 0 ≤ x ∧ x < 2147483648 := by
          by_cases h : n = 1
          · have := HX1.out h; omega
          have := HBX.out h; unfold bndX at this; omega
        go_wp2
        ((try simp only [Exit.inBlock, Exit.then]); refine bodyPost_ret (results_tmp4 rfl _ _ _) rfl ?_)
        exact ⟨by unfold atV; rw [HA.out, ← HX.out]; rfl, HW2.out⟩
    have HBA : Hid (baseR c = c - 240) := H_ (by have := HBB.out n HN.out; rw [hq] at this; simpa using this)
    have e2 : ((n : Int) == 2) = false := by simp; omega
    have e3 : ((n : Int) == 3) = false := by simp; omega
    have e4 : ((n : Int) == 4) = true := by simp; omega
    have HX0 : Hid (n ≠ 1 → bndX 1 (c - 240)) := H_ fun h => by have := HNB.out h; rw [HBA.out] at this; unfold bndX; omega
    go_upto_block 2 with fail
    go_wp2
    go_loopg [11, 12] (n - 1) (fun gk y t wx => ∃ (j : Nat) (x : Int), 1 ≤ j ∧ j ≤ n ∧ y = .int .i64 x ∧ t = .int .i64 j ∧ gk = n - j ∧ Hid (wx = w) ∧ Hid (x = accR (baseR c) (((sb s).drop (i + 1)).take (j - 1))) ∧ Hid (n ≠ 1 → bndX j x) ∧ Hid (n = 1 → x = c))
    case atStart => exact ⟨1, _, by omega, by omega, rfl, rfl, rfl, HWX, H_ HBA.out.symm, HX0, H_ fun h => absurd h (by omega)⟩
    case round =>
      obtain ⟨j, x, hj1, hjn, rfl, rfl, hgk, HW2, HX, HBX, HX1⟩ := hrel
      have HGK := H_ hgk
      clear hgk
      by_cases hlt : j < n
      · obtain ⟨d, hd, hok⟩ := HI.out j hj1 hlt
        have hid' := run_byte hd
        rw [Int.natCast_add] at hid'
        obtain ⟨hd1, hd2⟩ := ok_bound hok
        obtain ⟨hx1, hx2⟩ : 0 ≤ x ∧ x ≤ 266303 := by have := HBX.out (by omega); unfold bndX at this; omega
        have HNX : Hid (64 * x + d - 128 = accR (baseR c) (((sb s).drop (i + 1)).take (j + 1 - 1))) := H_ (by
          rw [show j + 1 - 1 = (j - 1) + 1 by omega, accR_next (by rw [HT.out j hj1]; exact hd), ← HX.out])
        have HNB2 : Hid (bndX (j + 1) (64 * x + d - 128)) := H_ (by have := HBX.out (by omega); unfold bndX at this ⊢; omega)
        clear hd hok
        go_wp2
        go_roundg (n - (j + 1))
        case measure => rw [HGK.out]; omega
        case rel => exact ⟨j + 1, 64 * x + d - 128, by omega, by omega, by go_num, by go_num, rfl, HW2, HNX, H_ fun _ => HNB2.out, H_ fun h => absurd h (by omega)⟩
      obtain rfl : n = j := by omega
      obtain ⟨hx1, hx2⟩ : 0 ≤ x ∧ x < 2147483648 := by
        by_cases h : n = 1
        · have := HX1.out h; omega
        have := HBX.out h; unfold bndX at this; omega
      go_wp2
      ((try simp only [Exit.inBlock, Exit.then]); refine bodyPost_ret (results_tmp4 rfl _ _ _) rfl ?_)
      exact ⟨by unfold atV; rw [HA.out, ← HX.out]; rfl, HW2.out⟩
theorem right_drop {l : List Int} {i : Nat} {r : Int} {n : Nat} (h : atR (l.drop i) = some (r, n)) (hi : i < l.length) : rightR (l.drop i) = rightR (l.drop (i + n)) := by
  rw [← right_eq, ← right_eq]
  unfold rightF
  obtain ⟨c, T, hT⟩ : ∃ c T, l.drop i = c :: T := by
    cases hd : l.drop i with
    | nil => have := List.drop_eq_nil_iff.1 hd; omega
    | cons c T => exact ⟨c, T, rfl⟩
  rw [hT] at h
  rw [hT, feed_at c T, h]
  show (feedF [] ((c :: T).drop n) == some []) = _
  rw [← hT, List.drop_drop]
theorem right_stop {l : List Int} {i : Nat} (h : atR (l.drop i) = none) (hi : i < l.length) : rightR (l.drop i) = false := by
  rw [← right_eq]
  unfold rightF
  obtain ⟨c, T, hT⟩ : ∃ c T, l.drop i = c :: T := by
    cases hd : l.drop i with
    | nil => have := List.drop_eq_nil_iff.1 hd; omega
    | cons c T => exact ⟨c, T, rfl⟩
  rw [hT] at h
  rw [hT, feed_at c T, h]
theorem rwrong_any (w : World) (s : ByteArray) (hs : s.size ≤ 1152921504606846976) :
    Calls Tryz.prog 116 #[.string s] w fun e w' => (∃ k p, (rightS s = true ↔ k = 0) ∧ e = .returned (.tuple #[.int .i64 k, .int .i64 p])) ∧ w' = w := by
  have HAT := H_ fun (i : Nat) (h : i < s.size) => rat_any w s i h hs
  obtain ⟨m, hm⟩ : ∃ m, m = s.size := ⟨_, rfl⟩
  have hm' := hm.symm
  have hsm : m ≤ 1152921504606846976 := hm ▸ hs
  have HM := H_ hm
  clear hm hs
  go_enter Tryz.func116, Tryz.ntmps116
  go_upto_block 0 with fail
  go_wp2
  go_loopg [4] m (fun gk t wx => ∃ i : Nat, i ≤ m ∧ t = .int .i64 i ∧ gk = m - i ∧ Hid (wx = w) ∧ Hid (rightS s = rightR ((sb s).drop i)))
  case atStart => exact ⟨0, by omega, rfl, rfl, H_ rfl, H_ (by rw [List.drop_zero]; rfl)⟩
  case round =>
    obtain ⟨i, him, rfl, hgk, HWX, HR⟩ := hrel
    have HGK := H_ hgk
    clear hgk
    by_cases hlt : i < m
    · have HA := H_ (HAT.out i (by omega))
      have hlen : i < (sb s).length := by rw [sb_len, hm']; exact hlt
      unfold atV at HA
      have HQ : Hid (∀ n x, atR ((sb s).drop i) = some (x, n) → 1 ≤ n ∧ i + n ≤ m ∧ rightS s = rightR ((sb s).drop (i + n))) := H_ fun n x h => by
        have hl := atR_len h
        rw [List.length_drop, sb_len, hm'] at hl
        exact ⟨hl.1, by omega, HR.out.trans (right_drop h hlen)⟩
      have HQ2 : Hid (atR ((sb s).drop i) = none → rightS s = false) := H_ fun h => HR.out.trans (right_stop h hlen)
      obtain ⟨L, hL⟩ : ∃ L, L = (sb s).drop i := ⟨_, rfl⟩
      rw [← hL] at HA HQ HQ2
      clear hL hlen
      rw [← HWX.out] at HA
      rcases hat : atR L with _ | ⟨x, n⟩
      · have HF := H_ (HQ2.out hat)
        rw [hat] at HA
        clear hat
        go_wp2_with (go_at_call 139; refine HA.out.mono ?_; rintro e w3 ⟨⟨k, p, hk, rfl⟩, hw3⟩; subst w3; have hk0 : (k == 0) = false := by simp; exact hk)
        go_ret2
        exact ⟨⟨_, _, ⟨fun h => absurd (h.symm.trans HF.out) (by decide), fun h => absurd h hk⟩, rfl⟩, HWX.out⟩
      obtain ⟨hn1, hin, hrr⟩ := HQ.out n x hat
      have HRR := H_ hrr
      rw [hat] at HA
      clear hat hrr
      go_wp2_with (go_at_call 139; refine HA.out.mono ?_; rintro e w3 ⟨rfl, hw3⟩; subst w3)
      go_roundg (m - (i + n))
      case measure => rw [HGK.out]; omega
      case rel => exact ⟨i + n, by omega, by go_num, rfl, HWX, HRR⟩
    obtain rfl : i = m := by omega
    go_wp2
    go_ret2
    exact ⟨⟨_, _, ⟨fun _ => rfl, fun _ => by rw [HR.out, List.drop_eq_nil_of_le (by rw [sb_len, hm']; exact Nat.le_refl _)]; rfl⟩, rfl⟩, HWX.out⟩
theorem rright_any (w : World) (s : ByteArray) (hs : s.size ≤ 1152921504606846976) :
    Calls Tryz.prog 93 #[.string s] w fun e w' => e = .returned (.bool (rightS s)) ∧ w' = w := by
  have HW := H_ (rwrong_any w s hs)
  obtain ⟨q, hq⟩ : ∃ q, q = rightS s := ⟨_, rfl⟩
  rw [← hq] at HW ⊢
  clear hq hs
  rcases q with _ | _
  · go_enter Tryz.func93, Tryz.ntmps93
    go_wp2_with (go_at_call 116; refine HW.out.mono ?_; rintro e w3 ⟨⟨k, p, hk, rfl⟩, hw3⟩; subst w3; have hk0 : (k == 0) = false := by simp; exact fun h => absurd (hk.2 h) (by decide))
    go_ret
    exact ⟨rfl, rfl⟩
  go_enter Tryz.func93, Tryz.ntmps93
  go_wp2_with (go_at_call 116; refine HW.out.mono ?_; rintro e w3 ⟨⟨k, p, hk, rfl⟩, hw3⟩; subst w3; obtain rfl := hk.1 rfl)
  go_ret
  exact ⟨rfl, rfl⟩
end Go.Proofs.YtdmcioghdindfaaGreatDoor
