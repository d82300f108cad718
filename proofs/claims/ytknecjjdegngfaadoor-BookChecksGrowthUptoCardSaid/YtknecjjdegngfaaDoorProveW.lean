/-
  What a book proves is taken: the plain law joined to CheckEntry, CheckGrowth, Fold.
-/
import Derived.Test.YtknecjjdegngfaaDoorCGrowW
import Derived.Test.YtknecjjdegngfaaDoorPeaksW
set_option linter.unusedSimpArgs false
namespace Go.Book
open Go Go.Aff Go.Sha
theorem foldF_G : ∀ l : List (List Int), foldF l = foldG emptyF pairF l
  | [] => rfl
  | [_] => rfl
  | d :: e :: l => by
    have := foldF_G (e :: l)
    show pairF d (foldF (e :: l)) = pairF d (foldG emptyF pairF (e :: l))
    rw [this]
theorem pc_one : pc 1 = 1 := by rw [pc_step]; simp [pc_zero]
theorem peaks_len : ∀ (n : Nat) (l : List (List Int)), l.length = n → (peaksG emptyF pairF l).length = pc n := by
  intro n
  induction n using Nat.strongRecOn with
  | _ n ih =>
  intro l hl
  rw [peaksG]
  by_cases h0 : 0 < l.length
  · have hp := Nat.two_pow_pos (Nat.log2 l.length)
    have h1 := Nat.log2_self_le (n := l.length) (by omega)
    have h2 := Nat.lt_log2_self (n := l.length)
    rw [Nat.pow_succ] at h2
    rw [dif_pos h0, List.length_cons, ih (l.length - 2 ^ Nat.log2 l.length) (by omega) _ (by rw [List.length_drop])]
    have h3 := pc_split (Nat.log2 l.length) 1 (l.length - 2 ^ Nat.log2 l.length) (by omega)
    rw [Nat.one_mul, show 2 ^ Nat.log2 l.length + (l.length - 2 ^ Nat.log2 l.length) = n by omega, pc_one] at h3
    omega
  · rw [dif_neg h0]
    have : n = 0 := by omega
    rw [this, pc_zero]
    rfl
/-- Two roots side by side climb as each by itself. -/
theorem climb_two (Z : List Int) (hZ : Z = List.replicate 32 0) : ∀ (way : List Bool) (G : List (List Int)) (a b : List Int), a.length = 32 → b.length = 32 →
    climbF joinT2 ofT2 aheadT2 (a ++ b) way G = (climbF (joinT pairF) (fun d => (Z, d)) (aheadT pairF) (a, b) way G).1 ++ (climbF (joinT pairF) (fun d => (Z, d)) (aheadT pairF) (a, b) way G).2
  | [], G, a, b, _, _ => by cases G <;> rfl
  | x :: way, [], a, b, _, _ => rfl
  | x :: way, d :: G, a, b, ha, hb => by
    have e1 : (a ++ b).take 32 = a := List.take_left' ha
    have e2 : (a ++ b).drop 32 = b := List.drop_left' ha
    cases x with
    | true =>
      have hj : joinT2 (a ++ b) (ofT2 d) = a ++ pairF b d := by unfold joinT2; rw [e1, e2]; unfold ofT2; rw [List.drop_left' (by simp)]
      show climbF joinT2 ofT2 aheadT2 (joinT2 (a ++ b) (ofT2 d)) way G = _
      rw [hj, climb_two Z hZ way G a (pairF b d) ha (sumF_length _ _ _)]
      rfl
    | false =>
      have hj : aheadT2 (a ++ b) d = pairF d a ++ pairF d b := by unfold aheadT2; rw [e1, e2]
      show climbF joinT2 ofT2 aheadT2 (aheadT2 (a ++ b) d) way G = _
      rw [hj, climb_two Z hZ way G (pairF d a) (pairF d b) (sumF_length _ _ _) (sumF_length _ _ _)]
      rfl
end Go.Book
namespace Go.Proofs.YtknecjjdegngfaaDoor
open Go Go.RowKit Go.Sha Go.Aff Go.Book
theorem cstands_any (w : World) (hG : Glob w) (ls : List (List Int)) (hd : IsDigs ls) (n i : Nat) (hn : ls.length = n) (hn2 : n ≤ 65536) (d : List Int) (hi : ls[i]? = some d) (A : Option Addr) (L c : Nat) (hr : RdD w A L (standsG emptyF pairF i ls)) :
    Calls Tryd.prog 26 #[.agg (vb (brootF ls)).toArray, .int .i64 n, .int .i64 i, .agg (vb d).toArray, .slice A L c] w fun e w' => e = .returned .nilIface ∧ Keeps (fun _ => False) w w' := by
  have hil : i < n := by have := (List.getElem?_eq_some_iff.1 hi).1; omega
  have hl : L = (wayF i n).length := by rw [← hr.1, stands_len, hn]
  subst hl
  have hs := stands_ok emptyF pairF i ls d hi
  rw [hn] at hs
  exact centry_ok w hG (brootF ls) d (dig_root hd) (hd.at_ hi) n i (by omega) hil A c _ hr hs
theorem cgrown_any (w : World) (hG : Glob w) (ls : List (List Int)) (hd : IsDigs ls) (n m : Nat) (hn : ls.length = n) (hn2 : n ≤ 65536) (hm0 : 0 < m) (hmn : m ≤ n) (A : Option Addr) (L c : Nat) (hr : RdD w A L (growG emptyF pairF m ls true)) (hc : L ≤ c) :
    Calls Tryd.prog 30 #[.int .i64 m, .agg (vb (brootF (ls.take m))).toArray, .int .i64 n, .agg (vb (brootF ls)).toArray, .slice A L c] w fun e w' => e = .returned .nilIface ∧ Keeps (fun _ => False) w w' := by
  obtain ⟨s, G, h1, h2, h3, h4⟩ := grow_ok emptyF pairF (List.replicate 32 0) m ls true hm0 (by omega)
  rw [hn] at h1 h2 h3 h4
  have hdo : IsDig (brootF (ls.take m)) := dig_root (hd.take m)
  have hdr : IsDig (brootF ls) := dig_root hd
  cases hk : (gwayF m n true).2 with
  | true =>
    have hs : s = brootF (ls.take m) := h3 hk
    rw [hk] at h1
    have hG1 : growG emptyF pairF m ls true = G := by rw [h1]; rfl
    rw [hG1] at hr
    have hl : L = (gwayF m n true).1.length := by rw [← hr.1, h2]
    subst hl
    subst hs
    refine cgrow_known w hG _ _ hdo hdr m n (by omega) hm0 hmn A c G hk hr ?_
    rw [climb_two (List.replicate 32 0) rfl _ _ _ _ hdo.1 hdo.1, h4]
    rfl
  | false =>
    rw [hk] at h1
    have hG1 : growG emptyF pairF m ls true = s :: G := by rw [h1]; rfl
    rw [hG1] at hr
    have hl : L = (gwayF m n true).1.length + 1 := by rw [← hr.1, List.length_cons, h2]
    subst hl
    have hsd : IsDig s := hr.2.1 s (by simp)
    refine cgrow_new w hG _ _ s hdo hdr hsd m n (by omega) hm0 hmn A c G hk hr hc ?_
    rw [climb_two (List.replicate 32 0) rfl _ _ _ _ hsd.1 hsd.1, h4]
    rfl
theorem fpeaks_any (w : World) (hG : Glob w) (ls : List (List Int)) (n : Nat) (hn : ls.length = n) (hn2 : n ≤ 65536) (A : Option Addr) (L c : Nat) (hr : RdD w A L (peaksG emptyF pairF ls)) :
    Calls Tryd.prog 19 #[.int .i64 n, .slice A L c] w fun e w' => e = .returned (.tuple #[.agg (vb (brootF ls)).toArray, .nilIface]) ∧ Keeps (fun _ => False) w w' := by
  have hf := fold_any w hG n L A c (peaksG emptyF pairF ls) hr (by rw [← hr.1]; exact peaks_len n ls hn) (by omega)
  rw [foldF_G, fold_peaks] at hf
  exact hf
theorem stands_bits (ls : List (List Int)) (i b : Nat) (h : ls.length ≤ 2 ^ b) : (standsG emptyF pairF i ls).length ≤ b := by
  rw [stands_len]
  exact way_short i _ b h
theorem grow_bits (ls : List (List Int)) (m b : Nat) (hm0 : 0 < m) (hm : m ≤ ls.length) (h : ls.length ≤ 2 ^ b) : (growG emptyF pairF m ls true).length ≤ b + 1 := by
  obtain ⟨s, G, h1, h2, _, _⟩ := grow_ok emptyF pairF (List.replicate 32 0) m ls true hm0 hm
  have h3 := gway_short m ls.length b true h
  rw [h1, List.length_append, h2]
  split <;> simp <;> omega
end Go.Proofs.YtknecjjdegngfaaDoor
