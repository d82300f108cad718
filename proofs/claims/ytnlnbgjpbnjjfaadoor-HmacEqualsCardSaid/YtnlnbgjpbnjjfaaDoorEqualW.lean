/-
  WALKS: hmac.Equal.
-/
import Derived.Test.YtnlnbgjpbnjjfaaDoorEqualP
import Derived.Test.YtnlnbgjpbnjjfaaDoorHashW
set_option linter.unusedSimpArgs false
namespace Go.Proofs.YtnlnbgjpbnjjfaaDoor
open Go Go.RowKit Go.Sha Go.Aff Go.Mac

theorem xor_byte' {a b : Int} (ha : 0 ≤ a ∧ a < 256) (hb : 0 ≤ b ∧ b < 256) : 0 ≤ bits .xor .u8 a b ∧ bits .xor .u8 a b < 256 := by
  rw [u8_xor a b ha.1 ha.2 hb.1 hb.2]
  have h : a.toNat ^^^ b.toNat < 2 ^ 8 := Nat.xor_lt_two_pow (by omega) (by omega)
  omega
set_option maxHeartbeats 2000000 in
set_option maxRecDepth 100000 in
theorem hequal_any (w : World) (A B : Option Addr) (n c m d : Nat) (xs ys : List Int) (hn : xs.length = n) (hm : ys.length = m) (hx : Rd w A n (vb xs)) (hy : Rd w B m (vb ys)) (bx : IsBytes xs) (by' : IsBytes ys) (hn' : n ≤ 140737488351232) (hm' : m ≤ 140737488351232) :
    Calls Tryd.prog 22 #[.slice A n c, .slice B m d] w fun e w' => e = .returned (.bool (decide (xs = ys))) ∧ Keeps (fun _ => False) w w' := by
  have hall := eqX_all bx by' (by omega) (by omega)
  have htold := fun k => eqX_told bx by' (by omega) (by omega) k
  have hcx : Hid (∀ (W : World) (k : Nat), Keeps (fun _ => False) w W → k < n → ∃ g o, A = some ⟨g, o, none⟩ ∧ W.cell? ⟨g, o + k, none⟩ = some (.int .u8 (xs.getD k 0))) := Lib.hid fun W k hk hlt => by
    obtain ⟨g, o, e, h⟩ := (hx.keep hk (fun _ _ _ h => h)).2 (by omega)
    refine ⟨g, o, e, ?_⟩
    rw [h k hlt]
    have : k < xs.length := by omega
    simp [vb, this]
  have hcy : Hid (∀ (W : World) (k : Nat), Keeps (fun _ => False) w W → k < m → ∃ g o, B = some ⟨g, o, none⟩ ∧ W.cell? ⟨g, o + k, none⟩ = some (.int .u8 (ys.getD k 0))) := Lib.hid fun W k hk hlt => by
    obtain ⟨g, o, e, h⟩ := (hy.keep hk (fun _ _ _ h => h)).2 (by omega)
    refine ⟨g, o, e, ?_⟩
    rw [h k hlt]
    have : k < ys.length := by omega
    simp [vb, this]
  have hbx : Hid (∀ k, 0 ≤ xs.getD k 0 ∧ xs.getD k 0 < 256) := Lib.hid fun k => byte_getD bx k
  have hby : Hid (∀ k, 0 ≤ ys.getD k 0 ∧ ys.getD k 0 < 256) := Lib.hid fun k => byte_getD by' k
  obtain ⟨X, hX⟩ : ∃ X, X = eqX xs ys := ⟨_, rfl⟩
  have h0 : bits .xor .i64 (n : Int) (m : Int) = X 0 := by rw [hX, ← hn, ← hm]; rfl
  have hst : Hid (∀ k, bits .or .i64 (X k) (bits .xor .u8 (xs.getD k 0) (ys.getD k 0)) = X (k + 1)) := Lib.hid fun k => by rw [hX]; rfl
  rw [hn, hm, ← hX] at hall
  rw [← hX] at htold
  have key : ∀ M, M ≤ n → M ≤ m → M = min n m → (X M == 0) = decide (xs = ys) := fun M _ _ h => by rw [h]; exact hall
  obtain ⟨D, hD⟩ : ∃ D, D = decide (xs = ys) := ⟨_, rfl⟩
  rw [← hD] at key ⊢
  have HKEY := Lib.hid key
  have HT := Lib.hid htold
  have H0 := Lib.hid h0
  clear hall htold hx hy hX hn hm h0 key bx by' hD
  rcases Nat.lt_or_ge m n with hle | hle
  all_goals
    go_enter Tryd.func22, Tryd.ntmps22
    go_wp2
  · rw [H0.out]
    have hfin := HKEY.out m (by omega) (Nat.le_refl _) (by omega)
    have HFIN := Lib.hid hfin
    clear hfin
    go_loopw [5, 6, 17] (fun x _ i wr => ∃ k : Nat, k ≤ m ∧ i = .int .i64 k ∧ x = .int .i64 (X k) ∧ Keeps (fun _ => False) w wr) (fun _ _ i _ => m - (intOf i).toNat)
    case atStart => exact ⟨0, by omega, rfl, rfl, Keeps.refl _ _⟩
    case round =>
      obtain ⟨k, hk, rfl, rfl, hkp⟩ := hrel
      have HKP := Lib.hid hkp
      clear hkp
      by_cases hlt : k < m
      · obtain ⟨g1, o1, rfl, c1⟩ := hcx.out wr k HKP.out (by omega)
        obtain ⟨g2, o2, rfl, c2⟩ := hcy.out wr k HKP.out (by omega)
        have hs := hst.out k
        obtain ⟨hb1, hb2⟩ := hbx.out k
        obtain ⟨hb3, hb4⟩ := hby.out k
        obtain ⟨hx1, hx2⟩ := xor_byte' ⟨hb1, hb2⟩ ⟨hb3, hb4⟩
        obtain ⟨a, ha⟩ : ∃ a, a = xs.getD k 0 := ⟨_, rfl⟩
        obtain ⟨b, hb⟩ : ∃ b, b = ys.getD k 0 := ⟨_, rfl⟩
        rw [← ha] at c1 hs hx1 hx2
        rw [← hb] at c2 hs hx1 hx2
        have hw : IntKind.i64.wrap (bits .xor .u8 a b) = bits .xor .u8 a b := IntWalk.i64_in _ (by omega)
        have HS := Lib.hid hs
        clear hs ha hb hb1 hb2 hb3 hb4
        go_wp2
        go_quiet (fail)
        go_wp2
        go_roundw
        case rel => exact ⟨k + 1, by omega, by go_num, by rw [HS.out], HKP.out.drewN _⟩
        case measure => simp [intOf]; omega
      · obtain rfl : k = m := by omega
        have hfin := HFIN.out
        go_wp2
        go_ret
        exact ⟨rfl, HKP.out⟩
  · rw [H0.out]
    have hfin := HKEY.out n (Nat.le_refl _) (by omega) (by omega)
    have HFIN := Lib.hid hfin
    clear hfin
    go_loopw [5, 6, 17] (fun x _ i wr => ∃ k : Nat, k ≤ n ∧ i = .int .i64 k ∧ x = .int .i64 (X k) ∧ Keeps (fun _ => False) w wr) (fun _ _ i _ => n - (intOf i).toNat)
    case atStart => exact ⟨0, by omega, rfl, rfl, Keeps.refl _ _⟩
    case round =>
      obtain ⟨k, hk, rfl, rfl, hkp⟩ := hrel
      have HKP := Lib.hid hkp
      clear hkp
      by_cases hlt : k < n
      · obtain ⟨g1, o1, rfl, c1⟩ := hcx.out wr k HKP.out (by omega)
        obtain ⟨g2, o2, rfl, c2⟩ := hcy.out wr k HKP.out (by omega)
        have hs := hst.out k
        obtain ⟨hb1, hb2⟩ := hbx.out k
        obtain ⟨hb3, hb4⟩ := hby.out k
        obtain ⟨hx1, hx2⟩ := xor_byte' ⟨hb1, hb2⟩ ⟨hb3, hb4⟩
        obtain ⟨a, ha⟩ : ∃ a, a = xs.getD k 0 := ⟨_, rfl⟩
        obtain ⟨b, hb⟩ : ∃ b, b = ys.getD k 0 := ⟨_, rfl⟩
        rw [← ha] at c1 hs hx1 hx2
        rw [← hb] at c2 hs hx1 hx2
        have hw : IntKind.i64.wrap (bits .xor .u8 a b) = bits .xor .u8 a b := IntWalk.i64_in _ (by omega)
        have HS := Lib.hid hs
        clear hs ha hb hb1 hb2 hb3 hb4
        go_wp2
        go_quiet (fail)
        go_wp2
        go_roundw
        case rel => exact ⟨k + 1, by omega, by go_num, by rw [HS.out], HKP.out.drewN _⟩
        case measure => simp [intOf]; omega
      · obtain rfl : k = n := by omega
        have hfin := HFIN.out
        go_wp2
        go_ret
        exact ⟨rfl, HKP.out⟩
end Go.Proofs.YtnlnbgjpbnjjfaaDoor
