/- Texts. -/
import Derived.Test.YtplleficmkfniaaGreatDoorQ38
import Derived.Test.YtplleficmkfniaaGreatDoorQ39
set_option linter.unusedSimpArgs false
set_option maxRecDepth 100000
set_option maxHeartbeats 4000000
namespace Go.Proofs.YtplleficmkfniaaGreatDoor
open Go Go.RowKit Go.Aff Go.Sha Go.Dig
attribute [local go_sem] Oper.semAt_some
theorem first_col {a b : List (List Int)} {i : Nat} : ∀ k, ClashAt a b i k → ∃ k, ClashAt a b i k ∧ ∀ k', k' < k → ¬ ClashAt a b i k' := by
 intro k
 induction k using Nat.strongRecOn with
 | _ k ih =>
  intro h
  by_cases h1 : ∃ k', k' < k ∧ ClashAt a b i k'
  ·obtain ⟨k', hl, h2⟩ := h1
   exact ih k' hl h2
  ·exact ⟨k, h, fun k' hl h2 => h1 ⟨k', hl, h2⟩⟩
theorem first_exists {a b : List (List Int)} : ∀ i k, ClashAt a b i k → ∃ i k, IsFirst a b i k := by
 intro i
 induction i using Nat.strongRecOn with
 | _ i ih =>
  intro k h
  by_cases h1 : ∃ i' k', i' < i ∧ ClashAt a b i' k'
  ·obtain ⟨i', k', hl, h2⟩ := h1
   exact ih i' hl k' h2
  ·obtain ⟨k2, h2, h3⟩ := first_col k h
   exact ⟨i, k2, h2, fun i' k' hl h4 => h1 ⟨i', k', hl, h4⟩, h3⟩
theorem clashes_none (w : World) (hG : GW w) (A : Option Addr) (n c : Nat) (a : List (List Int)) (B : Option Addr) (m d : Nat) (b : List (List Int)) (hno : NoClash a b)
  (hc : Calls Tryz.prog 21 #[.slice A n c, .slice B m d] w (ClPost w a b)) (hr : ∀ W, Keeps (fun _ => False) w W → Calls Tryz.prog 22 #[.slice A n c, .slice B m d] W (RClPost W a b)) :
  Calls Tryz.prog 4 #[.slice A n c, .slice B m d] w fun e w' => e = .returned (.bool true) ∧ Keeps (fun _ => False) w w' := by
 have HC : Hid (Calls Tryz.prog 21 #[.slice A n c, .slice B m d] w fun e w' => e = .returned (.tuple #[.slice none 0 0, .slice none 0 0, .bool false]) ∧ Keeps (fun _ => False) w w') := H_ (hc.mono fun e w' ⟨hk, h⟩ => by
  rcases h with ⟨he, _⟩ | ⟨i, k, _, _, _, _, _, _, _, _, hf, _⟩
  ·exact ⟨he, hk⟩
  ·exact absurd hf.at_ (hno i k))
 have HR : Hid (∀ W, Keeps (fun _ => False) w W → Calls Tryz.prog 22 #[.slice A n c, .slice B m d] W fun e w' => e = .returned (.tuple #[.int .i64 (-1), .int .i64 (-1)]) ∧ Keeps (fun _ => False) W w') := H_ fun W hW => (hr W hW).mono fun e w' ⟨hk, h⟩ => by
  rcases h with ⟨he, _⟩ | ⟨i, k, _, hf⟩
  ·exact ⟨he, hk⟩
  ·exact absurd hf.at_ (hno i k)
 have HWA : Hid (∀ W, Keeps (fun _ => False) w W → Calls Tryz.prog 19 #[] W fun e w' => e = .returned (.bool true) ∧ Keeps (fun _ => False) W w') := H_ fun W hW => wakes_any W (hG.stay hW)
 clear hG hno hc hr
 go_enter Tryz.func4, Tryz.ntmps4
 go_wp2_with (first
  | (go_at_call 21; refine HC.out.mono ?_; rintro e w1 ⟨rfl, hk1⟩; have HK1 := H_ hk1; clear hk1)
  | (go_at_call 22; refine (HR.out _ HK1.out).mono ?_; rintro e w2 ⟨rfl, hk2⟩; have HK2 := H_ (HK1.out.trans hk2 fun _ _ h => h); clear hk2)
  | (go_at_call 19; refine (HWA.out _ HK2.out).mono ?_; rintro e w3 ⟨rfl, hk3⟩; have HK3 := H_ (HK2.out.trans hk3 fun _ _ h => h); clear hk3))
 go_ret
 exact ⟨rfl, HK3.out⟩
theorem clashes_first (w : World) (hG : GW w) (A : Option Addr) (n c : Nat) (a : List (List Int)) (ha : a.length = n) (pa : RdPartsO (fun _ => False) w A a) (B : Option Addr) (m d : Nat) (b : List (List Int)) (hb : b.length = m) (pb : RdPartsO (fun _ => False) w B b) {i k : Nat} (hf : IsFirst a b i k)
  (hc : Calls Tryz.prog 21 #[.slice A n c, .slice B m d] w (ClPost w a b)) (hr : ∀ W, Keeps (fun _ => False) w W → Calls Tryz.prog 22 #[.slice A n c, .slice B m d] W (RClPost W a b)) :
  Calls Tryz.prog 4 #[.slice A n c, .slice B m d] w fun e w' => e = .returned (.bool true) ∧ Keeps (fun _ => False) w w' := by
 obtain ⟨x, y, hx, hy, _, _⟩ := hf.at_
 have hil := hf.at_.lt
 obtain ⟨p, hp⟩ : ∃ p, p = x.length := ⟨_, rfl⟩
 obtain ⟨q, hq⟩ : ∃ q, q = y.length := ⟨_, rfl⟩
 have HC : Hid (Calls Tryz.prog 21 #[.slice A n c, .slice B m d] w fun e w' => (∃ A1 c1 B1 d1, e = .returned (.tuple #[.slice A1 p c1, .slice B1 q d1, .bool true]) ∧ Hid (Rd w' A1 p (vb x) ∧ Rd w' B1 q (vb y))) ∧ Keeps (fun _ => False) w w') := H_ (hc.mono fun e w' ⟨hk, h⟩ => by
  rcases h with ⟨_, hno⟩ | ⟨i', k', x', y', A1, B1, c1, d1, n1, m1, hf', hx', hy', he, hl, hl2, h1, h2⟩
  ·exact absurd hf.at_ (hno i k)
  ·obtain ⟨rfl, rfl⟩ := hf.same hf'
   rw [hx] at hx'
   rw [hy] at hy'
   injection hx' with hx'
   injection hy' with hy'
   subst hx' hy'
   rw [← hl, ← hp] at he h1
   rw [← hl2, ← hq] at he h2
   exact ⟨⟨A1, c1, B1, d1, he, H_ ⟨h1, h2⟩⟩, hk⟩)
 have HR : Hid (∀ W, Keeps (fun _ => False) w W → Calls Tryz.prog 22 #[.slice A n c, .slice B m d] W fun e w' => e = .returned (.tuple #[.int .i64 i, .int .i64 k]) ∧ Keeps (fun _ => False) W w') := H_ fun W hW => (hr W hW).mono fun e w' ⟨hk, h⟩ => by
  rcases h with ⟨_, hno⟩ | ⟨i', k', he, hf'⟩
  ·exact absurd hf.at_ (hno i k)
  ·obtain ⟨rfl, rfl⟩ := hf.same hf'
   exact ⟨he, hk⟩
 have HWA : Hid (∀ W, Keeps (fun _ => False) w W → Calls Tryz.prog 19 #[] W fun e w' => e = .returned (.bool true) ∧ Keeps (fun _ => False) W w') := H_ fun W hW => wakes_any W (hG.stay hW)
 have hin : i < n := by rw [← ha]; exact hil.1
 have hkm : k < m := by rw [← hb]; exact hil.2
 obtain ⟨g, o, A', q1, c', x', hAe, hx', hxl, _, _, _, hxv⟩ := parts_at ha pa w (Keeps.refl _ _) i hin
 obtain ⟨g2, o2, B', q2, d', y', hBe, hy', hyl, _, _, _, hyv⟩ := parts_at hb pb w (Keeps.refl _ _) k hkm
 rw [hx] at hx'
 rw [hy] at hy'
 injection hx' with hx'
 injection hy' with hy'
 subst hx' hy' hAe hBe
 rw [← hp] at hxl
 rw [← hq] at hyl
 subst hxl hyl
 have HXV := H_ (And.intro hxv hyv)
 clear hG hc hr hxv hyv pa pb hx hy ha hb hil hp hq hf
 go_enter Tryz.func4, Tryz.ntmps4
 go_upto_region 7 with (first
  | (go_at_call 21; refine HC.out.mono ?_; rintro e w1 ⟨⟨A1, c1, B1, d1, rfl, HP1⟩, hk1⟩; have HK1 := H_ hk1; clear hk1)
  | (go_at_call 22; refine (HR.out _ HK1.out).mono ?_; rintro e w2 ⟨rfl, hk2⟩; have HK2 := H_ hk2; clear hk2)
  | (go_at_call 19; refine (HWA.out _ (HK1.out.trans HK2.out fun _ _ h => h)).mono ?_; rintro e w3 ⟨rfl, hk3⟩; have HK3 := H_ (HK2.out.trans hk3 fun _ _ h => h); clear hk3))
 have HKW := H_ (HK1.out.trans HK3.out fun _ _ h => h)
 have HCV : Hid (∀ V, Keeps (fun _ => False) w3 V → (convert 48 9 (.slice A1 p c1)).run Tryz.prog V = .ok (.string (strOfNums x)) V ∧ (convert 48 9 (.slice B1 q d1)).run Tryz.prog V = .ok (.string (strOfNums y)) V ∧ (convert 48 9 (.slice A' p c')).run Tryz.prog V = .ok (.string (strOfNums x)) V ∧ (convert 48 9 (.slice B' q d')).run Tryz.prog V = .ok (.string (strOfNums y)) V ∧ V.cell? ⟨g, o + i, none⟩ = some (.slice A' p c') ∧ V.cell? ⟨g2, o2 + k, none⟩ = some (.slice B' q d')) := H_ fun V hV => by
  have h1 := HK3.out.trans hV fun _ _ h => h
  have h2 := HKW.out.trans hV fun _ _ h => h
  exact ⟨convert_rd V Tryz.underlying48 Tryz.underlying5 Tryz.underlying9 c1 (HP1.out.1.keep h1 (no_out _ _)), convert_rd V Tryz.underlying48 Tryz.underlying5 Tryz.underlying9 d1 (HP1.out.2.keep h1 (no_out _ _)), convert_rd V Tryz.underlying48 Tryz.underlying5 Tryz.underlying9 c' (HXV.out.1 V h2).2, convert_rd V Tryz.underlying48 Tryz.underlying5 Tryz.underlying9 d' (HXV.out.2 V h2).2, (HXV.out.1 V h2).1, (HXV.out.2 V h2).1⟩
 obtain ⟨sx, hsx⟩ : ∃ sx, sx = strOfNums x := ⟨_, rfl⟩
 obtain ⟨sy, hsy⟩ : ∃ sy, sy = strOfNums y := ⟨_, rfl⟩
 rw [← hsx, ← hsy] at HCV
 clear hsx hsy
 refine wp_region_held_drew (S := (fun V => Keeps (fun _ => False) w3 V)) (by kernel_rfl) (Keeps.refl _ _).drew (fun h_ => ?_)
 refine tI 0 39 h_ ?_
 try simp only [pu]
 refine tI 1 40 h_ ?_
 try simp only [pu]
 refine tI 2 41 h_ ?_
 try simp only [pu]
 refine tI 3 42 h_ ?_ (hy := .inl ⟨by rfl, by intro w' hSw; have cv := (HCV.out _ hSw).1; go_simp; first | done | rfl⟩)
 try simp only [pu]
 refine tI 4 43 h_ ?_
 try simp only [pu]
 refine tI 5 44 h_ ?_
 try simp only [pu]
 refine tI 6 45 h_ ?_
 try simp only [pu]
 refine tI 7 46 h_ ?_ (hy := .inl ⟨by rfl, by intro w' hSw; have cv := (HCV.out _ hSw).2.2.2.2.1; go_simp; first | done | rfl⟩)
 try simp only [pu]
 refine tI 8 47 h_ ?_ (hy := .inl ⟨by rfl, by intro w' hSw; have cv := (HCV.out _ hSw).2.2.1; go_simp; first | done | rfl⟩)
 try simp only [pu]
 refine tI 9 48 h_ ?_
 try simp only [pu]
 refine tI 10 49 h_ ?_
 try simp only [pu]
 refine tI 11 50 h_ ?_
 try simp only [pu]
 refine tI 12 51 h_ ?_
 try simp only [pu]
 refine tI 13 52 h_ ?_ (hy := .inl ⟨by rfl, by intro w' hSw; have cv := (HCV.out _ hSw).2.1; go_simp; first | done | rfl⟩)
 try simp only [pu]
 refine tI 14 53 h_ ?_
 try simp only [pu]
 refine tI 15 54 h_ ?_
 try simp only [pu]
 refine tI 16 55 h_ ?_
 try simp only [pu]
 refine tI 17 56 h_ ?_ (hy := .inl ⟨by rfl, by intro w' hSw; have cv := (HCV.out _ hSw).2.2.2.2.2; go_simp; first | done | rfl⟩)
 try simp only [pu]
 refine tI 18 57 h_ ?_ (hy := .inl ⟨by rfl, by intro w' hSw; have cv := (HCV.out _ hSw).2.2.2.1; go_simp; first | done | rfl⟩)
 try simp only [pu]
 refine tI 19 58 h_ ?_
 try simp only [pu]
 refine tI 20 59 h_ ?_
 try simp only [pu]
 refine tI 21 4 h_ ?_
 try simp only [pu]
 refine wpAnyH_done (by kernel_rfl) ?_ _
 have HKF := H_ (HKW.out.trans h_ fun _ _ h => h)
 go_wp2
 go_ret
 exact ⟨rfl, HKF.out⟩
theorem clashes_any (w : World) (hG : GW w) (A : Option Addr) (n c : Nat) (a : List (List Int)) (ha : a.length = n) (pa : RdPartsO (fun _ => False) w A a) (B : Option Addr) (m d : Nat) (b : List (List Int)) (hb : b.length = m) (pb : RdPartsO (fun _ => False) w B b) (hn : n ≤ 1099511627776) (hm : m ≤ 1099511627776) :
  Calls Tryz.prog 4 #[.slice A n c, .slice B m d] w fun e w' => e = .returned (.bool true) ∧ Keeps (fun _ => False) w w' := by
 have hc := clash_any w hG A n c a ha pa B m d b hb pb hn hm
 have hr := fun W (hW : Keeps (fun _ => False) w W) => rclash_any W A n c a ha (pa.keep hW fun _ h => h) B m d b hb (pb.keep hW fun _ h => h) hn hm
 by_cases h : ∃ i k, IsFirst a b i k
 ·obtain ⟨i, k, hf⟩ := h
  exact clashes_first w hG A n c a ha pa B m d b hb pb hf hc hr
 ·refine clashes_none w hG A n c a B m d b (fun i k hik => ?_) hc hr
  exact h (first_exists i k hik)
end Go.Proofs.YtplleficmkfniaaGreatDoor
