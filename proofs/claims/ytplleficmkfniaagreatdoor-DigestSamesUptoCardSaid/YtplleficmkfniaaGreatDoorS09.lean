/- Texts. -/
import Derived.Test.YtplleficmkfniaaGreatDoorS08
set_option linter.unusedSimpArgs false
set_option maxRecDepth 100000
set_option maxHeartbeats 4000000
namespace Go.Utf
def HeldOK (H : List Int) : Prop := H = [] ∨ ∃ x r, H = x :: r ∧ ((r.length : Int) + 1) < (formF x).1
theorem form_le (c : Int) : (formF c).1 ≤ 4 := by
 unfold formF
 repeat' split
 all_goals simp
theorem HeldOK.short {H : List Int} (h : HeldOK H) : H.length ≤ 3 := by
 rcases h with rfl | ⟨x, r, rfl, h⟩
 ·simp
 ·have := form_le x
  rw [List.length_cons]
  omega
theorem HeldOK.take {H H' : List Int} (h : HeldOK H) {c : Int} (e : takeF H c = some H') : HeldOK H' := by
 rcases h with rfl | ⟨x, r, rfl, h⟩
 ·unfold takeF at e
  simp only at e
  split at e
  ·cases e
  ·split at e
   ·injection e with e; subst e
    exact .inr ⟨c, [], rfl, by rename_i h1; simp; omega⟩
   ·injection e with e; subst e; exact .inl rfl
 ·unfold takeF at e
  simp only at e
  split at e
  ·split at e
   ·injection e with e; subst e; exact .inl rfl
   ·injection e with e; subst e
    exact .inr ⟨x, r ++ [c], rfl, by rename_i h1; rw [List.length_append]; simp; omega⟩
  ·cases e
end Go.Utf
namespace Go.Proofs.YtplleficmkfniaaGreatDoor
open Go Go.RowKit Go.Aff Go.Utf
structure FeedAt (w : World) (q : Nat) (pl : Int) (H : List Int) (wr : Bool) : Prop where
 ok : HeldOK H
 blk : ∃ a b c d : Int, Blk w q 342 [.int .i64 pl, .int .u8 a, .int .u8 b, .int .u8 c, .int .u8 d, .int .i64 H.length, .bool wr] ∧ [a, b, c, d].take H.length = H
theorem FeedAt.stay {w w' : World} {q : Nat} {pl : Int} {H : List Int} {wr : Bool} (h : FeedAt w q pl H wr) (hk : Kp (fun _ => False) w w') : FeedAt w' q pl H wr := by
 obtain ⟨ok, a, b, c, d, hb, e⟩ := h
 exact ⟨ok, a, b, c, d, hk.blk hb (fun h => h), e⟩
theorem take_nothing (w : World) (q : Nat) (pl : Int) (wr : Bool) (x : Int) (h : FeedAt w q pl [] wr) :
  Calls Tryz.prog 206 #[.pointer (some ⟨q, 0, none⟩), .int .u8 x] w fun e w' => e = .returned (.bool (takeF [] x).isSome) ∧ FeedAt w' q pl ((takeF [] x).getD []) wr ∧ Kp (fun i => i = q) w w' := by
 obtain ⟨ok, a, b, c, d, hb, e⟩ := h
 clear e ok
 have hlt := hb.lt
 obtain ⟨F, hF⟩ : ∃ F, F = formF x := ⟨_, rfl⟩
 have HFO : Hid (∀ W, Calls Tryz.prog 239 #[.int .u8 x] W fun e w' => e = .returned (.agg (formV F).toArray) ∧ Kp (fun _ => False) W w') := H_ fun W => by rw [hF]; exact form_any W x
 have HT : Hid (takeF [] x = if F.1 = 0 then none else if F.1 > 1 then some [x] else some []) := H_ (by rw [hF]; rfl)
 have HOK : Hid (∀ H', takeF [] x = some H' → HeldOK H') := H_ fun H' e => HeldOK.take (.inl rfl) e
 clear hF
 obtain ⟨n, lo, hi⟩ := F
 have HB := H_ hb
 have c5 : w.cell? ⟨q, 5, none⟩ = some (.int .i64 0) := hb.cell 5
 clear hb
 replace HFO : Hid (∀ W, Calls Tryz.prog 239 #[.int .u8 x] W fun e w' => e = .returned (.agg #[.int .i64 n, .int .u8 lo, .int .u8 hi]) ∧ Kp (fun _ => False) W w') := HFO
 replace HT : Hid (takeF [] x = if n = 0 then none else if n > 1 then some [x] else some []) := HT
 have HBW : Hid (∀ W, Kp (fun _ => False) w W → Blk (W.alloc (.cells #[.int .i64 n, .int .u8 lo, .int .u8 hi] 376)) q 342 [.int .i64 pl, .int .u8 a, .int .u8 b, .int .u8 c, .int .u8 d, .int .i64 0, .bool wr]) := H_ fun W hW => (hW.blk HB.out (fun h => h)).alloc _
 have HKW : Hid (∀ W, Kp (fun _ => False) w W → Kp (fun i => i = q) w (W.alloc (.cells #[.int .i64 n, .int .u8 lo, .int .u8 hi] 376))) := H_ fun W hW => (hW.mono (fun _ _ h => h.elim)).alloc _
 clear HB
 by_cases h0 : n = 0
 ·subst h0
  have HR : Hid (takeF [] x = none) := H_ (by rw [HT.out]; simp)
  clear HT
  go_enter Tryz.func206, Tryz.ntmps206
  go_wp2_with (first
   | (go_at_call 239; refine (HFO.out _).mono ?_; rintro e w2 ⟨rfl, hk2⟩; have HK2 := H_ hk2; have fz := (Blk.new w2 376 [.int .i64 0, .int .u8 0, .int .u8 0]).frozen; have z0 := fz 0; have z1 := fz 1; have z2 := fz 2; have fy := HBW.out w2 hk2; have y1 := fy.frozen 1; have x1 := fy.cell 1; have y5 := (fy.set_ 1 (.int .u8 x)).frozen 5; have x5 := (fy.set_ 1 (.int .u8 x)).cell 5; clear hk2 fz fy))
  go_ret
  rw [HR.out]
  exact ⟨rfl, ⟨.inl rfl, a, b, c, d, HBW.out w2 HK2.out, rfl⟩, HKW.out w2 HK2.out⟩
 ·have e0 : (n == 0) = false := by simp [h0]
  by_cases h1 : 1 < n
  ·have e1 : decide (1 < n) = true := by simp [h1]
   have HR : Hid (takeF [] x = some [x]) := H_ (by rw [HT.out]; simp [h0, h1])
   clear HT h0 h1
   go_enter Tryz.func206, Tryz.ntmps206
   go_wp2_with (first
    | (go_at_call 239; refine (HFO.out _).mono ?_; rintro e w2 ⟨rfl, hk2⟩; have HK2 := H_ hk2; have fz := (Blk.new w2 376 [.int .i64 0, .int .u8 0, .int .u8 0]).frozen; have z0 := fz 0; have z1 := fz 1; have z2 := fz 2; have fy := HBW.out w2 hk2; have y1 := fy.frozen 1; have x1 := fy.cell 1; have y5 := (fy.set_ 1 (.int .u8 x)).frozen 5; have x5 := (fy.set_ 1 (.int .u8 x)).cell 5; clear hk2 fz fy))
   go_ret
   rw [HR.out]
   exact ⟨rfl, ⟨HOK.out _ HR.out, x, b, c, d, ((HBW.out w2 HK2.out).set_ 1 _).set_ 5 _, rfl⟩, ((HKW.out w2 HK2.out).setCell (p := ⟨q, 1, none⟩) (.inl rfl) _).setCell (p := ⟨q, 5, none⟩) (.inl rfl) _⟩
  ·have e1 : decide (1 < n) = false := by simp [h1]
   have HR : Hid (takeF [] x = some []) := H_ (by rw [HT.out]; simp [h0, h1])
   clear HT h0 h1
   go_enter Tryz.func206, Tryz.ntmps206
   go_wp2_with (first
    | (go_at_call 239; refine (HFO.out _).mono ?_; rintro e w2 ⟨rfl, hk2⟩; have HK2 := H_ hk2; have fz := (Blk.new w2 376 [.int .i64 0, .int .u8 0, .int .u8 0]).frozen; have z0 := fz 0; have z1 := fz 1; have z2 := fz 2; have fy := HBW.out w2 hk2; have y1 := fy.frozen 1; have x1 := fy.cell 1; have y5 := (fy.set_ 1 (.int .u8 x)).frozen 5; have x5 := (fy.set_ 1 (.int .u8 x)).cell 5; clear hk2 fz fy))
   go_ret
   rw [HR.out]
   exact ⟨rfl, ⟨.inl rfl, a, b, c, d, HBW.out w2 HK2.out, rfl⟩, HKW.out w2 HK2.out⟩
theorem take_held1 (w : World) (q : Nat) (pl : Int) (wr : Bool) (y x z2 z3 z4 : Int) (hok : HeldOK [x]) (hb : Blk w q 342 [.int .i64 pl, .int .u8 x, .int .u8 z2, .int .u8 z3, .int .u8 z4, .int .i64 1, .bool wr]) :
  Calls Tryz.prog 206 #[.pointer (some ⟨q, 0, none⟩), .int .u8 y] w fun e w' => e = .returned (.bool (takeF [x] y).isSome) ∧ FeedAt w' q pl ((takeF [x] y).getD [x]) wr ∧ Kp (fun i => i = q) w w' := by
 obtain ⟨F, hF⟩ : ∃ F, F = formF x := ⟨_, rfl⟩
 have HFO : Hid (∀ W, Calls Tryz.prog 239 #[.int .u8 x] W fun e w' => e = .returned (.agg (formV F).toArray) ∧ Kp (fun _ => False) W w') := H_ fun W => by rw [hF]; exact form_any W x
 obtain ⟨m, hm⟩ : ∃ m, m = mayF F 1 y := ⟨_, rfl⟩
 have HMA : Hid (∀ W, Calls Tryz.prog 240 #[.agg (formV F).toArray, .int .i64 1, .int .u8 y] W fun e w' => e = .returned (.bool m) ∧ Kp (fun _ => False) W w') := H_ fun W => by rw [hm]; exact may_any W F 1 y
 have HT : Hid (takeF [x] y = if m = true then (if (2 : Int) = F.1 then some [] else some [x, y]) else none) := H_ (by rw [hm, hF]; rfl)
 have HOK : Hid (∀ H', takeF [x] y = some H' → HeldOK H') := H_ fun H' e => HeldOK.take hok e
 have HO := H_ hok
 clear hF hm hok
 obtain ⟨n, lo, hi⟩ := F
 obtain ⟨FV, hFV⟩ : ∃ FV : List Value, FV = [.int .i64 n, .int .u8 lo, .int .u8 hi] := ⟨_, rfl⟩
 replace HFO : Hid (∀ W, Calls Tryz.prog 239 #[.int .u8 x] W fun e w' => e = .returned (.agg #[.int .i64 n, .int .u8 lo, .int .u8 hi]) ∧ Kp (fun _ => False) W w') := HFO
 replace HMA : Hid (∀ W, Calls Tryz.prog 240 #[.agg FV.toArray, .int .i64 1, .int .u8 y] W fun e w' => e = .returned (.bool m) ∧ Kp (fun _ => False) W w') := H_ fun W => by rw [hFV]; exact HMA.out W
 replace HT : Hid (takeF [x] y = if m = true then (if (2 : Int) = n then some [] else some [x, y]) else none) := HT
 have HFI : Hid ((Tryz.prog.info? 376).map (·.size) = some FV.length) := H_ (by rw [hFV]; kernel_rfl)
 have HFB : Hid (∀ W : World, Blk (W.alloc (.cells #[.int .i64 n, .int .u8 lo, .int .u8 hi] 376)) W.heap.size 376 FV) := H_ fun W => by rw [hFV]; exact Blk.new W _ _
 have HFC : Hid (∀ W g, Blk W g 376 FV → W.cell? ⟨g, 0, none⟩ = some (.int .i64 n) ∧ W.rangeAt g 0 FV) := H_ fun W g h => ⟨by rw [h.cell, hFV]; rfl, fun j v hj => by rw [Nat.zero_add, h.cell, hj]⟩
 have HB := H_ hb
 have hq := hb.lt
 have c5 : w.cell? ⟨q, 5, none⟩ = some (.int .i64 1) := hb.cell 5
 have c1 : w.cell? ⟨q, 1, none⟩ = some (.int .u8 x) := hb.cell 1
 clear hb hFV
 go_enter Tryz.func206, Tryz.ntmps206
 go_upto_region 9 with (first
  | (go_at_call 239; refine (HFO.out _).mono ?_; rintro e w2 ⟨rfl, hk2⟩; have HK2 := H_ hk2; have fz := (Blk.new w2 376 [.int .i64 0, .int .u8 0, .int .u8 0]).frozen; have z0 := fz 0; have z1 := fz 1; have z2 := fz 2; clear hk2 fz))
 have hk3 := HK2.out.alloc (.cells #[.int .i64 n, .int .u8 lo, .int .u8 hi] 376)
 have hg3 := HFB.out w2
 have hqg : q ≠ w2.heap.size := by have := HK2.out.size; omega
 obtain ⟨g, hg⟩ : ∃ g, g = w2.heap.size := ⟨_, rfl⟩
 rw [← hg] at hg3 hqg ⊢
 have HG := H_ hg
 clear z0 z1 z2 hg
 refine gen_codeF (fun W => Blk W q 342 [.int .i64 pl, .int .u8 x, .int .u8 z2, .int .u8 z3, .int .u8 z4, .int .i64 1, .bool wr] ∧ Blk W g 376 FV ∧ Kp (fun _ => False) w W) ⟨hk3.blk HB.out (fun h => h), hg3, hk3⟩ ?_
 rintro w3 ⟨hb3, hf3, hk3'⟩
 have HB3 := H_ hb3
 have HF3 := H_ hf3
 have HK3 := H_ hk3'
 clear hk3 hg3 hb3 hf3 hk3' HG HK2 c5 c1 hq
 refine wp_region_held_drew (S := Kp (fun _ => False) w3) (by kernel_rfl) (Kp.refl (fun _ => False) _).drew (fun h_ => ?_)
 refine tI 0 34 h_ ?_ (hy := (yieldsIf_load_mid (by rfl) _ _ rfl _ _ rfl FV _ (fun w' h => (HFC.out _ _ (h.blk HF3.out (fun h => h))).2) Tryz.underlying376 rfl HFI.out))
 try simp only [pu]
 refine tI 1 35 h_ ?_
 try simp only [pu]
 refine tI 2 36 h_ ?_
 try simp only [pu]
 refine tI 3 37 h_ ?_
 try simp only [pu]
 refine tI 4 38 h_ ?_ (hy := .inl ⟨by rfl, by intro w' hSw; have cv := (hSw.blk HB3.out (fun h => h)).cell 5; go_simp; first | done | rfl⟩)
 try simp only [pu]
 refine tI 5 39 h_ ?_
 try simp only [pu]
 refine rH 6 (some 40) fun K hK => ?_
 go_simp
 refine (HMA.out _).mono ?_
 rintro e vv ⟨rfl, hkk⟩
 have hqq := h_.trans hkk (fun _ _ h => h)
 refine hK.out _ _ hqq (fun h_ => ?_)
 clear hK K
 try simp only [pu]
 refine tI 7 41 h_ ?_
 try simp only [pu]
 refine wpAnyH_done (by kernel_rfl) ?_ _
 have hb4 := h_.blk HB3.out (fun h => h)
 have hf4 := h_.blk HF3.out (fun h => h)
 have hk4 := HK3.out.trans h_ (fun _ _ h => h)
 have HB4 := H_ hb4
 have HF4 := H_ hf4
 have HK4 := H_ hk4
 clear h_ hb4 hf4 hk4
 rcases m with _ | _
 ·have HR : Hid (takeF [x] y = none) := H_ (by rw [HT.out]; simp)
  go_wp2
  go_ret
  rw [HR.out]
  exact ⟨rfl, ⟨HO.out, x, z2, z3, z4, HB4.out, rfl⟩, HK4.out.mono (fun _ _ h => h.elim)⟩
 ·go_upto_region 11 with fail
  refine wp_region_tail (S := Kp (fun _ => False) vv) 9 (by kernel_rfl) (Kp.refl (fun _ => False) _).drew (fun h_ => ?_)
  refine tJ 0 42 ?_
  try simp only [pu]
  refine tJ 1 43 ?_
  try simp only [pu]
  refine tJ 2 44 ?_
  try simp only [pu]
  refine tJ 3 45 ?_
  try simp only [pu]
  refine tT [4] (i := 4) (oi := ⟨some 46, _, _, _, _, _⟩) (v := ?_) rfl (Or.inl ⟨by rfl, ?_⟩) h_ ?_
  rotate_left
  ·intro w' hSw
   have cv := (hSw.blk HB4.out (fun h => h)).cell 5
   go_simp
   first | done | rfl
  try simp only [pu]
  refine tJ 5 47 ?_
  try simp only [pu]
  refine tJ 6 48 ?_
  try simp only [pu]
  refine tJ 7 49 ?_
  try simp only [pu]
  refine tJ 8 50 ?_
  try simp only [pu]
  refine wpAnyT_tail (i := 9) (o := ⟨none, _, _, _, _, _⟩) (by kernel_rfl) (by kernel_rfl) rfl (fun K hK => ?_)
  have hb5 := h_.blk HB4.out (fun h => h)
  have fz := hb5.frozen 2
  have fx := hb5.cell 2
  go_simp
  refine hK.out _ _ ?_
  clear hK K
  try simp only [pu]
  refine wpAnyT_done (by kernel_rfl) ?_
  have hb6 := HB4.out.set_ 2 (.int .u8 y)
  have hf6 := HF4.out.far (p := ⟨q, 2, none⟩) (Ne.symm hqg) (.int .u8 y)
  have hk6 := (HK4.out.mono (G := fun i => i = q) (fun _ _ h => h.elim)).setCell (p := ⟨q, 2, none⟩) (.inl rfl) (.int .u8 y)
  have HX := H_ (And.intro hb6.drew (And.intro hf6.drew hk6.drew))
  clear h_ hb5 fz fx hb6 hf6 hk6
  go_upto_region 12 with fail
  refine gen_codeF (fun W => Blk W q 342 [.int .i64 pl, .int .u8 x, .int .u8 y, .int .u8 z3, .int .u8 z4, .int .i64 1, .bool wr] ∧ Blk W g 376 FV ∧ Kp (fun i => i = q) w W) HX.out ?_
  clear HX
  rintro w6 ⟨hb6, hf6, hk6⟩
  have c5 := hb6.cell 5
  have fz := hb6.frozen 5
  have hb7 := hb6.set_ 5 (.int .i64 2)
  have hf7 := hf6.far (p := ⟨q, 5, none⟩) (Ne.symm hqg) (.int .i64 2)
  have hk7 := hk6.setCell (p := ⟨q, 5, none⟩) (.inl rfl) (.int .i64 2)
  have HB7 : Hid (Blk (w6.setCell ⟨q, 5, none⟩ (.int .i64 2)) q 342 [.int .i64 pl, .int .u8 x, .int .u8 y, .int .u8 z3, .int .u8 z4, .int .i64 2, .bool wr]) := H_ hb7
  have HF7 := H_ hf7
  have HK7 := H_ hk7
  clear hb6 hf6 hk6 hb7 hf7 hk7
  go_upto_region 13 with fail
  refine gen_codeF (fun W => Blk W q 342 [.int .i64 pl, .int .u8 x, .int .u8 y, .int .u8 z3, .int .u8 z4, .int .i64 2, .bool wr] ∧ Blk W g 376 FV ∧ Kp (fun i => i = q) w W) ⟨HB7.out, HF7.out, HK7.out⟩ ?_
  clear HB7 HF7 HK7 c5 fz
  rintro w8 ⟨hb8, hf8, hk8⟩
  have HB8 := H_ hb8
  have HF8 := H_ hf8
  have HK8 := H_ hk8
  clear hb8 hf8 hk8
  obtain ⟨b, hbe⟩ : ∃ b, b = ((2 : Int) == n) := ⟨_, rfl⟩
  have hbs := hbe.symm
  have HBE : Hid (b = true ↔ (2 : Int) = n) := H_ (by rw [hbe]; simp)
  clear hbe
  refine wp_region_held_drew (S := Kp (fun _ => False) w8) (by kernel_rfl) (Kp.refl (fun _ => False) _).drew (fun h_ => ?_)
  refine tI 0 58 h_ ?_
  try simp only [pu]
  refine tI 1 59 h_ ?_
  try simp only [pu]
  refine tI 2 60 h_ ?_
  try simp only [pu]
  refine tI 3 61 h_ ?_ (hy := .inl ⟨by rfl, by intro w' hSw; have cv := (hSw.blk HB8.out (fun h => h)).cell 5; go_simp; first | done | rfl⟩)
  try simp only [pu]
  refine tI 4 62 h_ ?_
  try simp only [pu]
  refine tI 5 63 h_ ?_ (hy := .inl ⟨by rfl, by intro w' hSw; have cv := (HFC.out _ _ (hSw.blk HF8.out (fun h => h))).1; go_simp; first | done | rfl⟩)
  try simp only [pu]
  refine tI 6 64 h_ ?_
  try simp only [pu]
  refine wpAnyH_done (by kernel_rfl) ?_ _
  have hb9 := h_.blk HB8.out (fun h => h)
  have hk9 := HK8.out.trans h_ (fun _ _ h => h.elim)
  have HB9 := H_ hb9
  have HK9 := H_ hk9
  clear h_ hb9 hk9 hbs
  rcases b with _ | _
  ·have HR : Hid (takeF [x] y = some [x, y]) := H_ (by rw [HT.out, if_pos rfl, if_neg (fun e => by have := HBE.out.2 e; cases this)])
   go_wp2
   go_ret
   rw [HR.out]
   exact ⟨rfl, ⟨HOK.out _ HR.out, x, y, z3, z4, HB9.out, rfl⟩, HK9.out⟩
  ·have HR : Hid (takeF [x] y = some []) := H_ (by rw [HT.out, if_pos rfl, if_pos (HBE.out.1 rfl)])
   have c5 := HB9.out.cell 5
   have fz := HB9.out.frozen 5
   go_wp2
   go_ret
   rw [HR.out]
   exact ⟨rfl, ⟨.inl rfl, x, y, z3, z4, HB9.out.set_ 5 _, rfl⟩, HK9.out.setCell (p := ⟨q, 5, none⟩) (.inl rfl) _⟩
theorem take_held2 (w : World) (q : Nat) (pl : Int) (wr : Bool) (y x h2 z3 z4 : Int) (hok : HeldOK [x, h2]) (hb : Blk w q 342 [.int .i64 pl, .int .u8 x, .int .u8 h2, .int .u8 z3, .int .u8 z4, .int .i64 2, .bool wr]) :
  Calls Tryz.prog 206 #[.pointer (some ⟨q, 0, none⟩), .int .u8 y] w fun e w' => e = .returned (.bool (takeF [x, h2] y).isSome) ∧ FeedAt w' q pl ((takeF [x, h2] y).getD [x, h2]) wr ∧ Kp (fun i => i = q) w w' := by
 obtain ⟨F, hF⟩ : ∃ F, F = formF x := ⟨_, rfl⟩
 have HFO : Hid (∀ W, Calls Tryz.prog 239 #[.int .u8 x] W fun e w' => e = .returned (.agg (formV F).toArray) ∧ Kp (fun _ => False) W w') := H_ fun W => by rw [hF]; exact form_any W x
 obtain ⟨m, hm⟩ : ∃ m, m = mayF F 2 y := ⟨_, rfl⟩
 have HMA : Hid (∀ W, Calls Tryz.prog 240 #[.agg (formV F).toArray, .int .i64 2, .int .u8 y] W fun e w' => e = .returned (.bool m) ∧ Kp (fun _ => False) W w') := H_ fun W => by rw [hm]; exact may_any W F 2 y
 have HT : Hid (takeF [x, h2] y = if m = true then (if (3 : Int) = F.1 then some [] else some [x, h2, y]) else none) := H_ (by rw [hm, hF]; rfl)
 have HOK : Hid (∀ H', takeF [x, h2] y = some H' → HeldOK H') := H_ fun H' e => HeldOK.take hok e
 have HO := H_ hok
 clear hF hm hok
 obtain ⟨n, lo, hi⟩ := F
 obtain ⟨FV, hFV⟩ : ∃ FV : List Value, FV = [.int .i64 n, .int .u8 lo, .int .u8 hi] := ⟨_, rfl⟩
 replace HFO : Hid (∀ W, Calls Tryz.prog 239 #[.int .u8 x] W fun e w' => e = .returned (.agg #[.int .i64 n, .int .u8 lo, .int .u8 hi]) ∧ Kp (fun _ => False) W w') := HFO
 replace HMA : Hid (∀ W, Calls Tryz.prog 240 #[.agg FV.toArray, .int .i64 2, .int .u8 y] W fun e w' => e = .returned (.bool m) ∧ Kp (fun _ => False) W w') := H_ fun W => by rw [hFV]; exact HMA.out W
 replace HT : Hid (takeF [x, h2] y = if m = true then (if (3 : Int) = n then some [] else some [x, h2, y]) else none) := HT
 have HFI : Hid ((Tryz.prog.info? 376).map (·.size) = some FV.length) := H_ (by rw [hFV]; kernel_rfl)
 have HFB : Hid (∀ W : World, Blk (W.alloc (.cells #[.int .i64 n, .int .u8 lo, .int .u8 hi] 376)) W.heap.size 376 FV) := H_ fun W => by rw [hFV]; exact Blk.new W _ _
 have HFC : Hid (∀ W g, Blk W g 376 FV → W.cell? ⟨g, 0, none⟩ = some (.int .i64 n) ∧ W.rangeAt g 0 FV) := H_ fun W g h => ⟨by rw [h.cell, hFV]; rfl, fun j v hj => by rw [Nat.zero_add, h.cell, hj]⟩
 have HB := H_ hb
 have hq := hb.lt
 have c5 : w.cell? ⟨q, 5, none⟩ = some (.int .i64 2) := hb.cell 5
 have c1 : w.cell? ⟨q, 1, none⟩ = some (.int .u8 x) := hb.cell 1
 clear hb hFV
 go_enter Tryz.func206, Tryz.ntmps206
 go_upto_region 9 with (first
  | (go_at_call 239; refine (HFO.out _).mono ?_; rintro e w2 ⟨rfl, hk2⟩; have HK2 := H_ hk2; have fz := (Blk.new w2 376 [.int .i64 0, .int .u8 0, .int .u8 0]).frozen; have z0 := fz 0; have z1 := fz 1; have z2 := fz 2; clear hk2 fz))
 have hk3 := HK2.out.alloc (.cells #[.int .i64 n, .int .u8 lo, .int .u8 hi] 376)
 have hg3 := HFB.out w2
 have hqg : q ≠ w2.heap.size := by have := HK2.out.size; omega
 obtain ⟨g, hg⟩ : ∃ g, g = w2.heap.size := ⟨_, rfl⟩
 rw [← hg] at hg3 hqg ⊢
 have HG := H_ hg
 clear z0 z1 z2 hg
 refine gen_codeF (fun W => Blk W q 342 [.int .i64 pl, .int .u8 x, .int .u8 h2, .int .u8 z3, .int .u8 z4, .int .i64 2, .bool wr] ∧ Blk W g 376 FV ∧ Kp (fun _ => False) w W) ⟨hk3.blk HB.out (fun h => h), hg3, hk3⟩ ?_
 rintro w3 ⟨hb3, hf3, hk3'⟩
 have HB3 := H_ hb3
 have HF3 := H_ hf3
 have HK3 := H_ hk3'
 clear hk3 hg3 hb3 hf3 hk3' HG HK2 c5 c1 hq
 refine wp_region_held_drew (S := Kp (fun _ => False) w3) (by kernel_rfl) (Kp.refl (fun _ => False) _).drew (fun h_ => ?_)
 refine tI 0 34 h_ ?_ (hy := (yieldsIf_load_mid (by rfl) _ _ rfl _ _ rfl FV _ (fun w' h => (HFC.out _ _ (h.blk HF3.out (fun h => h))).2) Tryz.underlying376 rfl HFI.out))
 try simp only [pu]
 refine tI 1 35 h_ ?_
 try simp only [pu]
 refine tI 2 36 h_ ?_
 try simp only [pu]
 refine tI 3 37 h_ ?_
 try simp only [pu]
 refine tI 4 38 h_ ?_ (hy := .inl ⟨by rfl, by intro w' hSw; have cv := (hSw.blk HB3.out (fun h => h)).cell 5; go_simp; first | done | rfl⟩)
 try simp only [pu]
 refine tI 5 39 h_ ?_
 try simp only [pu]
 refine rH 6 (some 40) fun K hK => ?_
 go_simp
 refine (HMA.out _).mono ?_
 rintro e vv ⟨rfl, hkk⟩
 have hqq := h_.trans hkk (fun _ _ h => h)
 refine hK.out _ _ hqq (fun h_ => ?_)
 clear hK K
 try simp only [pu]
 refine tI 7 41 h_ ?_
 try simp only [pu]
 refine wpAnyH_done (by kernel_rfl) ?_ _
 have hb4 := h_.blk HB3.out (fun h => h)
 have hf4 := h_.blk HF3.out (fun h => h)
 have hk4 := HK3.out.trans h_ (fun _ _ h => h)
 have HB4 := H_ hb4
 have HF4 := H_ hf4
 have HK4 := H_ hk4
 clear h_ hb4 hf4 hk4
 rcases m with _ | _
 ·have HR : Hid (takeF [x, h2] y = none) := H_ (by rw [HT.out]; simp)
  go_wp2
  go_ret
  rw [HR.out]
  exact ⟨rfl, ⟨HO.out, x, h2, z3, z4, HB4.out, rfl⟩, HK4.out.mono (fun _ _ h => h.elim)⟩
 ·go_upto_region 11 with fail
  refine wp_region_tail (S := Kp (fun _ => False) vv) 9 (by kernel_rfl) (Kp.refl (fun _ => False) _).drew (fun h_ => ?_)
  refine tJ 0 42 ?_
  try simp only [pu]
  refine tJ 1 43 ?_
  try simp only [pu]
  refine tJ 2 44 ?_
  try simp only [pu]
  refine tJ 3 45 ?_
  try simp only [pu]
  refine tT [4] (i := 4) (oi := ⟨some 46, _, _, _, _, _⟩) (v := ?_) rfl (Or.inl ⟨by rfl, ?_⟩) h_ ?_
  rotate_left
  ·intro w' hSw
   have cv := (hSw.blk HB4.out (fun h => h)).cell 5
   go_simp
   first | done | rfl
  try simp only [pu]
  refine tJ 5 47 ?_
  try simp only [pu]
  refine tJ 6 48 ?_
  try simp only [pu]
  refine tJ 7 49 ?_
  try simp only [pu]
  refine tJ 8 50 ?_
  try simp only [pu]
  refine wpAnyT_tail (i := 9) (o := ⟨none, _, _, _, _, _⟩) (by kernel_rfl) (by kernel_rfl) rfl (fun K hK => ?_)
  have hb5 := h_.blk HB4.out (fun h => h)
  have fz := hb5.frozen 3
  have fx := hb5.cell 3
  go_simp
  refine hK.out _ _ ?_
  clear hK K
  try simp only [pu]
  refine wpAnyT_done (by kernel_rfl) ?_
  have hb6 := HB4.out.set_ 3 (.int .u8 y)
  have hf6 := HF4.out.far (p := ⟨q, 3, none⟩) (Ne.symm hqg) (.int .u8 y)
  have hk6 := (HK4.out.mono (G := fun i => i = q) (fun _ _ h => h.elim)).setCell (p := ⟨q, 3, none⟩) (.inl rfl) (.int .u8 y)
  have HX := H_ (And.intro hb6.drew (And.intro hf6.drew hk6.drew))
  clear h_ hb5 fz fx hb6 hf6 hk6
  go_upto_region 12 with fail
  refine gen_codeF (fun W => Blk W q 342 [.int .i64 pl, .int .u8 x, .int .u8 h2, .int .u8 y, .int .u8 z4, .int .i64 2, .bool wr] ∧ Blk W g 376 FV ∧ Kp (fun i => i = q) w W) HX.out ?_
  clear HX
  rintro w6 ⟨hb6, hf6, hk6⟩
  have c5 := hb6.cell 5
  have fz := hb6.frozen 5
  have hb7 := hb6.set_ 5 (.int .i64 3)
  have hf7 := hf6.far (p := ⟨q, 5, none⟩) (Ne.symm hqg) (.int .i64 3)
  have hk7 := hk6.setCell (p := ⟨q, 5, none⟩) (.inl rfl) (.int .i64 3)
  have HB7 : Hid (Blk (w6.setCell ⟨q, 5, none⟩ (.int .i64 3)) q 342 [.int .i64 pl, .int .u8 x, .int .u8 h2, .int .u8 y, .int .u8 z4, .int .i64 3, .bool wr]) := H_ hb7
  have HF7 := H_ hf7
  have HK7 := H_ hk7
  clear hb6 hf6 hk6 hb7 hf7 hk7
  go_upto_region 13 with fail
  refine gen_codeF (fun W => Blk W q 342 [.int .i64 pl, .int .u8 x, .int .u8 h2, .int .u8 y, .int .u8 z4, .int .i64 3, .bool wr] ∧ Blk W g 376 FV ∧ Kp (fun i => i = q) w W) ⟨HB7.out, HF7.out, HK7.out⟩ ?_
  clear HB7 HF7 HK7 c5 fz
  rintro w8 ⟨hb8, hf8, hk8⟩
  have HB8 := H_ hb8
  have HF8 := H_ hf8
  have HK8 := H_ hk8
  clear hb8 hf8 hk8
  obtain ⟨b, hbe⟩ : ∃ b, b = ((3 : Int) == n) := ⟨_, rfl⟩
  have hbs := hbe.symm
  have HBE : Hid (b = true ↔ (3 : Int) = n) := H_ (by rw [hbe]; simp)
  clear hbe
  refine wp_region_held_drew (S := Kp (fun _ => False) w8) (by kernel_rfl) (Kp.refl (fun _ => False) _).drew (fun h_ => ?_)
  refine tI 0 58 h_ ?_
  try simp only [pu]
  refine tI 1 59 h_ ?_
  try simp only [pu]
  refine tI 2 60 h_ ?_
  try simp only [pu]
  refine tI 3 61 h_ ?_ (hy := .inl ⟨by rfl, by intro w' hSw; have cv := (hSw.blk HB8.out (fun h => h)).cell 5; go_simp; first | done | rfl⟩)
  try simp only [pu]
  refine tI 4 62 h_ ?_
  try simp only [pu]
  refine tI 5 63 h_ ?_ (hy := .inl ⟨by rfl, by intro w' hSw; have cv := (HFC.out _ _ (hSw.blk HF8.out (fun h => h))).1; go_simp; first | done | rfl⟩)
  try simp only [pu]
  refine tI 6 64 h_ ?_
  try simp only [pu]
  refine wpAnyH_done (by kernel_rfl) ?_ _
  have hb9 := h_.blk HB8.out (fun h => h)
  have hk9 := HK8.out.trans h_ (fun _ _ h => h.elim)
  have HB9 := H_ hb9
  have HK9 := H_ hk9
  clear h_ hb9 hk9 hbs
  rcases b with _ | _
  ·have HR : Hid (takeF [x, h2] y = some [x, h2, y]) := H_ (by rw [HT.out, if_pos rfl, if_neg (fun e => by have := HBE.out.2 e; cases this)])
   go_wp2
   go_ret
   rw [HR.out]
   exact ⟨rfl, ⟨HOK.out _ HR.out, x, h2, y, z4, HB9.out, rfl⟩, HK9.out⟩
  ·have HR : Hid (takeF [x, h2] y = some []) := H_ (by rw [HT.out, if_pos rfl, if_pos (HBE.out.1 rfl)])
   have c5 := HB9.out.cell 5
   have fz := HB9.out.frozen 5
   go_wp2
   go_ret
   rw [HR.out]
   exact ⟨rfl, ⟨.inl rfl, x, h2, y, z4, HB9.out.set_ 5 _, rfl⟩, HK9.out.setCell (p := ⟨q, 5, none⟩) (.inl rfl) _⟩
theorem take_held3 (w : World) (q : Nat) (pl : Int) (wr : Bool) (y x h2 h3 z4 : Int) (hok : HeldOK [x, h2, h3]) (hb : Blk w q 342 [.int .i64 pl, .int .u8 x, .int .u8 h2, .int .u8 h3, .int .u8 z4, .int .i64 3, .bool wr]) :
  Calls Tryz.prog 206 #[.pointer (some ⟨q, 0, none⟩), .int .u8 y] w fun e w' => e = .returned (.bool (takeF [x, h2, h3] y).isSome) ∧ FeedAt w' q pl ((takeF [x, h2, h3] y).getD [x, h2, h3]) wr ∧ Kp (fun i => i = q) w w' := by
 obtain ⟨F, hF⟩ : ∃ F, F = formF x := ⟨_, rfl⟩
 have HFO : Hid (∀ W, Calls Tryz.prog 239 #[.int .u8 x] W fun e w' => e = .returned (.agg (formV F).toArray) ∧ Kp (fun _ => False) W w') := H_ fun W => by rw [hF]; exact form_any W x
 obtain ⟨m, hm⟩ : ∃ m, m = mayF F 3 y := ⟨_, rfl⟩
 have HMA : Hid (∀ W, Calls Tryz.prog 240 #[.agg (formV F).toArray, .int .i64 3, .int .u8 y] W fun e w' => e = .returned (.bool m) ∧ Kp (fun _ => False) W w') := H_ fun W => by rw [hm]; exact may_any W F 3 y
 have HT : Hid (takeF [x, h2, h3] y = if m = true then (if (4 : Int) = F.1 then some [] else some [x, h2, h3, y]) else none) := H_ (by rw [hm, hF]; rfl)
 have HOK : Hid (∀ H', takeF [x, h2, h3] y = some H' → HeldOK H') := H_ fun H' e => HeldOK.take hok e
 have HO := H_ hok
 clear hF hm hok
 obtain ⟨n, lo, hi⟩ := F
 obtain ⟨FV, hFV⟩ : ∃ FV : List Value, FV = [.int .i64 n, .int .u8 lo, .int .u8 hi] := ⟨_, rfl⟩
 replace HFO : Hid (∀ W, Calls Tryz.prog 239 #[.int .u8 x] W fun e w' => e = .returned (.agg #[.int .i64 n, .int .u8 lo, .int .u8 hi]) ∧ Kp (fun _ => False) W w') := HFO
 replace HMA : Hid (∀ W, Calls Tryz.prog 240 #[.agg FV.toArray, .int .i64 3, .int .u8 y] W fun e w' => e = .returned (.bool m) ∧ Kp (fun _ => False) W w') := H_ fun W => by rw [hFV]; exact HMA.out W
 replace HT : Hid (takeF [x, h2, h3] y = if m = true then (if (4 : Int) = n then some [] else some [x, h2, h3, y]) else none) := HT
 have HFI : Hid ((Tryz.prog.info? 376).map (·.size) = some FV.length) := H_ (by rw [hFV]; kernel_rfl)
 have HFB : Hid (∀ W : World, Blk (W.alloc (.cells #[.int .i64 n, .int .u8 lo, .int .u8 hi] 376)) W.heap.size 376 FV) := H_ fun W => by rw [hFV]; exact Blk.new W _ _
 have HFC : Hid (∀ W g, Blk W g 376 FV → W.cell? ⟨g, 0, none⟩ = some (.int .i64 n) ∧ W.rangeAt g 0 FV) := H_ fun W g h => ⟨by rw [h.cell, hFV]; rfl, fun j v hj => by rw [Nat.zero_add, h.cell, hj]⟩
 have HB := H_ hb
 have hq := hb.lt
 have c5 : w.cell? ⟨q, 5, none⟩ = some (.int .i64 3) := hb.cell 5
 have c1 : w.cell? ⟨q, 1, none⟩ = some (.int .u8 x) := hb.cell 1
 clear hb hFV
 go_enter Tryz.func206, Tryz.ntmps206
 go_upto_region 9 with (first
  | (go_at_call 239; refine (HFO.out _).mono ?_; rintro e w2 ⟨rfl, hk2⟩; have HK2 := H_ hk2; have fz := (Blk.new w2 376 [.int .i64 0, .int .u8 0, .int .u8 0]).frozen; have z0 := fz 0; have z1 := fz 1; have z2 := fz 2; clear hk2 fz))
 have hk3 := HK2.out.alloc (.cells #[.int .i64 n, .int .u8 lo, .int .u8 hi] 376)
 have hg3 := HFB.out w2
 have hqg : q ≠ w2.heap.size := by have := HK2.out.size; omega
 obtain ⟨g, hg⟩ : ∃ g, g = w2.heap.size := ⟨_, rfl⟩
 rw [← hg] at hg3 hqg ⊢
 have HG := H_ hg
 clear z0 z1 z2 hg
 refine gen_codeF (fun W => Blk W q 342 [.int .i64 pl, .int .u8 x, .int .u8 h2, .int .u8 h3, .int .u8 z4, .int .i64 3, .bool wr] ∧ Blk W g 376 FV ∧ Kp (fun _ => False) w W) ⟨hk3.blk HB.out (fun h => h), hg3, hk3⟩ ?_
 rintro w3 ⟨hb3, hf3, hk3'⟩
 have HB3 := H_ hb3
 have HF3 := H_ hf3
 have HK3 := H_ hk3'
 clear hk3 hg3 hb3 hf3 hk3' HG HK2 c5 c1 hq
 refine wp_region_held_drew (S := Kp (fun _ => False) w3) (by kernel_rfl) (Kp.refl (fun _ => False) _).drew (fun h_ => ?_)
 refine tI 0 34 h_ ?_ (hy := (yieldsIf_load_mid (by rfl) _ _ rfl _ _ rfl FV _ (fun w' h => (HFC.out _ _ (h.blk HF3.out (fun h => h))).2) Tryz.underlying376 rfl HFI.out))
 try simp only [pu]
 refine tI 1 35 h_ ?_
 try simp only [pu]
 refine tI 2 36 h_ ?_
 try simp only [pu]
 refine tI 3 37 h_ ?_
 try simp only [pu]
 refine tI 4 38 h_ ?_ (hy := .inl ⟨by rfl, by intro w' hSw; have cv := (hSw.blk HB3.out (fun h => h)).cell 5; go_simp; first | done | rfl⟩)
 try simp only [pu]
 refine tI 5 39 h_ ?_
 try simp only [pu]
 refine rH 6 (some 40) fun K hK => ?_
 go_simp
 refine (HMA.out _).mono ?_
 rintro e vv ⟨rfl, hkk⟩
 have hqq := h_.trans hkk (fun _ _ h => h)
 refine hK.out _ _ hqq (fun h_ => ?_)
 clear hK K
 try simp only [pu]
 refine tI 7 41 h_ ?_
 try simp only [pu]
 refine wpAnyH_done (by kernel_rfl) ?_ _
 have hb4 := h_.blk HB3.out (fun h => h)
 have hf4 := h_.blk HF3.out (fun h => h)
 have hk4 := HK3.out.trans h_ (fun _ _ h => h)
 have HB4 := H_ hb4
 have HF4 := H_ hf4
 have HK4 := H_ hk4
 clear h_ hb4 hf4 hk4
 rcases m with _ | _
 ·have HR : Hid (takeF [x, h2, h3] y = none) := H_ (by rw [HT.out]; simp)
  go_wp2
  go_ret
  rw [HR.out]
  exact ⟨rfl, ⟨HO.out, x, h2, h3, z4, HB4.out, rfl⟩, HK4.out.mono (fun _ _ h => h.elim)⟩
 ·go_upto_region 11 with fail
  refine wp_region_tail (S := Kp (fun _ => False) vv) 9 (by kernel_rfl) (Kp.refl (fun _ => False) _).drew (fun h_ => ?_)
  refine tJ 0 42 ?_
  try simp only [pu]
  refine tJ 1 43 ?_
  try simp only [pu]
  refine tJ 2 44 ?_
  try simp only [pu]
  refine tJ 3 45 ?_
  try simp only [pu]
  refine tT [4] (i := 4) (oi := ⟨some 46, _, _, _, _, _⟩) (v := ?_) rfl (Or.inl ⟨by rfl, ?_⟩) h_ ?_
  rotate_left
  ·intro w' hSw
   have cv := (hSw.blk HB4.out (fun h => h)).cell 5
   go_simp
   first | done | rfl
  try simp only [pu]
  refine tJ 5 47 ?_
  try simp only [pu]
  refine tJ 6 48 ?_
  try simp only [pu]
  refine tJ 7 49 ?_
  try simp only [pu]
  refine tJ 8 50 ?_
  try simp only [pu]
  refine wpAnyT_tail (i := 9) (o := ⟨none, _, _, _, _, _⟩) (by kernel_rfl) (by kernel_rfl) rfl (fun K hK => ?_)
  have hb5 := h_.blk HB4.out (fun h => h)
  have fz := hb5.frozen 4
  have fx := hb5.cell 4
  go_simp
  refine hK.out _ _ ?_
  clear hK K
  try simp only [pu]
  refine wpAnyT_done (by kernel_rfl) ?_
  have hb6 := HB4.out.set_ 4 (.int .u8 y)
  have hf6 := HF4.out.far (p := ⟨q, 4, none⟩) (Ne.symm hqg) (.int .u8 y)
  have hk6 := (HK4.out.mono (G := fun i => i = q) (fun _ _ h => h.elim)).setCell (p := ⟨q, 4, none⟩) (.inl rfl) (.int .u8 y)
  have HX := H_ (And.intro hb6.drew (And.intro hf6.drew hk6.drew))
  clear h_ hb5 fz fx hb6 hf6 hk6
  go_upto_region 12 with fail
  refine gen_codeF (fun W => Blk W q 342 [.int .i64 pl, .int .u8 x, .int .u8 h2, .int .u8 h3, .int .u8 y, .int .i64 3, .bool wr] ∧ Blk W g 376 FV ∧ Kp (fun i => i = q) w W) HX.out ?_
  clear HX
  rintro w6 ⟨hb6, hf6, hk6⟩
  have c5 := hb6.cell 5
  have fz := hb6.frozen 5
  have hb7 := hb6.set_ 5 (.int .i64 4)
  have hf7 := hf6.far (p := ⟨q, 5, none⟩) (Ne.symm hqg) (.int .i64 4)
  have hk7 := hk6.setCell (p := ⟨q, 5, none⟩) (.inl rfl) (.int .i64 4)
  have HB7 : Hid (Blk (w6.setCell ⟨q, 5, none⟩ (.int .i64 4)) q 342 [.int .i64 pl, .int .u8 x, .int .u8 h2, .int .u8 h3, .int .u8 y, .int .i64 4, .bool wr]) := H_ hb7
  have HF7 := H_ hf7
  have HK7 := H_ hk7
  clear hb6 hf6 hk6 hb7 hf7 hk7
  go_upto_region 13 with fail
  refine gen_codeF (fun W => Blk W q 342 [.int .i64 pl, .int .u8 x, .int .u8 h2, .int .u8 h3, .int .u8 y, .int .i64 4, .bool wr] ∧ Blk W g 376 FV ∧ Kp (fun i => i = q) w W) ⟨HB7.out, HF7.out, HK7.out⟩ ?_
  clear HB7 HF7 HK7 c5 fz
  rintro w8 ⟨hb8, hf8, hk8⟩
  have HB8 := H_ hb8
  have HF8 := H_ hf8
  have HK8 := H_ hk8
  clear hb8 hf8 hk8
  obtain ⟨b, hbe⟩ : ∃ b, b = ((4 : Int) == n) := ⟨_, rfl⟩
  have hbs := hbe.symm
  have HBE : Hid (b = true ↔ (4 : Int) = n) := H_ (by rw [hbe]; simp)
  clear hbe
  refine wp_region_held_drew (S := Kp (fun _ => False) w8) (by kernel_rfl) (Kp.refl (fun _ => False) _).drew (fun h_ => ?_)
  refine tI 0 58 h_ ?_
  try simp only [pu]
  refine tI 1 59 h_ ?_
  try simp only [pu]
  refine tI 2 60 h_ ?_
  try simp only [pu]
  refine tI 3 61 h_ ?_ (hy := .inl ⟨by rfl, by intro w' hSw; have cv := (hSw.blk HB8.out (fun h => h)).cell 5; go_simp; first | done | rfl⟩)
  try simp only [pu]
  refine tI 4 62 h_ ?_
  try simp only [pu]
  refine tI 5 63 h_ ?_ (hy := .inl ⟨by rfl, by intro w' hSw; have cv := (HFC.out _ _ (hSw.blk HF8.out (fun h => h))).1; go_simp; first | done | rfl⟩)
  try simp only [pu]
  refine tI 6 64 h_ ?_
  try simp only [pu]
  refine wpAnyH_done (by kernel_rfl) ?_ _
  have hb9 := h_.blk HB8.out (fun h => h)
  have hk9 := HK8.out.trans h_ (fun _ _ h => h.elim)
  have HB9 := H_ hb9
  have HK9 := H_ hk9
  clear h_ hb9 hk9 hbs
  rcases b with _ | _
  ·have HR : Hid (takeF [x, h2, h3] y = some [x, h2, h3, y]) := H_ (by rw [HT.out, if_pos rfl, if_neg (fun e => by have := HBE.out.2 e; cases this)])
   go_wp2
   go_ret
   rw [HR.out]
   exact ⟨rfl, ⟨HOK.out _ HR.out, x, h2, h3, y, HB9.out, rfl⟩, HK9.out⟩
  ·have HR : Hid (takeF [x, h2, h3] y = some []) := H_ (by rw [HT.out, if_pos rfl, if_pos (HBE.out.1 rfl)])
   have c5 := HB9.out.cell 5
   have fz := HB9.out.frozen 5
   go_wp2
   go_ret
   rw [HR.out]
   exact ⟨rfl, ⟨.inl rfl, x, h2, h3, y, HB9.out.set_ 5 _, rfl⟩, HK9.out.setCell (p := ⟨q, 5, none⟩) (.inl rfl) _⟩
end Go.Proofs.YtplleficmkfniaaGreatDoor
