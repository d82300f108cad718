/-
  WALKS: the statement ShaSums.
-/
import Derived.Test.YtgblndddcbfdiaaDoorCopiedW
import Derived.Test.YtgblndddcbfdiaaDoorRSumW
import Derived.Test.YtgblndddcbfdiaaDoorMidW
set_option linter.unusedSimpArgs false
namespace Go.Proofs.YtgblndddcbfdiaaDoor
open Go Go.RowKit Go.Sha Go.Aff

theorem CopRel.parts {w wr : World} {pss : List (List Int)} {v : Value} (h : CopRel w pss pss.length v wr) (hb : ∀ bs ∈ pss, IsBytes bs) : ∃ A c, v = .slice A pss.length c ∧ RdParts wr A pss := by
  obtain ⟨A, c, vals, rfl, ho, ⟨hl, gs, cs, h1, h2⟩, hk, hlow⟩ := h
  rw [List.take_length] at hl h1
  refine ⟨A, c, rfl, vals, Rd.of_own ho, fun i bs hi => ?_⟩
  obtain ⟨a1, a2, a3⟩ := h1 i bs hi
  have hr := (Rd.of_own a2).take (k := bs.length) (by omega)
  have e : (vb (bs ++ [1, 2, 3])).take bs.length = vb bs := by simp [vb]
  rw [e] at hr
  exact ⟨_, _, a1, hr, hb bs (List.mem_of_getElem? hi), by have := own_cap a2; omega⟩

theorem w8_eql (w : World) : (binOp .eql 38 (.agg (wl first).toArray) (.agg (wl first).toArray)).run Tryd.prog w = .ok (.bool true) w := by
  have := run_eql_row (P := Tryd.prog) w Tryd.underlying38 Tryd.underlying37 (by kernel_rfl) firstL firstL rfl rfl
  have hF : vi .u32 firstL = wl first := by rfl
  have h2 : firstL.map (Value.int .u32) = wl first := hF
  rw [h2] at this
  rw [this]
  simp

set_option maxHeartbeats 4000000 in
set_option maxRecDepth 100000 in
theorem shaSums_any (w : World) (hG : Glob w) (A : Option Addr) (n c : Nat) (pss : List (List Int)) (hnn : pss.length = n) (hr : RdPartsO (fun _ => False) w A pss) (hn : n ≤ 1048576) (hbig : pss.flatten.length ≤ 1048576) (hb : ∀ bs ∈ pss, IsBytes bs) :
    Calls Tryd.prog 10 #[.slice A n c] w fun e w' => e = .returned (.bool true) ∧ Keeps (fun _ => False) w w' := by
  have hfb : IsBytes pss.flatten := fun x hx => by
    obtain ⟨bs, h1, h2⟩ := List.mem_flatten.1 hx
    exact hb bs h1 x h2
  have HC : Hid (Calls Tryd.prog 33 #[.slice A n c] w fun e w' => ∃ A' c', e = .returned (.slice A' n c') ∧ RdParts w' A' pss ∧ Keeps (fun _ => False) w w') := Lib.hid (by
    rw [← hnn]
    refine (copied_any w A c pss hr (by omega)).mono fun e w' ⟨v, he, h⟩ => ?_
    obtain ⟨A', c', rfl, hp⟩ := h.parts hb
    obtain ⟨_, _, _, _, _, _, hk, _⟩ := h
    exact ⟨A', c', he, hp, hk⟩)
  have HS : Hid (∀ W A' c', Keeps (fun _ => False) w W → RdParts W A' pss → Calls Tryd.prog 20 #[.slice A' n c'] W fun e w' => e = .returned (.agg (vb (sumF first 0 pss.flatten)).toArray) ∧ Keeps (fun _ => False) W w') := Lib.hid fun W A' c' hk hp => by
    rw [← hnn]
    exact sums_any W (hG.keep hk (fun _ h => h.elim)) A' c' pss hp (by omega) (by omega)
  obtain ⟨N, hN⟩ : ∃ N, N = pss.flatten.length := ⟨_, rfl⟩
  have HCC : Hid (∀ W, Keeps (fun _ => False) w W → Calls Tryd.prog 28 #[.slice A n c] W fun e w' => ∃ A' c', e = .returned (.slice A' N c') ∧ w'.ownsRow 0 5 1 (.slice A' N c') N (vb pss.flatten) ∧ Keeps (fun _ => False) W w') := Lib.hid fun W hk => by
    rw [← hnn, hN]
    exact (Concat_any W A c pss (hr.keep hk (fun _ h => h)) (by omega) (by omega)).mono fun e w' ⟨A', c', h1, h2, h3, _⟩ => ⟨A', c', h1, h2, h3⟩
  have HO : Hid (∀ W A' c', W.ownsRow 0 5 1 (.slice A' N c') N (vb pss.flatten) → Calls Tryd.prog 34 #[.slice A' N c'] W fun e w' => e = .returned (.agg (vb (sumF first 0 pss.flatten)).toArray) ∧ Keeps (fun _ => False) W w') := Lib.hid fun W A' c' ho =>
    rof_any W A' N c' pss.flatten hN.symm (Rd.of_own ho) hfb (by omega)
  have HF : Hid (∀ W, Keeps (fun _ => False) w W → Calls Tryd.prog 29 #[] W fun e w' => e = .returned (.agg (wl first).toArray) ∧ Keeps (fun _ => False) W w') := Lib.hid fun W hk => first_any W (hG.keep hk (fun _ h => h.elim))
  have HRF : Hid (∀ W, Calls Tryd.prog 35 #[] W fun e w' => e = .returned (.agg (wl first).toArray) ∧ Keeps (fun _ => False) W w') := Lib.hid fun W => refFirst_any W
  obtain ⟨D, hD⟩ : ∃ D, D = sumF first 0 pss.flatten := ⟨_, rfl⟩
  have hDl : D.length = 32 := by rw [hD, sumF_length]
  rw [← hD] at HS HO
  have heq : ∀ wx, (binOp .eql 23 (.agg (vb D).toArray) (.agg (vb D).toArray)).run Tryd.prog wx = .ok (.bool true) wx := fun wx => by
    have := digest_eql wx D D hDl hDl
    simpa using this
  have heq8 := w8_eql
  clear hD hDl hfb hb hr hG hnn hN hbig
  go_enter Tryd.func10, Tryd.ntmps10
  go_wp2_with (first
    | (go_at_call 33; refine HC.out.mono ?_; rintro e w1 ⟨A1, c1, rfl, hp1, hk1⟩; have HP1 := Lib.hid hp1; have HK1 := Lib.hid hk1; clear hp1 hk1)
    | (go_at_call 20; refine (HS.out _ _ _ HK1.out HP1.out).mono ?_; rintro e w2 ⟨rfl, hk2⟩; have HK2 := Lib.hid (HK1.out.trans hk2 (fun _ _ h => h)); clear hk2)
    | (go_at_call 28; refine (HCC.out _ HK2.out).mono ?_; rintro e w3 ⟨A3, c3, rfl, ho3, hk3⟩; have HO3 := Lib.hid ho3; have HK3 := Lib.hid (HK2.out.trans hk3 (fun _ _ h => h)); clear ho3 hk3)
    | (go_at_call 34; refine (HO.out _ _ _ HO3.out).mono ?_; rintro e w4 ⟨rfl, hk4⟩; have HK4 := Lib.hid (HK3.out.trans hk4 (fun _ _ h => h)); clear hk4)
    | (go_at_call 29; refine (HF.out _ HK4.out).mono ?_; rintro e w5 ⟨rfl, hk5⟩; have HK5 := Lib.hid (HK4.out.trans hk5 (fun _ _ h => h)); clear hk5)
    | (go_at_call 35; refine (HRF.out _).mono ?_; rintro e w6 ⟨rfl, hk6⟩; have HK6 := Lib.hid (HK5.out.trans hk6 (fun _ _ h => h)); clear hk6))
  go_ret
  exact ⟨rfl, HK6.out⟩
end Go.Proofs.YtgblndddcbfdiaaDoor
