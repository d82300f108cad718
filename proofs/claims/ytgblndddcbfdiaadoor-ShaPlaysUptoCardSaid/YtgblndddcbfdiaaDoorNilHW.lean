/-
  WALKS: the methods of a nil hash; Resume and Write where they refuse.
-/
import Derived.Test.YtgblndddcbfdiaaDoorResumeW
import Derived.Test.YtgblndddcbfdiaaDoorCompW
set_option linter.unusedSimpArgs false
namespace Go.Proofs.YtgblndddcbfdiaaDoor
open Go Go.RowKit Go.Sha Go.Aff
/-- No digest at all. -/
def zeroH : List Int := List.replicate 32 0
theorem infoZH : (Tryd.prog.info? 23).map (·.size) = some (vb zeroH).length := by kernel_rfl
def zeroS : Nat → Int := fun _ => 0
theorem infoMH : (Tryd.prog.info? 49).map (·.size) = some (hcells zeroS 0 (.slice none 0 0)).length := by rw [show (hcells zeroS 0 (.slice none 0 0)).length = 10 by simp [hcells, wl]]; kernel_rfl
set_option maxRecDepth 100000 in
theorem Sum_nil (w : World) : Calls Tryd.prog 23 #[.pointer none] w fun e w' => e = .returned (.agg (vb zeroH).toArray) ∧ Keeps (fun _ => False) w w' := by
  have HZ := Lib.hid (Blk.new w 23 (List.replicate 32 (Value.int .u8 0)))
  go_enter Tryd.func23, Tryd.ntmps23
  go_wp2_with ((with_reducible show wpList _ _ _ (⟨none, Op.store 23 _ _, _, _, _, _⟩ :: _) _ _); refine wpList_store_whole rfl 23 _ _ rfl (vb zeroH) rfl rfl HZ.out rfl (by kernel_rfl) (vb_one _) ?_)
  refine bodyPost_ret (results_blk rfl _ _ rfl (HZ.out.setRow (vb zeroH)) Tryd.underlying23 rfl infoZH) rfl ⟨rfl, ((Keeps.refl _ w).alloc _).setRow (.inr (Nat.le_refl _)) _⟩
set_option maxRecDepth 100000 in
theorem Mid_nil (w : World) : Calls Tryd.prog 24 #[.pointer none] w fun e w' => e = .returned (.agg (hcells zeroS 0 (.slice none 0 0)).toArray) ∧ Keeps (fun _ => False) w w' := by
  have HZ := Lib.hid (Blk.new w 49 (hcells zeroS 0 (.slice none 0 0)))
  go_enter Tryd.func24, Tryd.ntmps24
  go_wp2_with ((with_reducible show wpList _ _ _ (⟨none, Op.store 49 _ _, _, _, _, _⟩ :: _) _ _); refine wpList_store_whole rfl 49 _ _ rfl (hcells zeroS 0 (.slice none 0 0)) rfl rfl HZ.out rfl infoMH (hcells_one _ _ _ _ _) ?_)
  refine bodyPost_ret (results_blk rfl _ _ rfl (HZ.out.setRow (hcells zeroS 0 (.slice none 0 0))) Tryd.underlying49 rfl infoMH) rfl ⟨rfl, ((Keeps.refl _ w).alloc _).setRow (.inr (Nat.le_refl _)) _⟩
set_option maxRecDepth 100000 in
theorem Len_nil (w : World) : Calls Tryd.prog 26 #[.pointer none] w fun e w' => e = .returned (.int .u64 0) ∧ w = w' := by
  go_enter Tryd.func26, Tryd.ntmps26
  go_wp2
  go_ret
  exact ⟨rfl, rfl⟩
set_option maxRecDepth 100000 in
theorem Copy_nil (w : World) : Calls Tryd.prog 25 #[.pointer none] w fun e w' => e = .returned (.pointer none) ∧ w = w' := by
  go_enter Tryd.func25, Tryd.ntmps25
  go_wp2
  go_ret
  exact ⟨rfl, rfl⟩
set_option maxRecDepth 100000 in
theorem Reset_nil (w : World) : Calls Tryd.prog 32 #[.pointer none] w fun e w' => e = .returned (.tuple #[]) ∧ w = w' := by
  go_enter Tryd.func32, Tryd.ntmps32
  go_wp2
  go_end0
  exact ⟨rfl, rfl⟩
set_option maxRecDepth 100000 in
theorem Resume_arg (w : World) (st : Nat → Int) (m : Int) (n c : Nat) (A : Option Addr) (hn : 64 ≤ n) :
    Calls Tryd.prog 30 #[.agg (hcells st m (.slice A n c)).toArray] w fun e w' => e = .returned (.tuple #[.pointer none, errno 2]) ∧ Keeps (fun _ => False) w w' := by
  have hbk := Blk.new w 49 (hcells st m (.slice A n c))
  obtain ⟨cs, hcs⟩ : ∃ cs, cs = (hcells st m (.slice A n c)).toArray := ⟨_, rfl⟩
  rw [← hcs] at hbk ⊢
  have k9 : cs[9]? = some (.slice A n c) := by rw [hcs]; rfl
  have hn' : (64 : Int) ≤ (n : Int) := by omega
  clear hcs hbk
  go_enter Tryd.func30, Tryd.ntmps30
  go_wp2
  go_ret2
  exact ⟨rfl, (Keeps.refl _ w).alloc _⟩
set_option maxRecDepth 100000 in
theorem Resume_long (w : World) (st : Nat → Int) (m : Int) (n c : Nat) (A : Option Addr) (hn : n < 64) (hm : 36028797018963968 ≤ m) :
    Calls Tryd.prog 30 #[.agg (hcells st m (.slice A n c)).toArray] w fun e w' => e = .returned (.tuple #[.pointer none, errno 3]) ∧ Keeps (fun _ => False) w w' := by
  have hbk := Blk.new w 49 (hcells st m (.slice A n c))
  obtain ⟨cs, hcs⟩ : ∃ cs, cs = (hcells st m (.slice A n c)).toArray := ⟨_, rfl⟩
  rw [← hcs] at hbk ⊢
  have k8 : cs[8]? = some (.int .u64 m) := by rw [hcs]; rfl
  have k9 : cs[9]? = some (.slice A n c) := by rw [hcs]; rfl
  have hn' : (n : Int) < (64 : Int) := by omega
  clear hcs hbk
  go_enter Tryd.func30, Tryd.ntmps30
  go_wp2
  go_ret2
  exact ⟨rfl, (Keeps.refl _ w).alloc _⟩

set_option maxHeartbeats 4000000 in
set_option maxRecDepth 100000 in
theorem Write_long (w : World) (p : Nat) (v : Value) (S : Nat → Int) (nb : Nat) (X : List Int) (h : HashAt w p v S nb X)
    (A : Option Addr) (c : Nat) (pss : List (List Int)) (hr : RdPartsO (fun _ => False) w A pss) (hn : pss.length ≤ 140737488355328) (hX : 64 * nb + X.length < 2305843009213693952) (hlong : 2305843009213693952 ≤ 64 * nb + X.length + pss.flatten.length) :
    Calls Tryd.prog 22 #[.pointer (some ⟨p, 0, none⟩), .slice A pss.length c] w fun e w' => e = .returned (errno 3) ∧ Keeps (fun _ => False) w w' := by
  obtain ⟨vals, hv, hvo, hparts⟩ := hr
  obtain ⟨cur, hcur⟩ : ∃ cur, cur = 64 * nb + X.length := ⟨_, rfl⟩
  have hlen := len_at w p v S nb X h (by omega)
  rw [← hcur] at hlen hlong hX
  have hR0 : Hid (RoomRel cur pss 0 (2305843009213693952 - (cur : Int))) := RoomRel.start cur pss (by omega)
  have hcells : Hid (∀ (wr : World) k, Keeps (fun _ => False) w wr → k < pss.length → ∃ g o bs A' c', A = some ⟨g, o, none⟩ ∧ pss[k]? = some bs ∧ wr.cell? ⟨g, o + k, none⟩ = some (.slice A' bs.length c') ∧ bs.length ≤ c' ∧ bs.length ≤ 140737488351232) := by
    intro wr k hk hlt
    have hv' := hv.keep hk hvo
    obtain ⟨g, o, e, hc⟩ := hv'.2 (by omega)
    obtain ⟨bs, hbs⟩ : ∃ bs, pss[k]? = some bs := ⟨_, List.getElem?_eq_getElem hlt⟩
    obtain ⟨A', c', h1, h2, h3, h4, h5, h6⟩ := hparts k bs hbs
    exact ⟨g, o, bs, A', c', e, hbs, (hc k hlt).trans h1, h5, h6⟩
  have HEND : Hid (∀ x, ¬ RoomRel cur pss pss.length x) := Lib.hid fun x hx => by have := hx.long; omega
  have HLEN := Lib.hid hlen
  have hcb : (cur : Int) < 2305843009213693952 := by omega
  clear h hv hvo hparts hlen hcur hlong
  obtain ⟨n, hnn⟩ : ∃ n, n = pss.length := ⟨_, rfl⟩
  have HN := Lib.hid hnn
  rw [← hnn] at hn HEND ⊢
  clear hnn
  obtain ⟨L, hL⟩ : ∃ L : Int, L = (cur : Int) := ⟨_, rfl⟩
  have hL0 : 0 ≤ L := by omega
  rw [← hL] at HLEN hR0 hcb
  clear hL
  go_enter Tryd.func22, Tryd.ntmps22
  go_wp2_with (go_at_call 26; refine HLEN.out.mono ?_; rintro e w1 ⟨rfl, k1, rfl⟩)
  go_loop [5, 7, 18] (fun r _ i => ∃ (k : Nat) (x : Int), k ≤ n ∧ i = .int .i64 k ∧ r = .int .u64 x ∧ 0 < x ∧ x ≤ 2305843009213693952 ∧ RoomRel cur pss k x) (fun _ _ i => n - (intOf i).toNat)
  case atStart => exact ⟨0, _, by omega, rfl, rfl, by omega, by omega, hR0.out⟩
  case round =>
    clear hR0
    obtain ⟨k, x, hk, rfl, rfl, hx0, hx1, hrm⟩ := hrel
    by_cases hlt : k < n
    · obtain ⟨g, o, bs, A1, c1, hA, hbs, hcell, hc1, hrb⟩ := hcells.out (w.drewN k1) k ((Keeps.refl _ _).drewN k1) (by have := HN.out; omega)
      subst hA
      by_cases hfx : (bs.length : Int) < x
      · have hs := hrm.step hbs hfx
        have HS := Lib.hid hs
        obtain ⟨m, hm⟩ : ∃ m, m = bs.length := ⟨_, rfl⟩
        rw [← hm] at HS hcell hfx hrb hc1
        clear hm hs hrm hbs
        go_wp2
        go_round
        case rel => exact ⟨k + 1, _, by omega, by go_num, rfl, by omega, by omega, HS.out⟩
        case measure => simp [intOf]; omega
      · obtain ⟨m, hm⟩ : ∃ m, m = bs.length := ⟨_, rfl⟩
        rw [← hm] at hcell hfx hrb hc1
        clear hm hrm hbs
        go_wp2
        go_ret
        exact ⟨rfl, (Keeps.refl _ w).drewN k1⟩
    · obtain rfl : k = n := by omega
      exact absurd hrm (HEND.out x)
end Go.Proofs.YtgblndddcbfdiaaDoor
