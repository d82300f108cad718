/-
  WALK: the reference's Leaves.
-/
import Derived.Test.YtknecjjdegngfaaDoorRRootW
import Derived.Test.YtknecjjdegngfaaDoorFoldW
set_option linter.unusedSimpArgs false
namespace Go.Proofs.YtknecjjdegngfaaDoor
open Go Go.RowKit Go.Sha Go.Aff Go.Book
theorem dig_leafF (bs : List Int) : IsDig (leafF bs) := ⟨sumF_length _ _ _, dg_bytes _⟩
set_option maxRecDepth 100000 in
set_option maxHeartbeats 4000000 in
theorem leaves_any (w : World) (A : Option Addr) (n c : Nat) (pss : List (List Int)) (hl : pss.length = n) (hp : RdPartsO (fun _ => False) w A pss) (hn : n ≤ 2000) (hsm : ∀ bs ∈ pss, bs.length ≤ 2147483648) :
    Calls Tryd.prog 48 #[.slice A n c] w fun e w' => ∃ A' c', e = .returned (.slice A' n c') ∧ MineD w w' 23 A' n c' (pss.map leafF) := by
  have HC : Hid (∀ wr, Keeps (fun _ => False) w wr → ∀ k, k < n → ∃ g o A' m' c' bs, A = some ⟨g, o, none⟩ ∧ wr.cell? ⟨g, o + k, none⟩ = some (.slice A' m' c') ∧ pss[k]? = some bs ∧
      Calls Tryd.prog 12 #[.slice A' m' c'] wr fun e w' => e = .returned (.agg (vb (leafF bs)).toArray) ∧ Keeps (fun _ => False) wr w') := Lib.hid fun wr hk k hkn => by
    obtain ⟨vals, hv, _, hparts⟩ := hp.keep hk (fun _ h => h)
    obtain ⟨g, o, e, hc⟩ := hv.2 (by omega)
    obtain ⟨bs, hbs⟩ : ∃ bs, pss[k]? = some bs := ⟨_, List.getElem?_eq_getElem (by omega)⟩
    obtain ⟨A', c', h1, h2, _, h4, _, _⟩ := hparts k bs hbs
    have := hsm bs (List.mem_of_getElem? hbs)
    exact ⟨g, o, A', bs.length, c', bs, e, (hc k (by omega)).trans h1, hbs, rleaf_any wr A' bs.length c' bs rfl h2 h4 (by omega)⟩
  have HLN := Lib.hid hl
  clear hl hp hsm
  go_enter Tryd.func48, Tryd.ntmps48
  go_wp2
  go_loopw [3, 4] (fun v i wr => ∃ (k : Nat) (A4 : Option Addr) (c4 : Nat), k ≤ n ∧ i = .int .i64 k ∧ v = .slice A4 k c4 ∧ Hid (MineD w wr 23 A4 k c4 ((pss.take k).map leafF))) (fun _ i _ => n - (intOf i).toNat)
  case atStart => exact ⟨0, none, 0, by omega, rfl, rfl, Lib.hid (by rw [List.take_zero]; exact MineD.nil w _)⟩
  case round =>
    obtain ⟨k, A4, c4, hk, rfl, rfl, HM⟩ := hrel
    by_cases hlt : k < n
    · obtain ⟨g, o, A', m', c', bs, rfl, hc, hbs, hL⟩ := HC.out wr HM.out.2.2.2.1 k hlt
      have HB1 := Lib.hid hbs
      have hdd : IsDig (leafF bs) := dig_leafF bs
      obtain ⟨d, hd⟩ : ∃ d, d = leafF bs := ⟨_, rfl⟩
      rw [← hd] at hL hdd
      have HD := Lib.hid hd
      have HL := Lib.hid hL
      have HDD := Lib.hid hdd
      have HB : Hid (∀ cs : Array Value, cs.size = 32 → List.foldl (fun (cs : Array Value) (x : Value × Nat) => cs.setIfInBounds x.snd x.fst) cs (vb d).zipIdx = (vb d).toArray) := Lib.hid fun cs h => fold_zip0 (vb d) cs (by rw [vb_length, HDD.out.1]; exact h)
      have HRD : Hid (∀ w5 : World, RdD (w5.alloc (.cells (vb d).toArray 23)) (some ⟨w5.heap.size, 0, none⟩) 1 [d]) := Lib.hid fun w5 => ⟨rfl, HDD.out.one, by rw [dg_one]; exact Rd.of_blk (Blk.new w5 _ _) (by rw [vb_length, HDD.out.1])⟩
      have hvl : (vb d).length = 32 := by rw [vb_length, HDD.out.1]
      clear hd hL hdd hbs
      go_wp2_with (first
        | (go_at_call 12; refine HL.out.mono ?_; rintro e w5 ⟨rfl, hk5⟩; have HK5 := Lib.hid hk5; clear hk5)
        | ((with_reducible show wpList _ _ _ (⟨_, Op.call ⟨Callee.builtin Builtin.append, _, _⟩, _, _, _, _⟩ :: _) _ _); rw [HB.out _ rfl]; refine wpList_append_dig w _ rfl _ _ 42 rfl 23 _ Tryd.underlying42 infoA rfl A4 k c4 _ rfl ((HM.out.keep HK5.out).keep ((Keeps.refl _ _).alloc _)) _ 1 1 [d] rfl (HRD.out _) (by omega) ?_; intro A5 c5 w5 hm5 _ _; have HM5 := Lib.hid hm5; clear hm5))
      go_round
      case rel => exact ⟨k + 1, A5, c5, by omega, by go_num, rfl, Lib.hid (by rw [List.take_add_one, HB1.out, List.map_append]; have := HM5.out; rw [HD.out] at this; simpa using this)⟩
      case measure => simp [intOf]; omega
    · obtain rfl : k = n := by omega
      go_wp2
      go_ret
      exact ⟨_, _, rfl, by have := HM.out; rwa [List.take_of_length_le (by rw [HLN.out]; exact Nat.le_refl _)] at this⟩
end Go.Proofs.YtknecjjdegngfaaDoor
