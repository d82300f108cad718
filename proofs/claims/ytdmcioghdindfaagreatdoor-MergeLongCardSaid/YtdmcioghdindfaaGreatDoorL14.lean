/- Texts. -/
import Derived.Test.YtdmcioghdindfaaGreatDoorL13
set_option linter.unusedSimpArgs false
set_option maxRecDepth 100000
set_option maxHeartbeats 4000000
namespace Go.Json
theorem rise_next {l : List ByteArray} {i : Nat} {x y : ByteArray} (h : NotF l) (hr : ∀ s ∈ l, rightS s = true) (hl : (l.take (i + 1)).Pairwise ltS) (hy : l[i]? = some y) (hx : l[i + 1]? = some x) (hne : x ≠ y) : (l.take (i + 1 + 1)).Pairwise ltS := by
 rw [List.take_add_one, hx]
 refine List.pairwise_append.2 ⟨hl, List.pairwise_singleton _ _, fun a ha b hb => ?_⟩
 have hb : b = x := by simpa using hb
 subst hb
 have hyx : ltS y b := by
  have h1 : ¬ ltS b y := by
   obtain ⟨l1, e1⟩ := List.getElem?_eq_some_iff.1 hy
   obtain ⟨l2, e2⟩ := List.getElem?_eq_some_iff.1 hx
   have := List.pairwise_iff_getElem.1 h i (i + 1) l1 l2 (by omega)
   rwa [e1, e2] at this
  rcases ltS_tri (hr y (List.mem_of_getElem? hy)) (hr b (List.mem_of_getElem? hx)) with h2 | h2 | h2
  ·exact h2
  ·exact absurd h2.symm hne
  exact absurd h2 h1
 rw [List.take_add_one, hy] at ha hl
 rcases List.mem_append.1 ha with ha | ha
 ·exact ltS_trans ((List.pairwise_append.1 hl).2.2 a ha y (by simp)) hyx
 have ha : a = y := by simpa using ha
 subst ha
 exact hyx
end Go.Json
namespace Go.Proofs.YtdmcioghdindfaaGreatDoor
open Go Go.RowKit Go.Aff Go.Json Go.Utf
theorem rtwice_any (w : World) (B : Option Addr) (n d : Nat) (ks : List ByteArray) (hn : ks.length = n) (hd : n ≤ d) (hr : Rd w B n (ks.map .string)) (hm : n ≤ 1099511627776) (hs : ∀ s ∈ ks, s.size ≤ 1099511627776) (hri : ∀ s ∈ ks, rightS s = true) :
  Calls Tryz.prog 95 #[.slice B n d] w fun e w' => e = .returned (.bool (decide (¬ ks.Nodup))) ∧ Keeps (fun _ => False) w w' := by
 have HC := H_ (rsorted_any n w B d ks hn hd hr hm hs hri)
 unfold SortedPost at HC
 rw [hn] at HC
 have HRI := H_ hri
 have HN := H_ hn
 clear hr hs hri hn
 go_enter Tryz.func95, Tryz.ntmps95
 go_upto_block 0 with (go_at_call 117; refine HC.out.mono ?_; rintro e w1 ⟨A, c, ls, rfl, _, hm1, hp, hf⟩; have HM1 := H_ hm1; have HP := H_ hp; have HF := H_ hf; clear hm1 hp hf)
 go_wp2
 clear HC
 have HLL : Hid (ls.length = n) := H_ (HP.out.length_eq.trans HN.out)
 have HRL : Hid (∀ s ∈ ls, rightS s = true) := H_ fun s h => HRI.out s (HP.out.mem_iff.1 h)
 go_loopg [4] n (fun gk t wx => ∃ i : Nat, i ≤ n ∧ t = .int .i64 ((i + 1 : Nat) : Int) ∧ gk = n - i ∧ Hid (Keeps (fun _ => False) w1 wx) ∧ Hid ((ls.take (i + 1)).Pairwise ltS))
 case atStart => exact ⟨0, by omega, rfl, rfl, H_ (Keeps.refl _ _), H_ (by match ls with | [] => exact .nil | x :: _ => exact List.pairwise_singleton _ _)⟩
 case round =>
  obtain ⟨i, hin, rfl, hgk, HK, HPW⟩ := hrel
  have HGK := H_ hgk
  clear hgk
  by_cases hlt : i + 1 < n
  ·obtain ⟨g, o, hA, hc⟩ := ((MineS.rd HM1.out).keep HK.out (fun _ _ _ h => h)).2 (by omega)
   subst hA
   obtain ⟨x, hx⟩ : ∃ x, ls[i + 1]? = some x := ⟨_, List.getElem?_eq_getElem (by have := HLL.out; omega)⟩
   obtain ⟨y, hy⟩ : ∃ y, ls[i]? = some y := ⟨_, List.getElem?_eq_getElem (by have := HLL.out; omega)⟩
   have HTA : Hid (TwoAt wr wr ⟨g, o + (i + 1), none⟩ ⟨g, o + i, none⟩ (.string x) (.string y)) := H_ ⟨Keeps.refl _ _, by rw [hc (i + 1) hlt, List.getElem?_map, hx]; rfl, by rw [hc i (by omega), List.getElem?_map, hy]; rfl⟩
   have HXY := H_ (And.intro hx hy)
   clear hx hy hc
   have hwi : IntKind.i64.wrap (i : Int) = (i : Int) := by
    simp [IntKind.wrap, IntKind.bits, IntKind.signed]
    omega
   have hi0 : (0 : Int) ≤ (i : Int) := by omega
   have hi1 : (i : Int) < (n : Int) := by omega
   go_upto_region 5 with fail
   refine wp_region_held_drew (S := fun W => TwoAt wr W ⟨g, o + (i + 1), none⟩ ⟨g, o + i, none⟩ (.string x) (.string y)) (by kernel_rfl) (HTA.out.stay (Keeps.refl _ _).drew) (fun h_ => ?_)
   refine tI 0 13 h_ ?_
   try simp only [pu]
   refine tI 1 14 h_ ?_
   try simp only [pu]
   refine tI 2 15 h_ ?_
   try simp only [pu]
   refine tI 3 16 h_ ?_ (hy := .inl ⟨by rfl, by intro w' hSw; have cv := hSw.c1; go_simp; first | done | rfl⟩)
   try simp only [pu]
   refine tI 4 17 h_ ?_
   try simp only [pu]
   refine tI 5 18 h_ ?_
   try simp only [pu]
   refine tI 6 19 h_ ?_
   try simp only [pu]
   refine tI 7 20 h_ ?_
   try simp only [pu]
   refine tI 8 21 h_ ?_ (hy := .inl ⟨by rfl, by intro w' hSw; have cv := hSw.c2; go_simp; first | done | rfl⟩)
   try simp only [pu]
   refine tI 9 22 h_ ?_
   try simp only [pu]
   refine wpAnyH_done (by kernel_rfl) ?_ _
   have HK3 := H_ h_.keep
   clear h_
   obtain ⟨q, hqq⟩ : ∃ q, q = (x.toList == y.toList) := ⟨_, rfl⟩
   rw [← hqq]
   by_cases hxy : x = y
   ·have hq : (x.toList == y.toList) = true := by rw [hxy]; exact beq_self_eq_true _
    rw [hq] at hqq
    subst hqq
    have HF2 : Hid (decide (¬ ks.Nodup) = true) := H_ (decide_eq_true fun hnd => by
     have h1 := (HP.out.nodup_iff.2 hnd)
     have h2 := (List.getElem?_inj (by have := HLL.out; omega) h1).1 (HXY.out.1.trans (by rw [hxy]; exact HXY.out.2.symm))
     omega)
    go_wp2
    go_ret
    exact ⟨by rw [HF2.out]; rfl, (HM1.out.2.1.trans HK.out (fun _ _ h => h)).trans HK3.out (fun _ _ h => h)⟩
   ·have hq : (x.toList == y.toList) = false := by
     rw [beq_eq_false_iff_ne]
     intro h
     rw [ByteArray.toList_eq, ByteArray.toList_eq] at h
     exact hxy (ByteArray.ext (Array.toList_inj.1 h))
    rw [hq] at hqq
    subst hqq
    have HNX := H_ (rise_next HF.out HRL.out HPW.out HXY.out.2 HXY.out.1 hxy)
    clear hxy
    go_wp2
    go_roundg (n - (i + 1))
    case measure => rw [HGK.out]; omega
    case rel => exact ⟨i + 1, by omega, by go_num, rfl, H_ (HK.out.trans HK3.out (fun _ _ h => h)), HNX⟩
  ·have HF2 : Hid (decide (¬ ks.Nodup) = false) := H_ (decide_eq_false fun h => h (HP.out.nodup_iff.1 (by
    have h1 := HPW.out
    rw [List.take_of_length_le (by have := HLL.out; omega)] at h1
    exact h1.imp fun h2 e => by subst e; exact ltS_irrefl _ h2)))
   go_wp2
   go_ret
   exact ⟨by rw [HF2.out]; rfl, HM1.out.2.1.trans HK.out (fun _ _ h => h)⟩
end Go.Proofs.YtdmcioghdindfaaGreatDoor
namespace Go.Json
open Go.Utf
section
variable {α : Type}
def NotM (l : List (ByteArray × α)) : Prop := l.Pairwise fun p q => ¬ ltS q.1 p.1
structure MixM (all done ra rb : List (ByteArray × α)) : Prop where
 perm : (done ++ (ra ++ rb)).Perm all
 d : NotM done
 a : NotM ra
 b : NotM rb
 lo : ∀ x ∈ done, ∀ y ∈ ra ++ rb, ¬ ltS y.1 x.1
theorem MixM.start {ra rb : List (ByteArray × α)} (ha : NotM ra) (hb : NotM rb) : MixM (ra ++ rb) [] ra rb := ⟨.refl _, .nil, ha, hb, fun x h => by simp at h⟩
theorem notM_snoc {l : List (ByteArray × α)} {x : ByteArray × α} (h : NotM l) (hx : ∀ y ∈ l, ¬ ltS x.1 y.1) : NotM (l ++ [x]) := by
 refine List.pairwise_append.2 ⟨h, List.pairwise_singleton _ _, fun a ha b hb => ?_⟩
 rw [List.mem_singleton.1 hb]
 exact hx a ha
theorem MixM.left {all done ra rb : List (ByteArray × α)} {x : ByteArray × α} (h : MixM all done (x :: ra) rb) (hall : ∀ s ∈ all, rightS s.1 = true) (hx : ∀ y ∈ rb.head?, ¬ ltS y.1 x.1) : MixM all (done ++ [x]) ra rb := by
 have hm : ∀ s, s ∈ done ++ (x :: ra ++ rb) → rightS s.1 = true := fun s hs => hall s (h.perm.mem_iff.1 hs)
 have hxr : rightS x.1 = true := hm x (by simp)
 have ha := List.pairwise_cons.1 h.a
 have hyb : ∀ y ∈ rb, ¬ ltS y.1 x.1 := fun y hy => by
  match rb, h.b, hx, hy with
  | z :: rb', hb, hx, hy =>
   have hz := hx z rfl
   rcases List.mem_cons.1 hy with rfl | hy'
   ·exact hz
   exact notF_trans hz ((List.pairwise_cons.1 hb).1 y hy') hxr (hm z (by simp))
 refine ⟨?_, notM_snoc h.d fun y hy => h.lo y hy x (by simp), ha.2, h.b, fun p hp y hy => ?_⟩
 ·have : done ++ [x] ++ (ra ++ rb) = done ++ (x :: ra ++ rb) := by simp
  rw [this]; exact h.perm
 rcases List.mem_append.1 hp with hp | hp
 ·exact h.lo p hp y (by rcases List.mem_append.1 hy with h2 | h2 <;> simp [h2])
 rw [List.mem_singleton.1 hp]
 rcases List.mem_append.1 hy with hy | hy
 ·exact ha.1 y hy
 exact hyb y hy
theorem MixM.swap {all done ra rb : List (ByteArray × α)} (h : MixM all done ra rb) : MixM all done rb ra :=
 ⟨((List.Perm.refl done).append List.perm_append_comm).trans h.perm, h.d, h.b, h.a, fun x hx y hy => h.lo x hx y (by rcases List.mem_append.1 hy with h2 | h2 <;> simp [h2])⟩
theorem MixM.right {all done ra rb : List (ByteArray × α)} {x : ByteArray × α} (h : MixM all done ra (x :: rb)) (hall : ∀ s ∈ all, rightS s.1 = true) (hx : ∀ y ∈ ra.head?, ¬ ltS y.1 x.1) : MixM all (done ++ [x]) ra rb := (h.swap.left hall hx).swap
end
end Go.Json
namespace Go.Proofs.YtdmcioghdindfaaGreatDoor
open Go Go.RowKit Go.Aff Go.Json Go.Utf
abbrev MemV := ByteArray × List Value
def memC (p : MemV) : List Value := .string p.1 :: p.2
def flatM (l : List MemV) : List Value := (l.map memC).flatten
def SixM (l : List MemV) : Prop := ∀ p ∈ l, p.2.length = 6 ∧ ∀ u ∈ p.2, u.oneCell' = true
theorem flatM_cons (p : MemV) (l : List MemV) : flatM (p :: l) = memC p ++ flatM l := by simp [flatM]
theorem flatM_app (l m : List MemV) : flatM (l ++ m) = flatM l ++ flatM m := by simp [flatM]
theorem memC_len {p : MemV} (h : p.2.length = 6) : (memC p).length = 7 := by simp [memC, h]
theorem memC_one {p : MemV} (h : ∀ u ∈ p.2, u.oneCell' = true) : ∀ u ∈ memC p, u.oneCell' = true := fun u hu => by
 rcases List.mem_cons.1 hu with rfl | hu
 ·rfl
 exact h u hu
theorem SixM.of_mem {l m : List MemV} (h : SixM l) (hm : ∀ p ∈ m, p ∈ l) : SixM m := fun p hp => h p (hm p hp)
theorem flatM_take : ∀ {l : List MemV} (k : Nat), SixM l → (flatM l).take (k * 7) = flatM (l.take k)
 | [], k, _ => by simp [flatM]
 | p :: l, 0, _ => by simp [flatM]
 | p :: l, k + 1, h => by
  have h7 := memC_len (h p List.mem_cons_self).1
  rw [List.take_succ_cons, flatM_cons, flatM_cons, ← flatM_take k fun q hq => h q (List.mem_cons_of_mem _ hq), List.take_append, h7, List.take_of_length_le (by omega), show (k + 1) * 7 - 7 = k * 7 by omega]
theorem flatM_drop : ∀ {l : List MemV} (k : Nat), SixM l → (flatM l).drop (k * 7) = flatM (l.drop k)
 | [], k, _ => by simp [flatM]
 | p :: l, 0, _ => by simp
 | p :: l, k + 1, h => by
  have h7 := memC_len (h p List.mem_cons_self).1
  rw [List.drop_succ_cons, flatM_cons, ← flatM_drop k fun q hq => h q (List.mem_cons_of_mem _ hq), List.drop_append, h7, List.drop_eq_nil_of_le (by omega), show (k + 1) * 7 - 7 = k * 7 by omega, List.nil_append]
def OrderedPost (w : World) (ms : List MemV) (e : Ending) (w' : World) : Prop :=
 ∃ A c ms', e = .returned (.slice A ms.length c) ∧ ms.length ≤ c ∧ RdS 7 w' A ms.length (flatM ms') ∧ ms'.Perm ms ∧ NotM ms' ∧ Keeps (fun _ => False) w w'
theorem rordered_few (w : World) (B : Option Addr) (n d : Nat) (ms : List MemV) (hn : ms.length = n) (hd : n ≤ d) (hr : RdS 7 w B n (flatM ms)) (h2 : n < 2) :
  Calls Tryz.prog 109 #[.slice B n d] w (OrderedPost w ms) := by
 have HR := H_ hr
 have HN := H_ hn
 have HF : Hid (NotM ms) := H_ (by
  match ms, hn with
  | [], _ => exact .nil
  | [x], _ => exact List.pairwise_singleton _ _
  | _ :: _ :: _, hn => simp at hn; omega)
 have hlt : decide ((n : Int) < 2) = true := decide_eq_true (by omega)
 clear hr hn
 go_enter Tryz.func109, Tryz.ntmps109
 go_wp2
 go_ret
 exact ⟨B, d, ms, by rw [HN.out]; rfl, by rw [HN.out]; exact hd, by rw [HN.out]; exact HR.out, .refl _, HF.out, Keeps.refl _ w⟩
end Go.Proofs.YtdmcioghdindfaaGreatDoor
