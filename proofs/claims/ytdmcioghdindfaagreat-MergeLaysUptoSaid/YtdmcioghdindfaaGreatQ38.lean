/-
  Texts put together: RLay2W; LBeyW; MergeLaysW.
-/
import Derived.Test.YtdmcioghdindfaaGreatQ37
import Derived.Test.YtdmcioghdindfaaGreatQ27
import Derived.Test.YtdmcioghdindfaaGreatQ33
import Derived.Test.YtdmcioghdindfaaGreatQ34
import Derived.Test.YtdmcioghdindfaaGreatQ36
import Derived.Test.YtdmcioghdindfaaGreatQ03
set_option linter.unusedSimpArgs false
namespace Go.Json
theorem keys_few {j : JV} (h : j.nodes ≤ 65536) (hj : JOk j) : j.keys.length ≤ 65536 := by
 have h3 := items_nodes j
 have h4 := hj.form.1
 omega
theorem keys_short {j : JV} (h : j.bytes ≤ 2097152) (hj : JOk j) {s : ByteArray} (hs : s ∈ j.keys) : rightS s = true ∧ s.size ≤ 2097152 := ⟨hj.form.2.2.2.1 s hs, by
 have h3 := sumN_mem (List.mem_map.2 ⟨s, hs, rfl⟩ : s.size ∈ j.keys.map fun k => k.size)
 have h4 := own_eq j
 have h5 := JV.bytes_eq j
 omega⟩
theorem part_small {j x : JV} (hx : x ∈ j.items) (h1 : j.nodes ≤ 65536) (h2 : j.bytes ≤ 2097152) : x.nodes ≤ 65536 ∧ x.bytes ≤ 2097152 := by
 have h3 := sumN_mem (List.mem_map.2 ⟨x, hx, rfl⟩ : x.nodes ∈ j.items.map fun x => x.nodes)
 have h4 := sumN_mem (List.mem_map.2 ⟨x, hx, rfl⟩ : x.bytes ∈ j.items.map fun x => x.bytes)
 rw [JV.nodes_eq] at h1
 rw [JV.bytes_eq] at h2
 omega
def OSm (o : Option JV) : Prop := ∀ x, o = some x → x.nodes ≤ 65536 ∧ x.bytes ≤ 2097152
theorem mem2_small : ∀ {o : Option JV}, OOk o → OSm o → (mem2 o).1.length ≤ 65536 ∧ (∀ s ∈ (mem2 o).1, rightS s = true ∧ s.size ≤ 2097152) ∧ ∀ x ∈ (mem2 o).2, x.nodes ≤ 65536 ∧ x.bytes ≤ 2097152
 | none, _, _ => ⟨Nat.zero_le _, fun _ hs => absurd hs List.not_mem_nil, fun _ hx => absurd hx List.not_mem_nil⟩
 | some .null, _, _ => ⟨Nat.zero_le _, fun _ hs => absurd hs List.not_mem_nil, fun _ hx => absurd hx List.not_mem_nil⟩
 | some (.flag _), _, _ => ⟨Nat.zero_le _, fun _ hs => absurd hs List.not_mem_nil, fun _ hx => absurd hx List.not_mem_nil⟩
 | some (.num _), _, _ => ⟨Nat.zero_le _, fun _ hs => absurd hs List.not_mem_nil, fun _ hx => absurd hx List.not_mem_nil⟩
 | some (.text _), _, _ => ⟨Nat.zero_le _, fun _ hs => absurd hs List.not_mem_nil, fun _ hx => absurd hx List.not_mem_nil⟩
 | some (.list _), _, _ => ⟨Nat.zero_le _, fun _ hs => absurd hs List.not_mem_nil, fun _ hx => absurd hx List.not_mem_nil⟩
 | some (.obj ks l), h, h2 => ⟨keys_few (h2 _ rfl).1 (h _ rfl), fun _ hs => keys_short (h2 _ rfl).2 (h _ rfl) hs, fun _ hx => part_small (j := .obj ks l) hx (h2 _ rfl).1 (h2 _ rfl).2⟩
end Go.Json
namespace Go.Proofs.YtdmcioghdindfaaGreat
open Go Go.RowKit Go.Aff Go.Json
attribute [local go_sem] Oper.semAt_some
set_option maxHeartbeats 4000000 in
set_option maxRecDepth 100000 in
theorem rlay_leaf {D : Nat → Prop} (w : World) (v u : List Value) (p : JV) (o : Option JV) (h : RAt D w v p) (hs : p.sort ≠ 6) : Calls Tryz.prog 10 #[.agg v.toArray, .agg u.toArray] w (MadePost D w (p.lay o)) := by
 rw [lay_whole p o hs]
 have h := h.mono (C := fun i => D i ∧ i < w.heap.size) fun i h1 h2 => ⟨h1, h2⟩
 have hb1 := ((Blk.new w 29 v).alloc (.cells u.toArray 29)).alloc (.cells #[.int .i64 0, .bool false, .int .u64 0, .string .empty, .slice none 0 0, .slice none 0 0] 29)
 have hb3 := Blk.new ((w.alloc (.cells v.toArray 29)).alloc (.cells u.toArray 29)) 29 [.int .i64 0, .bool false, .int .u64 0, .string .empty, .slice none 0 0, .slice none 0 0]
 have hk3 := (((Keeps.refl (fun _ => False) w).alloc (.cells v.toArray 29)).alloc (.cells u.toArray 29)).alloc (.cells #[.int .i64 0, .bool false, .int .u64 0, .string .empty, .slice none 0 0, .slice none 0 0] 29)
 simp only [World.size_alloc] at hb3
 obtain ⟨z, hz⟩ : ∃ z, z = p.sort := ⟨_, rfl⟩
 have hne : (z != 6) = true := by rw [hz]; simpa using hs
 obtain ⟨b1, hq1⟩ : ∃ b, b = w.heap.size := ⟨_, rfl⟩
 obtain ⟨b3, hq3⟩ : ∃ b, b = w.heap.size + 1 + 1 := ⟨_, rfl⟩
 have HW3 := Lib.hid (And.intro hk3 (And.intro hb1 hb3))
 have HH := Lib.hid h
 have HSV := Lib.hid (infoV h.len)
 have HL : Hid (v.length = 6) := Lib.hid h.len
 have HZ := Lib.hid hz
 clear h hs hz hb1 hb3 hk3
 go_enter Tryz.func10, Tryz.ntmps10
 go_upto_region 1 with fail
 rw [← hq3, ← hq1] at HW3
 rw [← hq3, ← hq1]
 refine gen_codeF (fun W => Keeps (fun _ => False) w W ∧ Blk W b1 29 v ∧ Blk W b3 29 [.int .i64 0, .bool false, .int .u64 0, .string .empty, .slice none 0 0, .slice none 0 0]) HW3.out ?_
 rintro w1 ⟨k1, g1, g3⟩
 have c0 : w1.cell? ⟨b1, 0, none⟩ = some (.int .i64 z) := by
  obtain ⟨A', c', B', d', cs', hv', _⟩ := HH.out.form
  rw [g1.cell 0, hv', HZ.out]; rfl
 have H1 := Lib.hid (And.intro k1 (And.intro g1 (And.intro g3 hq3)))
 clear k1 g1 g3 hq1 hq3 HW3
 go_wp2_with (first
  | ((with_reducible show wpList _ _ _ (⟨some 13, _, _, _, _, _⟩ :: _) _ _); refine wpList_load_whole rfl 29 _ rfl _ rfl H1.out.2.1 Tryz.underlying29 rfl HSV.out ?_)
  | ((with_reducible show wpList _ _ _ (⟨none, Op.store _ _ _, _, _, _, _⟩ :: _) _ _); refine wpList_store_whole rfl 29 _ _ rfl v rfl rfl H1.out.2.2.1 (by rw [HL.out]; rfl) HSV.out HH.out.one ?_))
 refine bodyPost_ret (results_blk rfl _ _ rfl (H1.out.2.2.1.setRow _) Tryz.underlying29 rfl HSV.out) rfl ⟨_, rfl, ((HH.out.stay H1.out.1).keep (setRow_keep _ _ _) fun i hi e => by have := hi.2; have := H1.out.2.2.2; omega).mono fun i hi _ => .inl hi.1, H1.out.1.trans (setRow_keep _ _ _) fun i hi e => by have := H1.out.2.2.2; omega⟩
theorem rlay_any : ∀ (p : JV), JOk p → p.nodes ≤ 65536 → p.bytes ≤ 2097152 → ∀ (o : Option JV), OOk o → OSm o → ∀ (D : Nat → Prop) (w : World) (v u : List Value), RAt D w v p → ORAt D w u o → Calls Tryz.prog 10 #[.agg v.toArray, .agg u.toArray] w (MadePost D w (p.lay o)) := by
 refine JV.by_parts fun p ih hp hn hb o ho hob D w v u hv hu => ?_
 by_cases hs : p.sort = 6
 ·obtain ⟨ko, lo, rfl⟩ := JOk.obj_of hs
  have hm := mem2_ok ho
  have hm2 := mem2_small ho hob
  have hkf := keys_few hn hp
  refine (rlay_obj (D := fun i => D i ∧ i < w.heap.size) w v u ko lo o ⟨hv.mono fun i h1 h2 => ⟨h1, h2⟩, hu.mono fun i h1 h2 => ⟨h1, h2⟩, fun i h => h.2, hp, ho, by have h9 : (JV.obj ko lo).keys.length = ko.length := rfl; omega, fun s hs => ?_⟩ ?_).mono ?_
  ·rcases List.mem_append.1 hs with h | h
   ·exact ⟨(hm2.2.1 s h).1, Nat.le_trans (hm2.2.1 s h).2 (by decide)⟩
   ·have := keys_short hb hp (s := s) h
    exact ⟨this.1, Nat.le_trans this.2 (by decide)⟩
  ·intro y hy ou hou D' W t s ht hs'
   have hyp := part_small (j := .obj ko lo) hy hn hb
   exact ih y hy (hp.form.2.2.2.2.2 y hy) hyp.1 hyp.2 ou (fun x hx => hm.2.2.2 x (hou x hx)) (fun x hx => hm2.2.2 x (hou x hx)) D' W t s ht hs'
  ·rintro e w' ⟨v', he, hr, hk⟩
   exact ⟨v', he, hr.mono fun i hi _ => hi.imp (fun h => h.1) id, hk⟩
 ·exact rlay_leaf w v u p o hv hs
end Go.Proofs.YtdmcioghdindfaaGreat

set_option linter.unusedSimpArgs false
namespace Go.Proofs.YtdmcioghdindfaaGreat
open Go Go.RowKit Go.Aff Go.Json
def bulkTo (l : List StepV) (i : Nat) : Nat := sumN ((l.take i).map bulkS)
theorem bulkTo_next {l : List StepV} {i : Nat} {s : StepV} (h : l[i]? = some s) : bulkTo l (i + 1) = bulkTo l i + bulkS s := by
 unfold bulkTo
 rw [List.map_take, List.map_take]
 exact sumN_take (by rw [List.getElem?_map, h]; rfl)
theorem bulkTo_le {l : List StepV} (h : Modest l) (i : Nat) : bulkTo l i ≤ 1048576 := by
 unfold bulkTo
 rw [List.map_take]
 exact Nat.le_trans (sumN_pre _ i) h.all
set_option maxHeartbeats 4000000 in
set_option maxRecDepth 100000 in
theorem beyond_any (w : World) (A : Option Addr) (n c : Nat) (css : List (List Value)) (l : List StepV) (hS : StepsIn w A n css l) (hM : Modest l) :
  Calls Tryz.prog 5 #[.slice A n c] w fun e w' => e = .returned (.bool false) ∧ Keeps (fun _ => False) w w' := by
 have HS := Lib.hid hS
 have HM := Lib.hid hM
 have hn : n ≤ 1048576 := by rw [← hS.len]; exact hM.len
 clear hS hM
 go_enter Tryz.func5, Tryz.ntmps5
 go_wp2
 go_loopg [3, 4] n (fun gk y t wx => ∃ (i z : Nat), i ≤ n ∧ y = .int .i64 z ∧ t = .int .i64 i ∧ gk = n - i ∧ Hid (z = bulkTo l i) ∧ Hid (Keeps (fun _ => False) w wx))
 case atStart => exact ⟨0, 0, by omega, rfl, rfl, rfl, Lib.hid (by simp [bulkTo, sumN]), Lib.hid (Keeps.refl _ _)⟩
 case round =>
  obtain ⟨i, z, hin, rfl, rfl, hgk, HZ, HK⟩ := hrel
  have HGK := Lib.hid hgk
  clear hgk
  by_cases hlt : i < n
  ·have hI := HS.out.stay HK.out
   obtain ⟨s, hs⟩ : ∃ s, l[i]? = some s := ⟨_, List.getElem?_eq_getElem (by rw [hI.len]; exact hlt)⟩
   obtain ⟨B, d, hcs, hrk, _⟩ := hI.at_ i s hs
   obtain ⟨g, o, hA, hc⟩ := hI.rd.2 (by omega)
   subst hA
   have hrg := item_range hc hlt (fun c hc => (hI.six c hc).1) hcs
   obtain ⟨kl, hkl⟩ : ∃ kl, kl = s.keys.length := ⟨_, rfl⟩
   obtain ⟨tl, htl⟩ : ∃ tl, tl = s.text.size := ⟨_, rfl⟩
   have HX : Hid (∀ W, Keeps (fun _ => False) wr W → W.cell? ⟨g, o + i * 6 + 3, none⟩ = some (.string s.text) ∧ W.cell? ⟨g, o + i * 6 + 5, none⟩ = some (.slice B kl d)) := Lib.hid fun W hW => ⟨cell_keep hW (hrg 3 _ rfl), cell_keep hW (by rw [hkl]; exact hrg 5 _ rfl)⟩
   have HRK : Hid (Rd wr B kl (s.keys.map .string)) := Lib.hid (by rw [hkl]; exact hrk)
   have HNX : Hid (bulkTo l (i + 1) = z + (1 + tl + kl + byF s.keys) ∧ z + (1 + tl + kl + byF s.keys) ≤ 1048576) := Lib.hid (by
    have h1 := bulkTo_next hs
    have h2 := bulkTo_le HM.out (i + 1)
    rw [h1, ← HZ.out] at h2
    rw [h1, ← HZ.out]
    unfold bulkS at h2 ⊢
    rw [htl, hkl]
    exact ⟨rfl, h2⟩)
   have hbd : z + (1 + tl + kl) ≤ 1048576 := by have := HNX.out.2; omega
   have hw1 : IntKind.i64.wrap (1 + (tl : Int)) = 1 + (tl : Int) := IntWalk.i64_in _ (by omega)
   have hw2 : IntKind.i64.wrap (1 + (tl : Int) + (kl : Int)) = 1 + (tl : Int) + (kl : Int) := IntWalk.i64_in _ (by omega)
   have hw3 : IntKind.i64.wrap ((z : Int) + (1 + (tl : Int) + (kl : Int))) = ((z + (1 + tl + kl) : Nat) : Int) := by rw [IntWalk.i64_in _ (by omega)]; omega
   have hi0 : (0 : Int) ≤ (i : Int) := by omega
   have hiN : (i : Int) < (n : Int) := by omega
   have HKL := Lib.hid hkl
   have htl' := htl.symm
   clear hI hs hcs hc hrg hrk hkl htl
   go_upto_region 5 with fail
   refine wp_region_held_drew (S := Keeps (fun _ => False) wr) (by kernel_rfl) (Keeps.refl _ _).drew (fun hHeld => ?_)
   refine tH (i := 0) (oi := ⟨some 12, _, _, _, _, _⟩) (v := ?_) rfl (Or.inl ⟨by rfl, ?_⟩) hHeld ?_
   rotate_left
   ·intro w' hSw
    go_simp
    first | done | rfl
   try simp only [pu]
   refine tH (i := 1) (oi := ⟨some 13, _, _, _, _, _⟩) (v := ?_) rfl (Or.inl ⟨by rfl, ?_⟩) hHeld ?_
   rotate_left
   ·intro w' hSw
    go_simp
    first | done | rfl
   try simp only [pu]
   refine tH (i := 2) (oi := ⟨some 14, _, _, _, _, _⟩) (v := ?_) rfl (Or.inl ⟨by rfl, ?_⟩) hHeld ?_
   rotate_left
   ·intro w' hSw
    go_simp
    first | done | rfl
   try simp only [pu]
   refine tH (i := 3) (oi := ⟨some 15, _, _, _, _, _⟩) (v := ?_) rfl (Or.inl ⟨by rfl, ?_⟩) hHeld ?_
   rotate_left
   ·intro w' hSw
    go_simp
    first | done | rfl
   try simp only [pu]
   refine tH (i := 4) (oi := ⟨some 16, _, _, _, _, _⟩) (v := ?_) rfl (Or.inl ⟨by rfl, ?_⟩) hHeld ?_
   rotate_left
   ·intro w' hSw
    go_simp
    first | done | rfl
   try simp only [pu]
   refine tH (i := 5) (oi := ⟨some 17, _, _, _, _, _⟩) (v := ?_) rfl (Or.inl ⟨by rfl, ?_⟩) hHeld ?_
   rotate_left
   ·intro w' hSw
    have cv := (HX.out _ hSw).1
    go_simp
    first | done | rfl
   try simp only [pu]
   refine tH (i := 6) (oi := ⟨some 18, _, _, _, _, _⟩) (v := ?_) rfl (Or.inl ⟨by rfl, ?_⟩) hHeld ?_
   rotate_left
   ·intro w' hSw
    go_simp
    first | done | rfl
   try simp only [pu]
   refine tH (i := 7) (oi := ⟨some 19, _, _, _, _, _⟩) (v := ?_) rfl (Or.inl ⟨by rfl, ?_⟩) hHeld ?_
   rotate_left
   ·intro w' hSw
    go_simp
    first | done | rfl
   try simp only [pu]
   refine tH (i := 8) (oi := ⟨some 20, _, _, _, _, _⟩) (v := ?_) rfl (Or.inl ⟨by rfl, ?_⟩) hHeld ?_
   rotate_left
   ·intro w' hSw
    go_simp
    first | done | rfl
   try simp only [pu]
   refine tH (i := 9) (oi := ⟨some 21, _, _, _, _, _⟩) (v := ?_) rfl (Or.inl ⟨by rfl, ?_⟩) hHeld ?_
   rotate_left
   ·intro w' hSw
    go_simp
    first | done | rfl
   try simp only [pu]
   refine tH (i := 10) (oi := ⟨some 22, _, _, _, _, _⟩) (v := ?_) rfl (Or.inl ⟨by rfl, ?_⟩) hHeld ?_
   rotate_left
   ·intro w' hSw
    go_simp
    first | done | rfl
   try simp only [pu]
   refine tH (i := 11) (oi := ⟨some 23, _, _, _, _, _⟩) (v := ?_) rfl (Or.inl ⟨by rfl, ?_⟩) hHeld ?_
   rotate_left
   ·intro w' hSw
    go_simp
    first | done | rfl
   try simp only [pu]
   refine tH (i := 12) (oi := ⟨some 24, _, _, _, _, _⟩) (v := ?_) rfl (Or.inl ⟨by rfl, ?_⟩) hHeld ?_
   rotate_left
   ·intro w' hSw
    have cv := (HX.out _ hSw).2
    go_simp
    first | done | rfl
   try simp only [pu]
   refine tH (i := 13) (oi := ⟨some 25, _, _, _, _, _⟩) (v := ?_) rfl (Or.inl ⟨by rfl, ?_⟩) hHeld ?_
   rotate_left
   ·intro w' hSw
    go_simp
    first | done | rfl
   try simp only [pu]
   refine tH (i := 14) (oi := ⟨some 26, _, _, _, _, _⟩) (v := ?_) rfl (Or.inl ⟨by rfl, ?_⟩) hHeld ?_
   rotate_left
   ·intro w' hSw
    go_simp
    first | done | rfl
   try simp only [pu]
   refine tH (i := 15) (oi := ⟨some 27, _, _, _, _, _⟩) (v := ?_) rfl (Or.inl ⟨by rfl, ?_⟩) hHeld ?_
   rotate_left
   ·intro w' hSw
    go_simp
    first | done | rfl
   try simp only [pu]
   refine tH (i := 16) (oi := ⟨some 3, _, _, _, _, _⟩) (v := ?_) rfl (Or.inl ⟨by rfl, ?_⟩) hHeld ?_
   rotate_left
   ·intro w' hSw
    go_simp
    first | done | rfl
   try simp only [pu]
   refine wpAnyH_done (by kernel_rfl) ?_ _
   have HK5 := Lib.hid hHeld
   clear hHeld hw1 hw2 hw3 htl'
   obtain ⟨z5, hz5⟩ : ∃ z5, z5 = z + (1 + tl + kl) := ⟨_, rfl⟩
   have hzc : (z : Int) + (1 + (tl : Int) + (kl : Int)) = (z5 : Int) := by omega
   rw [hzc]
   have HZ5 := Lib.hid hz5
   clear hz5 hbd hzc
   go_upto_block 2 with fail
   go_wp2
   go_loopg [3, 5] kl (fun gk y t wx => ∃ (q v : Nat), q ≤ kl ∧ y = .int .i64 v ∧ t = .int .i64 q ∧ gk = kl - q ∧ Hid (v = z5 + byF (s.keys.take q)) ∧ Hid (Keeps (fun _ => False) wr wx))
   case atStart => exact ⟨0, z5, by omega, rfl, rfl, rfl, Lib.hid (by simp [byF, sumN]), HK5⟩
   case round =>
    obtain ⟨q, v, hqk, rfl, rfl, hgk2, HV, HKQ⟩ := hrel
    have HGK2 := Lib.hid hgk2
    clear hgk2
    have hvb : v ≤ 1048576 := by
     have h1 := HV.out
     have h2 := byF_le s.keys q
     have h3 := HNX.out.2
     have h4 := HZ5.out
     omega
    have hkb : kl ≤ 1048576 := by have := HNX.out.2; omega
    obtain ⟨x3, x5⟩ := HX.out _ HKQ.out
    have d1 : decide ((v : Int) < 2147483648) = true := decide_eq_true (by omega)
    by_cases hlq : q < kl
    ·obtain ⟨g3, o3, t, hB, hkt, hck⟩ := textAt (HRK.out.keep HKQ.out (fun _ _ _ h => h)) hlq
     subst hB
     obtain ⟨ts, hts⟩ : ∃ ts, ts = t.size := ⟨_, rfl⟩
     have hts' := hts.symm
     have HNV : Hid (v + ts = z5 + byF (s.keys.take (q + 1)) ∧ v + ts ≤ 1048576) := Lib.hid (by
      have h1 := byF_take hkt
      have h2 := byF_le s.keys (q + 1)
      have h3 := HNX.out.2
      have h4 := HZ5.out
      have h5 := HV.out
      rw [hts]
      exact ⟨by omega, by omega⟩)
     have hvt := HNV.out.2
     clear hkt hts
     go_wp2
     go_roundg (kl - (q + 1))
     case measure => rw [HGK2.out]; omega
     case rel => exact ⟨q + 1, v + ts, by omega, by go_num, by go_num, rfl, Lib.hid HNV.out.1, HKQ⟩
    ·obtain rfl : q = kl := by omega
     have d2 : decide ((2147483648 : Int) ≤ (v : Int)) = false := decide_eq_false (by omega)
     have HE : Hid (v = bulkTo l (i + 1)) := Lib.hid (by
      rw [HV.out, HNX.out.1, HZ5.out, List.take_of_length_le (by have := HKL.out; omega)]
      omega)
     go_wp2
     go_roundg (n - (i + 1))
     case measure => rw [HGK.out]; omega
     case rel => exact ⟨i + 1, v, by omega, rfl, by go_num, rfl, HE, Lib.hid (HK.out.trans HKQ.out (fun _ _ h => h))⟩
  ·obtain rfl : i = n := by omega
   go_wp2
   go_ret
   exact ⟨rfl, HK.out⟩
end Go.Proofs.YtdmcioghdindfaaGreat

set_option linter.unusedSimpArgs false
namespace Go.Proofs.YtdmcioghdindfaaGreat
open Go Go.RowKit Go.Aff Go.Json
attribute [local go_sem] Oper.semAt_some
def MadeAny (w : World) (A : Option Addr) (n c : Nat) (o : Bool) : Prop := ∀ W, Keeps (fun _ => False) w W → Calls Tryz.prog 6 #[.slice A n c] W fun e w' => ∃ t u0 u1 u2 u3 A4 m4 c4 A5 m5 c5, e = .returned (.tuple #[.pointer t, .agg #[.int .i64 u0, .bool u1, .int .u64 u2, .string u3, .slice A4 m4 c4, .slice A5 m5 c5], .bool o, .bool true]) ∧ Hid (Keeps (fun _ => False) w w')
theorem made_bad {w : World} {A : Option Addr} {n c : Nat} {css : List (List Value)} {l : List StepV} (hS : StepsIn w A n css l) (hM : Modest l) {er : Int × Option Nat} (hb : buildF l = .inl er) : MadeAny w A n c false := fun W hW => (lmade_any W A n c css l (hS.stay hW) hM).mono fun e w' h => by
  unfold LMadePost at h
  rw [hb] at h
  exact ⟨none, _, _, _, _, _, _, _, _, _, _, h.2, Lib.hid (hW.trans h.1 fun _ _ h => h)⟩
def MadeOne (w : World) (A : Option Addr) (n c : Nat) (j : JV) : Prop := ∀ W, Keeps (fun _ => False) w W → Calls Tryz.prog 6 #[.slice A n c] W fun e w' => ∃ q v u0 u1 u2 u3 A4 m4 c4 A5 m5 c5, e = .returned (.tuple #[.pointer (some ⟨q, 0, none⟩), .agg #[.int .i64 u0, .bool u1, .int .u64 u2, .string u3, .slice A4 m4 c4, .slice A5 m5 c5], .bool true, .bool true]) ∧ Hid (TreeAt (fun _ => True) w' q v j ∧ RAt (fun _ => True) w' [.int .i64 u0, .bool u1, .int .u64 u2, .string u3, .slice A4 m4 c4, .slice A5 m5 c5] j ∧ Keeps (fun _ => False) w w' ∧ Keeps (fun _ => False) W w')
theorem made_good {w : World} {A : Option Addr} {n c : Nat} {css : List (List Value)} {l : List StepV} (hS : StepsIn w A n css l) (hM : Modest l) {j : JV} (hb : buildF l = .inr j) : MadeOne w A n c j := fun W hW => (lmade_any W A n c css l (hS.stay hW) hM).mono fun e w' h => by
  unfold LMadePost at h
  rw [hb] at h
  obtain ⟨hk, q, v, rv, he, ht, hr⟩ := h
  obtain ⟨A4, c4, A5, c5, _, rfl, _⟩ := hr.form
  exact ⟨q, v, _, _, _, _, A4, _, c4, A5, _, c5, he, Lib.hid ⟨⟨trivial, ht.2.1, ht.2.2.mono fun _ _ _ => trivial⟩, hr.mono fun _ _ _ => trivial, hW.trans hk fun _ _ h => h, hk⟩⟩
theorem MadeOne.any {w : World} {A : Option Addr} {n c : Nat} {j : JV} (h : MadeOne w A n c j) : MadeAny w A n c true := fun W hW => (h W hW).mono fun e w' hh => by
  obtain ⟨q, v, u0, u1, u2, u3, A4, m4, c4, A5, m5, c5, he, hx⟩ := hh
  exact ⟨_, _, _, _, _, _, _, _, _, _, _, he, Lib.hid hx.out.2.2.1⟩
set_option maxHeartbeats 4000000 in
set_option maxRecDepth 100000 in
theorem lays_bad (w : World) (A : Option Addr) (n c : Nat) (B : Option Addr) (m d : Nat) (css dss : List (List Value)) (l k : List StepV) (hS : StepsIn w A n css l) (hM : Modest l) (hT : StepsIn w B m dss k) (hN : Modest k) (o1 o2 : Bool) (h1 : MadeAny w A n c o1) (h2 : MadeAny w B m d o2) (ho : (o1 && o2) = false) :
    Calls Tryz.prog 4 #[.slice A n c, .slice B m d] w fun e w' => e = .returned (.bool true) ∧ Keeps (fun _ => False) w w' := by
  have HB1 := Lib.hid (beyond_any w A n c css l hS hM)
  have HB2 : Hid (∀ W, Keeps (fun _ => False) w W → Calls Tryz.prog 5 #[.slice B m d] W fun e w' => e = .returned (.bool false) ∧ Keeps (fun _ => False) w w') := Lib.hid fun W hW => (beyond_any W B m d dss k (hT.stay hW) hN).mono fun e w' h => ⟨h.1, hW.trans h.2 fun _ _ h => h⟩
  have HM1 := Lib.hid h1
  have HM2 := Lib.hid h2
  unfold MadeAny at HM1 HM2
  clear hS hM hT hN h1 h2
  have tk : True := trivial
  have tm : True := trivial
  rcases o1 with _ | _ <;> rcases o2 with _ | _
  rotate_left 3
  · exact Bool.noConfusion ho
  all_goals
    (  clear ho
       go_enter Tryz.func4, Tryz.ntmps4
       go_wp2_with (first
         | (go_at_call 5; have _t := tk; clear tk; refine HB1.out.mono ?_; rintro e w1 ⟨rfl, hk1⟩; have HK1 := Lib.hid hk1; clear hk1)
         | (go_at_call 5; refine (HB2.out _ HK1.out).mono ?_; rintro e w2 ⟨rfl, hk2⟩; have HK2 := Lib.hid hk2; clear hk2)
         | (go_at_call 6; have _t := tm; clear tm; refine (HM1.out _ HK2.out).mono ?_; rintro e w3 ⟨t, u0, u1, u2, u3, A4, m4, c4, A5, m5, c5, rfl, HK3⟩; have hz := Blk.new w3 29 [.int .i64 0, .bool false, .int .u64 0, .string .empty, .slice none 0 0, .slice none 0 0]; have f0 := hz.frozen 0; have f1 := hz.frozen 1; have f2 := hz.frozen 2; have f3 := hz.frozen 3; have f4 := hz.frozen 4; have f5 := hz.frozen 5; clear hz)
         | (go_at_call 6; refine (HM2.out _ (HK3.out.alloc _)).mono ?_; rintro e w4 ⟨t', v0, v1, v2, v3, A6, m6, c6, A7, m7, c7, rfl, HK4⟩; have hz := Blk.new w4 29 [.int .i64 0, .bool false, .int .u64 0, .string .empty, .slice none 0 0, .slice none 0 0]; have g0 := hz.frozen 0; have g1 := hz.frozen 1; have g2 := hz.frozen 2; have g3 := hz.frozen 3; have g4 := hz.frozen 4; have g5 := hz.frozen 5; clear hz))
       go_ret
       exact ⟨rfl, HK4.out.alloc _⟩)
structure LaysSt (w W : World) (q : Nat) (v : Value) (j : JV) (q2 : Nat) (v2 : Value) (j2 : JV) (b6 b10 b13 : Nat) (S1 S2 R : List Value) (jl : JV) : Prop where
  keep : Keeps (fun _ => False) w W
  t1 : TreeAt (fun _ => True) W q v j
  t2 : TreeAt (fun _ => True) W q2 v2 j2
  r1 : RAt (fun _ => True) W S1 j
  r2 : RAt (fun _ => True) W S2 j2
  r3 : RAt (fun _ => True) W R jl
  k1 : Blk W b6 29 S1
  k2 : Blk W b10 29 S2
  k3 : Blk W b13 29 R
theorem TreeAt.true {D : Nat → Prop} {w : World} {q : Nat} {v : Value} {j : JV} (h : TreeAt D w q v j) : TreeAt (fun _ => True) w q v j := ⟨trivial, h.2.1, h.2.2.mono fun _ _ _ => trivial⟩
theorem LaysSt.stay {w W w' : World} {q : Nat} {v : Value} {j : JV} {q2 : Nat} {v2 : Value} {j2 : JV} {b6 b10 b13 : Nat} {S1 S2 R : List Value} {jl : JV} (h : LaysSt w W q v j q2 v2 j2 b6 b10 b13 S1 S2 R jl) (k : Keeps (fun _ => False) W w') : LaysSt w w' q v j q2 v2 j2 b6 b10 b13 S1 S2 R jl :=
  ⟨h.keep.trans k fun _ _ h => h, h.t1.stay k, h.t2.stay k, h.r1.stay k, h.r2.stay k, h.r3.stay k, k.blk h.k1 (fun h => h), k.blk h.k2 (fun h => h), k.blk h.k3 (fun h => h)⟩
theorem merge_law {w : World} {q q2 : Nat} {v v2 : Value} {j j2 : JV} (h : TreeAt (fun _ => True) w q v j) (h2 : TreeAt (fun _ => True) w q2 v2 j2) (hj : JOk j) (hj2 : JOk j2) (hw : j.within) (hw2 : j2.within) (jl : JV) (hl : jl = j2.lay (some j)) :
    Calls Tryz.prog 11 #[.pointer (some ⟨q, 0, none⟩), .pointer (some ⟨q2, 0, none⟩)] w fun e w' => ∃ p x, e = .returned (.tuple #[p, x]) ∧ ((∃ q u, p = .pointer (some ⟨q, 0, none⟩) ∧ x = .nilIface ∧ TreeAt (fun _ => True) w' q u jl ∧ jl.within) ∨ (p = .pointer none ∧ x = errE 3 ∧ ¬ jl.within)) ∧ Keeps (fun _ => False) w w' := by
  subst hl
  refine (merge_tree w q q2 v v2 j j2 h h2 hj hj2 hw hw2).mono ?_
  rintro e w' ⟨⟨q3, u, rfl, ht, hw⟩ | ⟨rfl, hw⟩, hk⟩
  · exact ⟨_, _, rfl, .inl ⟨q3, u, rfl, rfl, ht.true, hw⟩, hk⟩
  · exact ⟨_, _, rfl, .inr ⟨rfl, rfl, hw⟩, hk⟩
set_option maxHeartbeats 4000000 in
set_option maxRecDepth 100000 in
theorem lays_ok (w : World) (A : Option Addr) (n c : Nat) (B : Option Addr) (m d : Nat) (css dss : List (List Value)) (l k : List StepV) (hS : StepsIn w A n css l) (hM : Modest l) (hT : StepsIn w B m dss k) (hN : Modest k) (j j2 : JV) (h1 : MadeOne w A n c j) (h2 : MadeOne w B m d j2)
    (hj : JOk j) (hj2 : JOk j2) (hw : j.within) (hw2 : j2.within) :
    Calls Tryz.prog 4 #[.slice A n c, .slice B m d] w fun e w' => e = .returned (.bool true) ∧ Keeps (fun _ => False) w w' := by
  obtain ⟨jl, hjl⟩ : ∃ jl, jl = j2.lay (some j) := ⟨_, rfl⟩
  have hsm := lay_small hj2 hw2 hj hw
  have hlo : JOk jl := by rw [hjl]; exact lay_ok j2 hj2 _ (OOk.one hj)
  rw [← hjl] at hsm
  have hss : SmallJ jl := small_of (by omega) (by omega)
  have HB1 := Lib.hid (beyond_any w A n c css l hS hM)
  have HB2 : Hid (∀ W, Keeps (fun _ => False) w W → Calls Tryz.prog 5 #[.slice B m d] W fun e w' => e = .returned (.bool false) ∧ Keeps (fun _ => False) w w') := Lib.hid fun W hW => (beyond_any W B m d dss k (hT.stay hW) hN).mono fun e w' h => ⟨h.1, hW.trans h.2 fun _ _ h => h⟩
  have HM1 := Lib.hid h1
  have HM2 := Lib.hid h2
  unfold MadeOne at HM1 HM2
  have HLY : Hid (∀ W r1 r2, RAt (fun _ => True) W r2 j2 → RAt (fun _ => True) W r1 j → Calls Tryz.prog 10 #[.agg r2.toArray, .agg r1.toArray] W fun e w' => ∃ v', e = .returned (.agg v'.toArray) ∧ Hid (RAt (fun _ => True) w' v' jl ∧ Keeps (fun _ => False) W w')) := Lib.hid fun W r1 r2 hr2 hr1 => (rlay_any j2 hj2 hw2.1 hw2.2.1 (some j) (OOk.one hj) (fun x hx => by injection hx with hx; rw [← hx]; exact ⟨hw.1, hw.2.1⟩) _ W r2 r1 hr2 hr1).mono fun e w' hh => by
    obtain ⟨v', he, hr, hk⟩ := hh
    exact ⟨v', he, Lib.hid ⟨by rw [hjl]; exact hr.mono fun _ _ _ => trivial, hk⟩⟩
  have HJ := Lib.hid (And.intro hj (And.intro hj2 (And.intro hw (And.intro hw2 (And.intro hjl (And.intro hlo hss))))))
  have HL6 : Hid (∀ {v : List Value}, v.length = 6 → (Tryz.prog.info? 29).map (·.size) = some v.length) := Lib.hid fun h => infoVal6 h
  clear hS hM hT hN h1 h2 hj hj2 hw hw2 hjl hlo hss hsm
  have tk : True := trivial
  have tm : True := trivial
  go_enter Tryz.func4, Tryz.ntmps4
  go_upto_region 10 with (first
    | (go_at_call 5; have _t := tk; clear tk; refine HB1.out.mono ?_; rintro e w1 ⟨rfl, hk1⟩; have HK1 := Lib.hid hk1; clear hk1)
    | (go_at_call 5; refine (HB2.out _ HK1.out).mono ?_; rintro e w2 ⟨rfl, hk2⟩; have HK2 := Lib.hid hk2; clear hk2)
    | (go_at_call 6; have _t := tm; clear tm; refine (HM1.out _ HK2.out).mono ?_; rintro e w3 ⟨q, v, u0, u1, u2, u3, A4, m4, c4, A5, m5, c5, rfl, H3⟩; have hz := Blk.new w3 29 [.int .i64 0, .bool false, .int .u64 0, .string .empty, .slice none 0 0, .slice none 0 0]; have f0 := hz.frozen 0; have f1 := hz.frozen 1; have f2 := hz.frozen 2; have f3 := hz.frozen 3; have f4 := hz.frozen 4; have f5 := hz.frozen 5; clear hz)
    | (go_at_call 6; refine (HM2.out _ (H3.out.2.2.1.alloc _)).mono ?_; rintro e w4 ⟨q2, v2, x0, x1, x2, x3, A6, m6, c6, A7, m7, c7, rfl, H4⟩; have hz := Blk.new w4 29 [.int .i64 0, .bool false, .int .u64 0, .string .empty, .slice none 0 0, .slice none 0 0]; have g0 := hz.frozen 0; have g1 := hz.frozen 1; have g2 := hz.frozen 2; have g3 := hz.frozen 3; have g4 := hz.frozen 4; have g5 := hz.frozen 5; clear hz)
    | ((with_reducible show wpList _ _ _ (⟨some 56, _, _, _, _, _⟩ :: _) _ _); refine wpList_load_whole rfl 29 _ rfl _ rfl (Blk.new w4 29 [.int .i64 x0, .bool x1, .int .u64 x2, .string x3, .slice A6 m6 c6, .slice A7 m7 c7]) Tryz.underlying29 rfl (by kernel_rfl) ?_)
    | ((with_reducible show wpList _ _ _ (⟨some 57, _, _, _, _, _⟩ :: _) _ _); refine wpList_load_whole rfl 29 _ rfl _ rfl ((H4.out.2.2.2.blk (Blk.new w3 29 [.int .i64 u0, .bool u1, .int .u64 u2, .string u3, .slice A4 m4 c4, .slice A5 m5 c5]) (fun h => h)).alloc _) Tryz.underlying29 rfl (by kernel_rfl) ?_)
    | (go_at_call 10; refine (HLY.out _ [.int .i64 u0, .bool u1, .int .u64 u2, .string u3, .slice A4 m4 c4, .slice A5 m5 c5] [.int .i64 x0, .bool x1, .int .u64 x2, .string x3, .slice A6 m6 c6, .slice A7 m7 c7] (H4.out.2.1.stay ((Keeps.refl _ _).alloc _)) (((H3.out.2.1.stay ((Keeps.refl _ _).alloc _)).stay H4.out.2.2.2).stay ((Keeps.refl _ _).alloc _))).mono ?_; rintro e w5 ⟨R, rfl, H5⟩)
    | ((with_reducible show wpList _ _ _ (⟨none, Op.store 29 _ (.tmp 58), _, _, _, _⟩ :: _) _ _); refine wpList_store_whole rfl 29 _ _ rfl R rfl rfl (Blk.new w5 29 [.int .i64 0, .bool false, .int .u64 0, .string .empty, .slice none 0 0, .slice none 0 0]) (by rw [H5.out.1.len]; rfl) (HL6.out H5.out.1.len) H5.out.1.one ?_))
  obtain ⟨S1, hS1⟩ : ∃ S1 : List Value, S1 = [.int .i64 u0, .bool u1, .int .u64 u2, .string u3, .slice A4 m4 c4, .slice A5 m5 c5] := ⟨_, rfl⟩
  obtain ⟨S2, hS2⟩ : ∃ S2 : List Value, S2 = [.int .i64 x0, .bool x1, .int .u64 x2, .string x3, .slice A6 m6 c6, .slice A7 m7 c7] := ⟨_, rfl⟩
  obtain ⟨b6, hb6⟩ : ∃ b, b = w3.heap.size := ⟨_, rfl⟩
  obtain ⟨b10, hb10⟩ : ∃ b, b = w4.heap.size := ⟨_, rfl⟩
  obtain ⟨b13, hb13⟩ : ∃ b, b = w5.heap.size := ⟨_, rfl⟩
  have HST : Hid (LaysSt w ((w5.alloc (.cells #[.int .i64 0, .bool false, .int .u64 0, .string .empty, .slice none 0 0, .slice none 0 0] 29)).setRow b13 R.toArray) q v j q2 v2 j2 b6 b10 b13 S1 S2 R jl) := Lib.hid (by
    have kc : Keeps (fun _ => False) w5 ((w5.alloc (.cells #[.int .i64 0, .bool false, .int .u64 0, .string .empty, .slice none 0 0, .slice none 0 0] 29)).setRow b13 R.toArray) := ((Keeps.refl _ w5).alloc _).trans (setRow_keep _ _ _) fun i hi e => by omega
    have k45 : Keeps (fun _ => False) w4 w5 := ((Keeps.refl _ w4).alloc _).trans H5.out.2 fun _ _ h => h
    have k34 : Keeps (fun _ => False) w3 w4 := ((Keeps.refl _ w3).alloc _).trans H4.out.2.2.2 fun _ _ h => h
    have k4c := k45.trans kc fun _ _ h => h
    have k3c := k34.trans k4c fun _ _ h => h
    refine ⟨H3.out.2.2.1.trans k3c fun _ _ h => h, H3.out.1.stay k3c, H4.out.1.stay k4c, ?_, ?_, H5.out.1.stay kc, ?_, ?_, ?_⟩
    · rw [hS1]; exact H3.out.2.1.stay k3c
    · rw [hS2]; exact H4.out.2.1.stay k4c
    · rw [hb6, hS1]; exact ((H4.out.2.2.2.trans k4c fun _ _ h => h).blk (Blk.new w3 _ _) (fun h => h))
    · rw [hb10, hS2]; exact ((H5.out.2.trans kc fun _ _ h => h).blk (Blk.new w4 _ _) (fun h => h))
    · rw [hb13]; exact (Blk.new w5 _ _).setRow _)
  rw [← hb6, ← hb10, ← hb13]
  refine gen_codeF (fun W => LaysSt w W q v j q2 v2 j2 b6 b10 b13 S1 S2 R jl) HST.out ?_
  intro w9 hst
  have HS := Lib.hid hst
  clear hst HST hS1 hS2 hb6 hb10 hb13 HB1 HB2 HM1 HM2 HLY HK1 HK2 H3 H4 H5 f0 f1 f2 f3 f4 f5 g0 g1 g2 g3 g4 g5
  have HSR := Lib.hid (infoVal6 HS.out.r3.len)
  have HSV := Lib.hid (infoVal6 HS.out.r1.len)
  have HSW := Lib.hid (infoVal6 HS.out.r2.len)
  have HIS : Hid (∀ W q v rv x, Keeps (fun _ => False) w9 W → TreeAt (fun _ => True) W q v x → RAt (fun _ => True) W rv x → JOk x → x.within → Calls Tryz.prog 8 #[.pointer (some ⟨q, 0, none⟩), .agg rv.toArray] W fun e w' => e = .returned (.bool true) ∧ Hid (Keeps (fun _ => False) w9 w') ∧ Hid (Keeps (fun _ => False) W w')) := Lib.hid fun W q v rv x hW ht hr hx hw => (is_same W q v rv x ht hr hx (Nat.le_trans hw.1 (by decide))).mono fun e w' h => ⟨h.1, Lib.hid (hW.trans h.2 fun _ _ h => h), Lib.hid h.2⟩
  have HMG := Lib.hid (merge_law HS.out.t1 HS.out.t2 HJ.out.1 HJ.out.2.1 HJ.out.2.2.1 HJ.out.2.2.2.1 jl HJ.out.2.2.2.2.1)
  have tk : True := trivial
  by_cases hwl : jl.within
  · have HMG2 : Hid (Calls Tryz.prog 11 #[.pointer (some ⟨q, 0, none⟩), .pointer (some ⟨q2, 0, none⟩)] w9 fun e w' => ∃ q3 u3, e = .returned (.tuple #[.pointer (some ⟨q3, 0, none⟩), .nilIface]) ∧ Hid (TreeAt (fun _ => True) w' q3 u3 jl ∧ Keeps (fun _ => False) w9 w')) := Lib.hid (HMG.out.mono fun e w' h => by
      obtain ⟨p, x, he, ⟨q3, u3, rfl, rfl, ht, _⟩ | ⟨_, _, hw⟩, hk⟩ := h
      · exact ⟨q3, u3, he, Lib.hid ⟨ht, hk⟩⟩
      · exact absurd hwl hw)
    have HAN : Hid (∀ W q3 u3, Keeps (fun _ => False) w9 W → TreeAt (fun _ => True) W q3 u3 jl → Calls Tryz.prog 12 #[.pointer (some ⟨q3, 0, none⟩), .nilIface, .agg R.toArray] W fun e w' => e = .returned (.bool true) ∧ Hid (Keeps (fun _ => False) w9 w' ∧ Keeps (fun _ => False) W w')) := Lib.hid fun W q3 u3 hW ht => (answered_any W jl _ _ R (.inl ⟨q3, u3, rfl, rfl, ht, hwl⟩) (HS.out.r3.stay hW) HJ.out.2.2.2.2.2.1 HJ.out.2.2.2.2.2.2).mono fun e w' h => ⟨h.1, Lib.hid ⟨hW.trans h.2 fun _ _ h => h, h.2⟩⟩
    have HMA : Hid (∀ W q3 u3, Keeps (fun _ => False) w9 W → TreeAt (fun _ => True) W q3 u3 jl → Calls Tryz.prog 11 #[.pointer (some ⟨q3, 0, none⟩), .pointer (some ⟨q2, 0, none⟩)] W fun e w' => ∃ q4 u4, e = .returned (.tuple #[.pointer (some ⟨q4, 0, none⟩), .nilIface]) ∧ Hid (TreeAt (fun _ => True) w' q4 u4 jl ∧ Keeps (fun _ => False) w9 w')) := Lib.hid fun W q3 u3 hW ht => (merge_law ht (HS.out.t2.stay hW) HJ.out.2.2.2.2.2.1 HJ.out.2.1 hwl HJ.out.2.2.2.1 jl (by
      have := lay_again j2 HJ.out.2.1 (some j) (OOk.one HJ.out.1)
      rw [← HJ.out.2.2.2.2.1] at this
      exact this.symm)).mono fun e w' h => by
      obtain ⟨p, x, he, ⟨q4, u4, rfl, rfl, ht, _⟩ | ⟨_, _, hw⟩, hk⟩ := h
      · exact ⟨q4, u4, he, Lib.hid ⟨ht, hW.trans hk fun _ _ h => h⟩⟩
      · exact absurd hwl hw
    have hcw := clean_within HJ.out.2.2.1
    have HMS : Hid (∀ W, Keeps (fun _ => False) w9 W → Calls Tryz.prog 11 #[.pointer (some ⟨q, 0, none⟩), .pointer (some ⟨q, 0, none⟩)] W fun e w' => ∃ q5 u5, e = .returned (.tuple #[.pointer (some ⟨q5, 0, none⟩), .nilIface]) ∧ Hid (TreeAt (fun _ => True) w' q5 u5 j.clean ∧ Keeps (fun _ => False) w9 w' ∧ Keeps (fun _ => False) W w')) := Lib.hid fun W hW => (merge_law (HS.out.t1.stay hW) (HS.out.t1.stay hW) HJ.out.1 HJ.out.1 HJ.out.2.2.1 HJ.out.2.2.1 j.clean (lay_self j HJ.out.1).symm).mono fun e w' h => by
      obtain ⟨p, x, he, ⟨q5, u5, rfl, rfl, ht, _⟩ | ⟨_, _, hw⟩, hk⟩ := h
      · exact ⟨q5, u5, he, Lib.hid ⟨ht, hW.trans hk fun _ _ h => h, hk⟩⟩
      · exact absurd hcw hw
    have HCW := Lib.hid hcw
    have HWL := Lib.hid hwl
    have HRC : Hid (∀ W, Keeps (fun _ => False) w9 W → Calls Tryz.prog 9 #[.agg S1.toArray] W fun e w' => ∃ v', e = .returned (.agg v'.toArray) ∧ Hid (RAt (fun _ => True) w' v' j.clean ∧ Keeps (fun _ => False) W w' ∧ Keeps (fun _ => False) w9 w')) := Lib.hid fun W hW => (rclean_any W S1 j (HS.out.r1.stay hW) HJ.out.1 (Nat.le_trans HJ.out.2.2.1.1 (by decide))).mono fun e w' h => by
      obtain ⟨v', he, hr2, hk⟩ := h
      exact ⟨v', he, Lib.hid ⟨hr2.mono fun _ _ _ => trivial, hk, hW.trans hk fun _ _ h => h⟩⟩
    clear hcw hwl HMG
    have tq : True := trivial
    have ti : True := trivial
    have tj : True := trivial
    have tl : True := trivial
    go_wp2_with (first
      | (go_at_call 11; have _t := tk; clear tk; refine HMG2.out.mono ?_; rintro e wa ⟨q3, u3, rfl, HA⟩)
      | ((with_reducible show wpList _ _ _ (⟨some 67, _, _, _, _, _⟩ :: _) _ _); refine wpList_load_whole rfl 29 _ rfl _ rfl (HS.out.stay HA.out.2).k3 Tryz.underlying29 rfl HSR.out ?_)
      | (go_at_call 12; refine (HAN.out _ q3 u3 HA.out.2 HA.out.1).mono ?_; rintro e wb ⟨rfl, HB⟩; have HTB := Lib.hid (HA.out.1.stay HB.out.2))
      | ((with_reducible show wpList _ _ _ (⟨some 72, _, _, _, _, _⟩ :: _) _ _); refine wpList_load_whole_g (by kernel_rfl) 29 _ rfl _ rfl (HS.out.stay HB.out.1).k1 Tryz.underlying29 rfl HSV.out ?_)
      | (go_at_call 8; have _t := ti; clear ti; refine (HIS.out _ q v S1 j HB.out.1 (HS.out.stay HB.out.1).t1 (HS.out.stay HB.out.1).r1 HJ.out.1 HJ.out.2.2.1).mono ?_; rintro e wc ⟨rfl, HC, LC⟩; have HTC := Lib.hid (HTB.out.stay LC.out))
      | ((with_reducible show wpList _ _ _ (⟨some 78, _, _, _, _, _⟩ :: _) _ _); refine wpList_load_whole_g (by kernel_rfl) 29 _ rfl _ rfl (HS.out.stay HC.out).k2 Tryz.underlying29 rfl HSW.out ?_)
      | (go_at_call 8; have _t := tj; clear tj; refine (HIS.out _ q2 v2 S2 j2 HC.out (HS.out.stay HC.out).t2 (HS.out.stay HC.out).r2 HJ.out.2.1 HJ.out.2.2.2.1).mono ?_; rintro e wd ⟨rfl, HD, LD⟩)
      | (go_at_call 11; have _t := tq; clear tq; refine (HMA.out _ q3 u3 HD.out (HTC.out.stay LD.out)).mono ?_; rintro e we ⟨q4, u4, rfl, HE⟩)
      | (go_at_call 11; refine (HMS.out _ HE.out.2).mono ?_; rintro e wf ⟨q5, u5, rfl, HF⟩)
      | ((with_reducible show wpList _ _ _ (⟨some 100, _, _, _, _, _⟩ :: _) _ _); refine wpList_load_whole_g (by kernel_rfl) 29 _ rfl _ rfl (HS.out.stay HF.out.2.1).k3 Tryz.underlying29 rfl HSR.out ?_)
      | (go_at_call 8; have _t := tl; clear tl; refine (HIS.out _ q4 u4 R jl HF.out.2.1 (HE.out.1.stay HF.out.2.2) (HS.out.stay HF.out.2.1).r3 HJ.out.2.2.2.2.2.1 HWL.out).mono ?_; rintro e wg ⟨rfl, HG, LG⟩)
      | ((with_reducible show wpList _ _ _ (⟨some 109, _, _, _, _, _⟩ :: _) _ _); refine wpList_load_whole_g (by kernel_rfl) 29 _ rfl _ rfl (HS.out.stay HG.out).k1 Tryz.underlying29 rfl HSV.out ?_)
      | (go_at_call 9; refine (HRC.out _ HG.out).mono ?_; rintro e wh ⟨v', rfl, HH⟩)
      | (go_at_call 8; refine (HIS.out _ q5 u5 v' j.clean HH.out.2.2 ((HF.out.1.stay LG.out).stay HH.out.2.1) HH.out.1 (clean_ok HJ.out.1) HCW.out).mono ?_; rintro e wi ⟨rfl, HI, LI⟩))
    go_ret
    exact ⟨rfl, HS.out.keep.trans HI.out fun _ _ h => h⟩
  · have HMG2 : Hid (Calls Tryz.prog 11 #[.pointer (some ⟨q, 0, none⟩), .pointer (some ⟨q2, 0, none⟩)] w9 fun e w' => e = .returned (.tuple #[.pointer none, errE 3]) ∧ Hid (Keeps (fun _ => False) w9 w')) := Lib.hid (HMG.out.mono fun e w' h => by
      obtain ⟨p, x, he, ⟨q3, u3, rfl, rfl, ht, hw⟩ | ⟨rfl, rfl, hw⟩, hk⟩ := h
      · exact absurd hw hwl
      · exact ⟨he, Lib.hid hk⟩)
    have HAN : Hid (∀ W, Keeps (fun _ => False) w9 W → Calls Tryz.prog 12 #[.pointer none, errE 3, .agg R.toArray] W fun e w' => e = .returned (.bool true) ∧ Hid (Keeps (fun _ => False) w9 w')) := Lib.hid fun W hW => (answered_any (D := fun _ => True) W jl _ _ R (.inr ⟨rfl, rfl, hwl⟩) (HS.out.r3.stay hW) HJ.out.2.2.2.2.2.1 HJ.out.2.2.2.2.2.2).mono fun e w' h => ⟨h.1, Lib.hid (hW.trans h.2 fun _ _ h => h)⟩
    unfold errE at HMG2 HAN
    clear hwl HMG
    go_wp2_with (first
      | (go_at_call 11; refine HMG2.out.mono ?_; rintro e wa ⟨rfl, HA⟩)
      | ((with_reducible show wpList _ _ _ (⟨some 67, _, _, _, _, _⟩ :: _) _ _); refine wpList_load_whole rfl 29 _ rfl _ rfl (HS.out.stay HA.out).k3 Tryz.underlying29 rfl HSR.out ?_)
      | (go_at_call 12; refine (HAN.out _ HA.out).mono ?_; rintro e wb ⟨rfl, HB⟩)
      | ((with_reducible show wpList _ _ _ (⟨some 72, _, _, _, _, _⟩ :: _) _ _); refine wpList_load_whole_g (by kernel_rfl) 29 _ rfl _ rfl (HS.out.stay HB.out).k1 Tryz.underlying29 rfl HSV.out ?_)
      | (go_at_call 8; have _t := tk; clear tk; refine (HIS.out _ q v S1 j HB.out (HS.out.stay HB.out).t1 (HS.out.stay HB.out).r1 HJ.out.1 HJ.out.2.2.1).mono ?_; rintro e wc ⟨rfl, HC, LC⟩)
      | ((with_reducible show wpList _ _ _ (⟨some 78, _, _, _, _, _⟩ :: _) _ _); refine wpList_load_whole_g (by kernel_rfl) 29 _ rfl _ rfl (HS.out.stay HC.out).k2 Tryz.underlying29 rfl HSW.out ?_)
      | (go_at_call 8; refine (HIS.out _ q2 v2 S2 j2 HC.out (HS.out.stay HC.out).t2 (HS.out.stay HC.out).r2 HJ.out.2.1 HJ.out.2.2.2.1).mono ?_; rintro e wd ⟨rfl, HD, LD⟩))
    go_ret
    exact ⟨rfl, HS.out.keep.trans HD.out fun _ _ h => h⟩
theorem lays_any (w : World) (A : Option Addr) (n c : Nat) (B : Option Addr) (m d : Nat) (css dss : List (List Value)) (l k : List StepV) (hS : StepsIn w A n css l) (hM : Modest l) (hT : StepsIn w B m dss k) (hN : Modest k) :
    Calls Tryz.prog 4 #[.slice A n c, .slice B m d] w fun e w' => e = .returned (.bool true) ∧ Keeps (fun _ => False) w w' := by
  cases h1 : buildF l with
  | inl er =>
    cases h2 : buildF k with
    | inl er2 => exact lays_bad w A n c B m d css dss l k hS hM hT hN false false (made_bad hS hM h1) (made_bad hT hN h2) rfl
    | inr j2 => exact lays_bad w A n c B m d css dss l k hS hM hT hN false true (made_bad hS hM h1) (made_good hT hN h2).any rfl
  | inr j =>
    cases h2 : buildF k with
    | inl er2 => exact lays_bad w A n c B m d css dss l k hS hM hT hN true false (made_good hS hM h1).any (made_bad hT hN h2) rfl
    | inr j2 => exact lays_ok w A n c B m d css dss l k hS hM hT hN j j2 (made_good hS hM h1) (made_good hT hN h2) (buildF_ok h1).1 (buildF_ok h2).1 (buildF_ok h1).2 (buildF_ok h2).2
end Go.Proofs.YtdmcioghdindfaaGreat
