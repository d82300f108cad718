/- Texts. -/
import Derived.Test.YtdmcioghdindfaaGreatDoorT20
set_option linter.unusedSimpArgs false
set_option maxRecDepth 100000
set_option maxHeartbeats 4000000
namespace Go.Proofs.YtdmcioghdindfaaGreatDoor
open Go Go.RowKit Go.Aff Go.Json
def noneF (ps : List (Option Addr)) : Value := if ps.any (·.isNone) then errE 1 else .nilIface
theorem none_any (w : World) (A : Option Addr) (n c : Nat) (ps : List (Option Addr)) (hr : Rd w A n (ps.map .pointer)) (hn : n ≤ 1000000) :
  Calls Tryz.prog 27 #[.slice A n c] w fun e w' => e = .returned (noneF ps) ∧ w' = w := by
 have HL : Hid (ps.length = n) := H_ (by simpa using hr.1)
 have HR : Hid (∀ j, j < n → ∃ g o p, A = some ⟨g, o, none⟩ ∧ ps[j]? = some p ∧ w.cell? ⟨g, o + j, none⟩ = some (.pointer p)) := H_ fun j hj => by
  obtain ⟨g, o, e, hc⟩ := hr.2 (by omega)
  obtain ⟨p, hp⟩ : ∃ p, ps[j]? = some p := ⟨_, List.getElem?_eq_getElem (by have := HL.out; omega)⟩
  refine ⟨g, o, p, e, hp, ?_⟩
  rw [hc j hj, List.getElem?_map, hp]
  rfl
 clear hr
 go_enter Tryz.func27, Tryz.ntmps27
 go_upto_block 0 with fail
 go_wp2
 go_loopg [7] n (fun g2 i w3 => ∃ j, j ≤ n ∧ i = .int .i64 j ∧ g2 = n - j ∧ Hid (w3 = w ∧ (ps.take j).any (·.isNone) = false))
 case atStart => exact ⟨0, by omega, rfl, rfl, H_ ⟨rfl, by simp⟩⟩
 case round =>
  obtain ⟨j, hj, rfl, hg2, HA⟩ := hrel
  have HG2 := H_ hg2
  clear hg2
  obtain ⟨rfl, _⟩ := HA.out
  by_cases hlt : j < n
  ·obtain ⟨g, o, p, hA, hp, hcl⟩ := HR.out j hlt
   subst hA
   have HP := H_ hp
   clear hp
   cases p with
   | none =>
    have HN : Hid (noneF ps = errE 1) := H_ (by
     unfold noneF
     rw [if_pos]
     rw [List.any_eq_true]
     exact ⟨none, List.mem_of_getElem? HP.out, rfl⟩)
    go_wp2
    go_ret
    rw [HN.out]
    exact ⟨rfl, rfl⟩
   | some p =>
    have HT : Hid ((ps.take (j + 1)).any (·.isNone) = false) := H_ (by
     rw [List.take_add_one, HP.out, List.any_append, HA.out.2]
     rfl)
    go_wp2
    go_roundg (n - (j + 1))
    case measure => rw [HG2.out]; omega
    case rel => exact ⟨j + 1, by omega, by go_num, rfl, H_ ⟨rfl, HT.out⟩⟩
  obtain rfl : j = n := by omega
  have HN : Hid (noneF ps = .nilIface) := H_ (by
   unfold noneF
   have h := HA.out.2
   rw [List.take_of_length_le (by rw [HL.out]; exact Nat.le_refl _)] at h
   rw [h]
   rfl)
  go_wp2
  go_ret
  rw [HN.out]
  exact ⟨rfl, rfl⟩
theorem root_any (w : World) (q : Nat) (T : TypeId) (x : Value) (hb : Blk w q 110 [.iface T x]) :
  Calls Tryz.prog 38 #[.pointer (some ⟨q, 0, none⟩)] w fun e w' => e = .returned (.agg #[.iface T x]) ∧ Keeps (fun _ => False) w w' := by
 have hb1 := hb.alloc (.cells #[.nilIface] 81)
 have c0 := hb1.cell 0
 have f0 := (Blk.new w 81 [.nilIface]).frozen 0
 have HR := H_ (Blk.new w 81 [.iface T x])
 have HK := H_ ((Keeps.refl (fun _ => False) w).alloc (.cells #[.iface T x] 81))
 clear hb hb1
 go_enter Tryz.func38, Tryz.ntmps38
 go_wp2
 exact bodyPost_ret (results_blk rfl _ _ rfl HR.out Tryz.underlying81 rfl (by kernel_rfl)) rfl ⟨rfl, HK.out⟩
theorem refsteps_any {D : Nat → Prop} (w : World) (v : Value) (j : JV) (hj : JAt D w v j) (hok : JOk j) (hn : j.nodes ≤ 1099511627776) :
  Calls Tryz.prog 71 #[.agg #[v]] w (StepsPost 53 (fun i => w.heap.size ≤ i) w j.steps) := by
 obtain ⟨T, y, hv⟩ := hj.iface
 subst hv
 have c0 := (Blk.new w 81 [.iface T y]).cell 0
 have hk : Keeps (fun _ => False) w (w.alloc (.cells #[.iface T y] 81)) := (Keeps.refl (fun _ => False) w).alloc _
 have HC : Hid (Calls Tryz.prog 110 #[.slice none 0 0, .iface T y] (w.alloc (.cells #[.iface T y] 81)) (StepsPost 53 (fun i => w.heap.size ≤ i) w j.steps)) := H_ (by
  refine (nsteps_any _ j hok (.iface T y) (hj.stay hk) _ none 0 0 [] [] (RowSt.nil _) (by omega)).mono ?_
  rintro e w' ⟨A', c', ttt, rfl, h1, h2, h3⟩
  rw [Nat.zero_add] at h1 ⊢
  rw [List.nil_append, List.nil_append] at h1
  exact ⟨A', c', ttt, rfl, ⟨h1.own.1, hk.trans h1.own.2.1 (fun _ _ h => h), fun g hg => Nat.le_trans hk.size (h1.own.2.2 g hg)⟩, h1.lst.mono fun i hi => Nat.le_trans hk.size hi.1⟩)
 unfold StepsPost at HC
 clear hj hk hok hn
 go_enter Tryz.func71, Tryz.ntmps71
 go_wp2_with (go_at_call 110; refine HC.out.mono ?_; rintro e w2 ⟨A2, c2, sss, rfl, hm2⟩; have HM2 := H_ hm2; clear hm2)
 go_ret
 exact ⟨A2, c2, sss, rfl, HM2.out⟩
theorem tsteps_any {D : Nat → Prop} (w : World) (q : Nat) (v : Value) (j : JV) (ht : TreeAt D w q v j) (hok : JOk j) (hn : j.nodes ≤ 1099511627776) :
  Calls Tryz.prog 43 #[.pointer (some ⟨q, 0, none⟩)] w (StepsPost 53 (fun i => w.heap.size ≤ i) w j.steps) := by
 obtain ⟨T, y, hv⟩ := ht.2.2.iface
 subst hv
 have HRT := H_ (root_any w q T y ht.2.1)
 have HC : Hid (∀ W, Keeps (fun _ => False) w W → Calls Tryz.prog 71 #[.agg #[.iface T y]] W (StepsPost 53 (fun i => w.heap.size ≤ i) w j.steps)) := H_ fun W hW => by
  refine (refsteps_any W (.iface T y) j (ht.2.2.stay hW) hok hn).mono ?_
  rintro e w' ⟨A', c', sss, rfl, h1, h2⟩
  exact ⟨A', c', sss, rfl, ⟨h1.1, hW.trans h1.2.1 (fun _ _ h => h), fun g hg => Nat.le_trans hW.size (h1.2.2 g hg)⟩, h2.mono fun i hi => Nat.le_trans hW.size hi⟩
 unfold StepsPost at HC
 clear ht hok hn
 go_enter Tryz.func43, Tryz.ntmps43
 go_wp2_with (first
  | (go_at_call 38; refine HRT.out.mono ?_; rintro e w1 ⟨rfl, hk1⟩; have HK1 := H_ hk1; clear hk1)
  | (go_at_call 71; refine (HC.out _ HK1.out).mono ?_; rintro e w2 ⟨A2, c2, sss, rfl, hm2⟩; have HM2 := H_ hm2; clear hm2))
 go_ret
 exact ⟨A2, c2, sss, rfl, HM2.out⟩
end Go.Proofs.YtdmcioghdindfaaGreatDoor
namespace Go.Aff
open Go Go.RowKit
theorem step_store_whole {P : Program} {Q : Exit → Act → World → Prop} {K : Act → World → Prop} {ops : Array Oper} {a : Act} {w : World} {o : Oper} (hgd : o.guard = none) (ty : TypeId) (x v : Operand) (ho : o.op = .store ty x v)
  {g : Nat} {t : TypeId} {cs : List Value} (vs : List Value) (hx : a.eval x = .pointer (some ⟨g, 0, none⟩)) (hv : a.eval v = .agg vs.toArray) (hg : Blk w g t cs) (hl : cs.length = vs.length) (hi : (P.info? ty).map (·.size) = some vs.length) (h1 : ∀ v ∈ vs, v.oneCell' = true)
  (h : K (a.put o.dst undef) (w.setRow g vs.toArray)) : if Region.wanted o (yielded ops a.tmps) = true then Oper.wp P o a w K Q else K (a.put o.dst undef) w := by
 have hw : Region.wanted o (yielded ops a.tmps) = true := by simp [Region.wanted, hgd]
 rw [if_pos hw]
 unfold Oper.wp execOp
 simp only [ho, hx, hv, Instr.storeAt, Instr.sureAddr, Sem.run_bind, Sem.run_pure, Result.andThen_ok, run_storeVar_at ty 0 vs hg (by omega) hi h1]
 rw [splice_all _ _ hl]
 exact h
theorem setRow_keep (w : World) (p : Nat) (cs : Array Value) : Keeps (fun i => i = p) w (w.setRow p cs) := (Keeps.refl (fun i => i = p) w).setRow (.inl rfl) cs
end Go.Aff
namespace Go.Proofs.YtdmcioghdindfaaGreatDoor
open Go Go.RowKit Go.Aff Go.Json
theorem step_range {T : TypeId} {w0 w : World} {A : Option Addr} {n c : Nat} {sss : List (List Value)} {D : Nat → Prop} {l : List StepV} {i : Nat} (hm : MineS 6 w0 w T A n c sss.flatten) (hs : SList D w sss l) (hi : i < n) (hl : l.length = n) :
  ∃ g o s B d, A = some ⟨g, o, none⟩ ∧ l[i]? = some s ∧ w.rangeAt g (o + i * 6) (stepV s B d) ∧ Rd w B s.keys.length (s.keys.map .string) := by
 obtain ⟨g, o, e, hc⟩ := (MineS.rdS hm).2 (by omega)
 obtain ⟨s, hsl⟩ : ∃ s, l[i]? = some s := ⟨_, List.getElem?_eq_getElem (by omega)⟩
 obtain ⟨cs, hcs⟩ : ∃ cs, sss[i]? = some cs := ⟨_, List.getElem?_eq_getElem (by rw [hs.1]; omega)⟩
 obtain ⟨B, d, e2, hr⟩ := hs.2 i cs s hcs hsl
 refine ⟨g, o, s, B, d, e, hsl, ?_, hr.1⟩
 rw [← e2]
 exact item_range hc hi hs.six hcs
theorem steps_keys {j : JV} (h : JOk j) : ∀ s ∈ j.steps, s.keys.length ≤ j.nodes := by
 induction h with
 | mk j h1 h2 hp hr ht h ih =>
  intro s hs
  rw [JV.steps_eq] at hs
  rcases List.mem_append.1 hs with hs | hs
  ·obtain ⟨l, hl, hs⟩ := List.mem_flatten.1 hs
   obtain ⟨x, hx, rfl⟩ := List.mem_map.1 hl
   exact Nat.le_trans (ih x hx s hs) (item_nodes hx)
  rw [List.mem_singleton.1 hs, last_keys]
  have := items_nodes j
  omega
structure TwoSt (w W : World) (p8 p9 : Nat) (SC SD : List Value) : Prop where
 keep : Keeps (fun _ => False) w W
 b8 : Blk W p8 53 SC
 b9 : Blk W p9 65 SD
theorem is_same {D E : Nat → Prop} (w : World) (q : Nat) (v : Value) (rv : List Value) (j : JV) (ht : TreeAt D w q v j) (hr : RAt E w rv j) (hok : JOk j) (hn : j.nodes ≤ 1099511627776) :
  Calls Tryz.prog 13 #[.pointer (some ⟨q, 0, none⟩), .agg rv.toArray] w fun e w' => e = .returned (.bool true) ∧ Keeps (fun _ => False) w w' := by
 have HB0 := H_ (Boxed.made w 31 rv)
 have HSI : Hid ((Tryz.prog.info? 31).map (·.size) = some rv.length) := H_ (by rw [hr.len]; kernel_rfl)
 obtain ⟨n, hnn⟩ : ∃ n, n = j.steps.length := ⟨_, rfl⟩
 have HN : Hid (n = j.steps.length ∧ n ≤ 1099511627776) := H_ ⟨hnn, by rw [hnn, steps_len]; exact hn⟩
 have HSK : Hid (∀ s ∈ j.steps, s.keys.length ≤ 1099511627776) := H_ fun s hs => Nat.le_trans (steps_keys hok s hs) hn
 have HC1 : Hid (∀ W, Keeps (fun _ => False) w W → Calls Tryz.prog 43 #[.pointer (some ⟨q, 0, none⟩)] W fun e w' => ∃ A c sss, e = .returned (.slice A n c) ∧ Hid (MineS 6 W w' 53 A n c sss.flatten ∧ ∃ D, SList D w' sss j.steps)) := H_ fun W hW => by
  refine (tsteps_any W q v j (ht.stay hW) hok hn).mono ?_
  rintro e w' ⟨A, c, sss, he, h1, h2⟩
  rw [← hnn] at he h1
  exact ⟨A, c, sss, he, H_ ⟨h1, _, h2⟩⟩
 have HC2 : Hid (∀ W, Keeps (fun _ => False) w W → Calls Tryz.prog 44 #[.agg rv.toArray] W fun e w' => ∃ A c sss, e = .returned (.slice A n c) ∧ Hid (MineS 6 W w' 65 A n c sss.flatten ∧ ∃ D, SList D w' sss j.steps)) := H_ fun W hW => by
  refine (rsteps_any W rv j (hr.stay hW) hn).mono ?_
  rintro e w' ⟨A, c, sss, he, h1, h2⟩
  rw [← hnn] at he h1
  exact ⟨A, c, sss, he, H_ ⟨h1, _, h2⟩⟩
 clear ht hr hok hn hnn
 go_enter Tryz.func13, Tryz.ntmps13
 go_upto_region 3 with fail
 obtain ⟨b, hb⟩ : ∃ b, b = w.heap.size := ⟨_, rfl⟩
 rw [← hb] at HB0 ⊢
 refine gen_codeF (fun W => Boxed w W b 31 rv) HB0.out ?_
 intro w1 hb1
 have HB1 := H_ hb1
 clear hb1 HB0 hb
 refine wp_region_held_drew (S := fun W => Boxed w W b 31 rv) (by kernel_rfl) (HB1.out.stay (Keeps.refl _ _).drew) (fun h_ => ?_)
 refine tI 0 13 h_ ?_
 try simp only [pu]
 refine tI 2 15 h_ ?_ (hy := (yieldsIf_load_mid (by rfl) _ _ rfl _ _ rfl rv _ (fun w' h => blk_range h.blk) Tryz.underlying31 rfl HSI.out))
 try simp only [pu]
 refine rH 1 (some 14) fun K hK => ?_
 go_simp
 refine (HC1.out _ h_.keep).mono ?_
 rintro e w2 ⟨A1, c1, sss1, rfl, HM1⟩
 have hqq := h_.stay HM1.out.1.2.1
 refine hK.out _ _ hqq (fun h_ => ?_)
 clear hK K
 try simp only [pu]
 refine rH 3 (some 16) fun K hK => ?_
 go_simp
 refine (HC2.out _ h_.keep).mono ?_
 rintro e w3 ⟨A2, c2, sss2, rfl, HM2⟩
 have hqq2 := h_.stay HM2.out.1.2.1
 refine hK.out _ _ hqq2 (fun h_ => ?_)
 clear hK K
 try simp only [pu]
 refine tI 4 5 h_ ?_
 try simp only [pu]
 refine tI 5 6 h_ ?_
 try simp only [pu]
 refine wpAnyH_done (by kernel_rfl) ?_ _
 have HK3 := H_ h_.keep
 have HM3 : Hid (MineS 6 w w3 53 A1 n c1 sss1.flatten ∧ ∃ D, SList D w3 sss1 j.steps) := H_ (by
  obtain ⟨h1, D, h2⟩ := HM1.out
  have hk := HM2.out.1.2.1
  exact ⟨⟨hk.own h1.1 (fun _ _ h => h), h_.keep, fun g hg => Nat.le_trans HB1.out.keep.size (h1.2.2 g hg)⟩, D, h2.stay hk⟩)
 clear h_ HM1 hqq hqq2 HC1 HC2 HB1
 go_upto_block 0 with fail
 go_wp2
 go_loopg [7] n (fun gk t wx => ∃ (i : Nat), i ≤ n ∧ t = .int .i64 i ∧ gk = n - i ∧ Hid (Keeps (fun _ => False) w3 wx))
 case atStart => exact ⟨0, by omega, rfl, rfl, H_ (Keeps.refl _ _)⟩
 case round =>
  obtain ⟨i, hin, rfl, hgk, HKX⟩ := hrel
  have HGK := H_ hgk
  clear hgk
  by_cases hlt : i < n
  ·have HST : Hid (∀ W, Keeps (fun _ => False) w3 W → ∃ g o s B d g2 o2 B2 d2, A1 = some ⟨g, o, none⟩ ∧ A2 = some ⟨g2, o2, none⟩ ∧ j.steps[i]? = some s ∧ W.rangeAt g (o + i * 6) (stepV s B d) ∧ Rd W B s.keys.length (s.keys.map .string) ∧ W.rangeAt g2 (o2 + i * 6) (stepV s B2 d2) ∧ Rd W B2 s.keys.length (s.keys.map .string)) := H_ fun W hW => by
    obtain ⟨h1, D1, s1⟩ := HM3.out
    obtain ⟨h2, D2, s2⟩ := HM2.out
    obtain ⟨g, o, s, B, d, e1, e2, e3, e4⟩ := step_range (h1.keep hW) (s1.stay hW) hlt HN.out.1.symm
    obtain ⟨g2, o2, s', B2, d2, f1, f2, f3, f4⟩ := step_range (h2.keep hW) (s2.stay hW) hlt HN.out.1.symm
    rw [e2] at f2
    injection f2 with f2
    subst f2
    exact ⟨g, o, s, B, d, g2, o2, B2, d2, e1, f1, e2, e3, e4, f3, f4⟩
   obtain ⟨g, o, s, B, d, g2, o2, B2, d2, hA1, hA2, hsi, hc1, hk1, hc2, hk2⟩ := HST.out wr HKX.out
   subst hA1 hA2
   have hkb := HSK.out s (List.mem_of_getElem? hsi)
   have hnb := HN.out.2
   clear hsi
   obtain ⟨SC, hSC⟩ : ∃ SC, SC = stepV s B d := ⟨_, rfl⟩
   obtain ⟨SD, hSD⟩ : ∃ SD, SD = stepV s B2 d2 := ⟨_, rfl⟩
   rw [← hSC] at hc1
   rw [← hSD] at hc2
   have HCC := H_ (And.intro hc1 hc2)
   have HKK := H_ (And.intro hk1 hk2)
   have HSC := H_ hSC
   have HSD := H_ hSD
   have HSL : Hid (SC.length = 6 ∧ SD.length = 6) := H_ (by rw [hSC, hSD]; exact ⟨rfl, rfl⟩)
   have HI8 : Hid ((Tryz.prog.info? 53).map (·.size) = some SC.length) := H_ (by rw [HSL.out.1]; kernel_rfl)
   have HI9 : Hid ((Tryz.prog.info? 65).map (·.size) = some SD.length) := H_ (by rw [HSL.out.2]; kernel_rfl)
   have HSO : Hid ((∀ u ∈ SC, u.oneCell' = true) ∧ ∀ u ∈ SD, u.oneCell' = true) := H_ (by rw [hSC, hSD]; exact ⟨stepV_one _ _ _, stepV_one _ _ _⟩)
   have hi0 : (0 : Int) ≤ (i : Int) := by omega
   have hiN : (i : Int) < (n : Int) := by omega
   clear hc1 hc2 hk1 hk2 hSC hSD
   go_upto_region 9 with fail
   go_cut [8, 9] (fun t u wx => ∃ p8 p9 : Nat, t = .pointer (some ⟨p8, 0, none⟩) ∧ u = .pointer (some ⟨p9, 0, none⟩) ∧ Hid (TwoSt wr wx p8 p9 SC SD))
   case first =>
    refine wp_region_held_drew (S := Keeps (fun _ => False) wr) (by kernel_rfl) (Keeps.refl _ _).drew (fun h_ => ?_)
    refine tI 0 28 h_ ?_
    try simp only [pu]
    refine tI 1 29 h_ ?_
    try simp only [pu]
    refine tI 2 30 h_ ?_
    try simp only [pu]
    refine tI 3 31 h_ ?_ (hy := (yieldsIf_load_mid (by rfl) _ _ rfl _ _ rfl SC _ (fun w' h => fun j v hv => cell_keep h (HCC.out.1 j v hv)) Tryz.underlying53 rfl HI8.out))
    try simp only [pu]
    refine tI 4 32 h_ ?_
    try simp only [pu]
    refine tI 5 33 h_ ?_
    try simp only [pu]
    refine tI 6 34 h_ ?_
    try simp only [pu]
    refine tI 7 35 h_ ?_ (hy := (yieldsIf_load_mid (by rfl) _ _ rfl _ _ rfl SD _ (fun w' h => fun j v hv => cell_keep h (HCC.out.2 j v hv)) Tryz.underlying65 rfl HI9.out))
    try simp only [pu]
    refine wpAnyH_ready (rs := [8, 9]) (by kernel_rfl) (by simp) ?_
    refine (AllReadyH.cons (o := ⟨some 8, _, _, _, _, _⟩) rfl (fun K hK => ?_) (AllReadyH.cons (o := ⟨some 9, _, _, _, _, _⟩) rfl (fun K hK => ?_) AllReadyH.nil))
    ·go_simp
     refine gen_KA (fun V => Keeps (fun _ => False) wr.drew V ∧ Blk V wr.drew.heap.size 53 [Value.int .i64 0, .bool false, .int .u64 0, .string .empty, .int .i64 0, .slice none 0 0]) ⟨(Keeps.refl _ _).alloc _, Blk.new _ _ _⟩ ?_
     rintro v8 ⟨k8, b88⟩
     have lo88 := h_.size
     have h8 := h_.trans k8 (fun _ _ h => h)
     refine hK.out _ _ h8 (fun h_ => ?_)
     clear hK K
     try simp only [pu]
     refine rH 9 (some 9) fun K hK => ?_
     go_simp
     refine gen_KA (fun V => Keeps (fun _ => False) v8 V ∧ Blk V v8.heap.size 65 [Value.int .i64 0, .bool false, .int .u64 0, .string .empty, .int .i64 0, .slice none 0 0]) ⟨(Keeps.refl _ _).alloc _, Blk.new _ _ _⟩ ?_
     rintro v8_9 ⟨k8_9, b98_9⟩
     have b88_9 := k8_9.blk b88 (fun h => h)
     have lo98_9 := h_.size
     have h8_9 := h_.trans k8_9 (fun _ _ h => h)
     refine hK.out _ _ h8_9 (fun h_ => ?_)
     clear hK K
     try simp only [pu]
     refine rH 10 none fun K hK => ?_
     skip
     refine step_store_whole rfl 53 (.tmp 8) (.tmp 31) rfl SC rfl rfl b88_9 (by rw [HSL.out.1]; rfl) HI8.out HSO.out.1 ?_
     refine gen_KA (fun V => Keeps (fun i => i = wr.drew.heap.size) v8_9 V ∧ Blk V wr.drew.heap.size 53 SC) ⟨setRow_keep _ _ _, b88_9.setRow _⟩ ?_
     rintro v8_9_10 ⟨k8_9_10, b88_9_10⟩
     have ne8_9_10 : v8.heap.size ≠ wr.drew.heap.size := by
      have h1 := b88.lt
      omega
     have b98_9_10 := k8_9_10.blk b98_9 ne8_9_10
     have h8_9_10 := h_.trans k8_9_10 (fun i hi e => by have h2 := lo88; omega)
     refine hK.out _ _ h8_9_10 (fun h_ => ?_)
     clear hK K
     try simp only [pu]
     refine rH 11 none fun K hK => ?_
     skip
     refine step_store_whole rfl 65 (.tmp 9) (.tmp 35) rfl SD rfl rfl b98_9_10 (by rw [HSL.out.2]; rfl) HI9.out HSO.out.2 ?_
     refine gen_KA (fun V => Keeps (fun i => i = v8.heap.size) v8_9_10 V ∧ Blk V v8.heap.size 65 SD) ⟨setRow_keep _ _ _, b98_9_10.setRow _⟩ ?_
     rintro v8_9_10_11 ⟨k8_9_10_11, b98_9_10_11⟩
     have ne8_9_10_11 : wr.drew.heap.size ≠ v8.heap.size := by
      have h1 := b88.lt
      omega
     have b88_9_10_11 := k8_9_10_11.blk b88_9_10 ne8_9_10_11
     have h8_9_10_11 := h_.trans k8_9_10_11 (fun i hi e => by have h2 := lo98_9; omega)
     refine hK.out _ _ h8_9_10_11 (fun h_ => ?_)
     clear hK K
     try simp only [pu]
     refine wpAnyH_done (by kernel_rfl) ?_ _
     go_wp2
     go_meet
     exact ⟨_, _, rfl, rfl, H_ ⟨h_, b88_9_10_11, b98_9_10_11⟩⟩
    go_simp
    refine gen_KA (fun V => Keeps (fun _ => False) wr.drew V ∧ Blk V wr.drew.heap.size 65 [Value.int .i64 0, .bool false, .int .u64 0, .string .empty, .int .i64 0, .slice none 0 0]) ⟨(Keeps.refl _ _).alloc _, Blk.new _ _ _⟩ ?_
    rintro v9 ⟨k9, b99⟩
    have lo99 := h_.size
    have h9 := h_.trans k9 (fun _ _ h => h)
    refine hK.out _ _ h9 (fun h_ => ?_)
    clear hK K
    try simp only [pu]
    refine rH 8 (some 8) fun K hK => ?_
    go_simp
    refine gen_KA (fun V => Keeps (fun _ => False) v9 V ∧ Blk V v9.heap.size 53 [Value.int .i64 0, .bool false, .int .u64 0, .string .empty, .int .i64 0, .slice none 0 0]) ⟨(Keeps.refl _ _).alloc _, Blk.new _ _ _⟩ ?_
    rintro v9_8 ⟨k9_8, b89_8⟩
    have b99_8 := k9_8.blk b99 (fun h => h)
    have lo89_8 := h_.size
    have h9_8 := h_.trans k9_8 (fun _ _ h => h)
    refine hK.out _ _ h9_8 (fun h_ => ?_)
    clear hK K
    try simp only [pu]
    refine rH 10 none fun K hK => ?_
    skip
    refine step_store_whole rfl 53 (.tmp 8) (.tmp 31) rfl SC rfl rfl b89_8 (by rw [HSL.out.1]; rfl) HI8.out HSO.out.1 ?_
    refine gen_KA (fun V => Keeps (fun i => i = v9.heap.size) v9_8 V ∧ Blk V v9.heap.size 53 SC) ⟨setRow_keep _ _ _, b89_8.setRow _⟩ ?_
    rintro v9_8_10 ⟨k9_8_10, b89_8_10⟩
    have ne9_8_10 : wr.drew.heap.size ≠ v9.heap.size := by
     have h1 := b99.lt
     omega
    have b99_8_10 := k9_8_10.blk b99_8 ne9_8_10
    have h9_8_10 := h_.trans k9_8_10 (fun i hi e => by have h2 := lo89_8; omega)
    refine hK.out _ _ h9_8_10 (fun h_ => ?_)
    clear hK K
    try simp only [pu]
    refine rH 11 none fun K hK => ?_
    skip
    refine step_store_whole rfl 65 (.tmp 9) (.tmp 35) rfl SD rfl rfl b99_8_10 (by rw [HSL.out.2]; rfl) HI9.out HSO.out.2 ?_
    refine gen_KA (fun V => Keeps (fun i => i = wr.drew.heap.size) v9_8_10 V ∧ Blk V wr.drew.heap.size 65 SD) ⟨setRow_keep _ _ _, b99_8_10.setRow _⟩ ?_
    rintro v9_8_10_11 ⟨k9_8_10_11, b99_8_10_11⟩
    have ne9_8_10_11 : v9.heap.size ≠ wr.drew.heap.size := by
     have h1 := b99.lt
     omega
    have b89_8_10_11 := k9_8_10_11.blk b89_8_10 ne9_8_10_11
    have h9_8_10_11 := h_.trans k9_8_10_11 (fun i hi e => by have h2 := lo99; omega)
    refine hK.out _ _ h9_8_10_11 (fun h_ => ?_)
    clear hK K
    try simp only [pu]
    refine wpAnyH_done (by kernel_rfl) ?_ _
    go_wp2
    go_meet
    exact ⟨_, _, rfl, rfl, H_ ⟨h_, b89_8_10_11, b99_8_10_11⟩⟩
   case rest =>
    obtain ⟨p8, p9, rfl, rfl, HT9⟩ := hcut
    have HKC : Hid (Keeps (fun _ => False) wr wc) := H_ HT9.out.keep
    have HCE : Hid (∀ W, Keeps (fun _ => False) wc W → (W.cell? ⟨p8, 5, none⟩ = some (.slice B s.keys.length d) ∧ W.cell? ⟨p9, 5, none⟩ = some (.slice B2 s.keys.length d2)) ∧ Rd W B s.keys.length (s.keys.map .string) ∧ Rd W B2 s.keys.length (s.keys.map .string)) := H_ fun W hW => by
     have b8 := hW.blk HT9.out.b8 (fun h => h)
     have b9 := hW.blk HT9.out.b9 (fun h => h)
     rw [HSC.out] at b8
     rw [HSD.out] at b9
     exact ⟨⟨b8.cell 5, b9.cell 5⟩, HKK.out.1.keep (HT9.out.keep.trans hW (fun _ _ h => h)) (fun _ _ _ h => h), HKK.out.2.keep (HT9.out.keep.trans hW (fun _ _ h => h)) (fun _ _ _ h => h)⟩
    have b8 := HT9.out.b8
    have b9 := HT9.out.b9
    rw [HSC.out] at b8
    rw [HSD.out] at b9
    obtain ⟨x0, x1, x2, x3, x4, x5⟩ : StepCells wc p8 SC s B d := ⟨b8.cell 0, b8.cell 1, b8.cell 2, b8.cell 3, b8.cell 4, b8.cell 5⟩
    obtain ⟨y0, y1, y2, y3, y4, y5⟩ : StepCells wc p9 SD s B2 d2 := ⟨b9.cell 0, b9.cell 1, b9.cell 2, b9.cell 3, b9.cell 4, b9.cell 5⟩
    clear b8 b9 HT9
    go_upto_block 2 with fail
    go_wp2
    clear x0 x1 x2 x3 x4 x5 y0 y1 y2 y3 y4 y5
    go_loopg [10] s.keys.length (fun gk t wx => ∃ (k : Nat), k ≤ s.keys.length ∧ t = .int .i64 k ∧ gk = s.keys.length - k ∧ Hid (Keeps (fun _ => False) wc wx))
    case atStart => exact ⟨0, by omega, rfl, rfl, H_ (Keeps.refl _ _)⟩
    case round =>
     obtain ⟨k, hkn, rfl, hgk2, HKZ⟩ := hrel
     have HGK2 := H_ hgk2
     clear hgk2
     obtain ⟨⟨x5, y5⟩, hr1, hr2⟩ := HCE.out _ HKZ.out
     by_cases hlk : k < s.keys.length
     ·obtain ⟨g3, o3, t, hB, hkt, hck⟩ := textAt hr1 hlk
      obtain ⟨g4, o4, t', hB2, hkt', hck'⟩ := textAt hr2 hlk
      rw [hkt] at hkt'
      injection hkt' with hkt'
      subst hkt' hB hB2
      have HT3 := H_ (And.intro (And.intro x5 y5) (And.intro hck hck'))
      have hk0 : (0 : Int) ≤ (k : Int) := by omega
      have hkN : (k : Int) < (s.keys.length : Int) := by omega
      have hcmp : (t.toList == t.toList) = true := beq_self_eq_true _
      clear hr1 hr2 hkt hck hck'
      go_upto_region 15 with fail
      refine wp_region_held_drew (S := Keeps (fun _ => False) wr) (by kernel_rfl) (Keeps.refl _ _).drew (fun h_ => ?_)
      refine tI 0 85 h_ ?_
      try simp only [pu]
      refine tI 1 86 h_ ?_ (hy := .inl ⟨by rfl, by intro w' hSw; have cv := cell_keep hSw HT3.out.1.1; go_simp; first | done | rfl⟩)
      try simp only [pu]
      refine tI 2 87 h_ ?_
      try simp only [pu]
      refine tI 3 88 h_ ?_
      try simp only [pu]
      refine tI 4 89 h_ ?_ (hy := .inl ⟨by rfl, by intro w' hSw; have cv := cell_keep hSw HT3.out.2.1; go_simp; first | done | rfl⟩)
      try simp only [pu]
      refine tI 5 90 h_ ?_
      try simp only [pu]
      refine tI 6 91 h_ ?_ (hy := .inl ⟨by rfl, by intro w' hSw; have cv := cell_keep hSw HT3.out.1.2; go_simp; first | done | rfl⟩)
      try simp only [pu]
      refine tI 7 92 h_ ?_
      try simp only [pu]
      refine tI 8 93 h_ ?_
      try simp only [pu]
      refine tI 9 94 h_ ?_ (hy := .inl ⟨by rfl, by intro w' hSw; have cv := cell_keep hSw HT3.out.2.2; go_simp; first | done | rfl⟩)
      try simp only [pu]
      refine tI 10 95 h_ ?_
      try simp only [pu]
      refine wpAnyH_done (by kernel_rfl) ?_ _
      have HK9 := H_ h_
      clear h_ x5 y5
      go_wp2
      go_roundg (s.keys.length - (k + 1))
      case measure => rw [HGK2.out]; omega
      case rel => exact ⟨k + 1, by omega, by go_num, rfl, H_ (HKZ.out.trans HK9.out (fun _ _ h => h))⟩
     have hke : (k : Int) = (s.keys.length : Int) := by omega
     have HKE := H_ hke
     have hkd : decide (k < s.keys.length) = false := decide_eq_false hlk
     clear hr1 hr2 hke
     go_wp2
     go_roundg (n - (i + 1))
     case measure => rw [HGK.out]; omega
     case rel => exact ⟨i + 1, by omega, by go_num, rfl, H_ ((HKX.out.trans HKC.out (fun _ _ h => h)).trans HKZ.out (fun _ _ h => h))⟩
  obtain rfl : i = n := by omega
  go_wp2
  go_ret
  exact ⟨rfl, HK3.out.trans HKX.out (fun _ _ h => h)⟩
end Go.Proofs.YtdmcioghdindfaaGreatDoor
namespace Go.Json
theorem item_within {j x : JV} (h : x ∈ j.items) (hw : j.within) : x.within := by
 have h1 := sumN_mem (List.mem_map.2 ⟨x, h, rfl⟩ : x.nodes ∈ j.items.map fun x => x.nodes)
 have h2 := sumN_mem (List.mem_map.2 ⟨x, h, rfl⟩ : x.bytes ∈ j.items.map fun x => x.bytes)
 have h3 := maxN_mem (List.mem_map.2 ⟨x, h, rfl⟩ : x.deep ∈ j.items.map fun x => x.deep)
 unfold JV.within at hw ⊢
 rw [JV.nodes_eq j, JV.bytes_eq j, JV.deep_eq j] at hw
 omega
theorem mkObj_self {ks : List ByteArray} {l : List JV} (h : JOk (.obj ks l)) : mkObj ks l = .obj ks l := by
 have hf := h.form
 have hl : ks.length = l.length := hf.2.1 rfl
 have hz1 : (ks.zip l).map (·.1) = ks := by rw [List.map_fst_zip (by omega)]
 have hz2 : (ks.zip l).map (·.2) = l := by rw [List.map_snd_zip (by omega)]
 have hp : ((ks.zip l).map (·.1)).Pairwise ltS := by rw [hz1]; exact hf.2.2.1
 unfold mkObj
 rw [sortM_of_rising (List.pairwise_map.1 hp), hz1, hz2]
def objS (ks : List ByteArray) : StepV := ⟨6, false, 0, .empty, 0, ks⟩
theorem objS_used (ks : List ByteArray) : usedF (objS ks) = true := by simp [usedF, objS]
theorem rising_nodup {ks : List ByteArray} (h : ks.Pairwise ltS) : ks.Nodup := h.imp fun {a b} h1 (e : a = b) => by rw [e] at h1; exact ltS_irrefl b h1
theorem right_none : rightS ByteArray.empty = true := by decide
theorem doF_members {P l : List JV} {ks : List ByteArray} (hj : JOk (.obj ks l)) : doF (P ++ l) (objS ks) = if (JV.obj ks l).within then .inr (P ++ [.obj ks l]) else .inl 3 := by
 have hf := hj.form
 have hl : ks.length = l.length := hf.2.1 rfl
 have hr : ks.all rightS = true := List.all_eq_true.2 hf.2.2.2.1
 have hd : (P ++ l).drop ((P ++ l).length - ks.length) = l := by
  rw [List.length_append, hl, Nat.add_sub_cancel, List.drop_left]
 have ht : (P ++ l).take ((P ++ l).length - ks.length) = P := by
  rw [List.length_append, hl, Nat.add_sub_cancel, List.take_left]
 have hm : mkV (objS ks) l = .obj ks l := by
  rw [show mkV (objS ks) l = mkObj ks l from rfl, mkObj_self hj]
 unfold doF
 rw [if_neg (by rw [objS_used]; simp), if_neg (by show ¬ ((6 : Int) = 3 ∧ _); simp), if_neg (by show ¬ (rightS ByteArray.empty = false ∨ ks.all rightS = false); rw [hr, right_none]; simp), if_neg (by show ¬ ¬ ks.Nodup; exact fun h => h (rising_nodup hf.2.2.1)),
  if_neg (by show ¬ (P ++ l).length < 0 + ks.length; rw [List.length_append]; omega)]
 have hz : (objS ks).count.toNat + (objS ks).keys.length = ks.length := by show 0 + ks.length = _; omega
 rw [hz, hd, ht, hm]
 by_cases hw : (JV.obj ks l).within
 ·rw [if_pos hw, if_neg (by exact fun h => h hw)]
 rw [if_neg hw, if_pos hw]
end Go.Json
