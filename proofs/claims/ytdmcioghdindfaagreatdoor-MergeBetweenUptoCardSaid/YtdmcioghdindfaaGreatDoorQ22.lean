/-
  Texts put together: NStepsW; NNameW; NTreeW; StoK; IsW.
-/
import Derived.Test.YtdmcioghdindfaaGreatDoorQ21
import Derived.Test.YtdmcioghdindfaaGreatDoorQ05
import Derived.Deep.LoopGhost
import Derived.Deep.CutRange
import Derived.Deep.CutBlock
import Derived.Deep.OwnRows
import Derived.Deep.RegionHeld3
import Derived.Stop.Asserts
import Derived.Laws.Pointers
import Derived.Test.YtdmcioghdindfaaGreatDoorQ03
set_option linter.unusedSimpArgs false
set_option maxRecDepth 100000
set_option maxHeartbeats 4000000
namespace Go.Proofs.YtdmcioghdindfaaGreatDoor
open Go Go.RowKit Go.Aff Go.Json
theorem infoStepA : (Tryz.prog.info? 53).map (fun i => (i.zero, i.size, i.bytes)) = some (some (.agg #[.int .i64 0, .bool false, .int .u64 0, .string .empty, .int .i64 0, .slice none 0 0]), 6, 72) := by kernel_rfl
theorem infoStepA2 : (Tryz.prog.info? 53).map (fun i => (i.zero, i.size)) = some (some (.agg #[.int .i64 0, .bool false, .int .u64 0, .string .empty, .int .i64 0, .slice none 0 0]), 6) := by kernel_rfl
theorem flat_cons6 {sss : List (List Value)} {SC : List Value} : (sss ++ [SC]).flatten = sss.flatten ++ SC := by rw [List.flatten_append]; simp
theorem SList.monoW {D C : Nat → Prop} {w : World} {sss : List (List Value)} {l : List StepV} (h : SList D w sss l) (hC : ∀ i, D i → i < w.heap.size → C i) : SList C w sss l := ⟨h.1, fun i cs s h1 h2 => by
 obtain ⟨B, d, e, hr, hB⟩ := h.2 i cs s h1 h2
 exact ⟨B, d, e, hr, Rd.inB hr hB hC⟩⟩
structure RowSt (w0 w : World) (A : Option Addr) (q c : Nat) (sss : List (List Value)) (l : List StepV) : Prop where
 own : MineS 6 w0 w 53 A q c sss.flatten
 lst : SList (Br w0 (.slice A q c)) w sss l
 len : l.length = q
section
variable {w0 w w' : World} {A : Option Addr} {q c : Nat} {sss : List (List Value)} {l : List StepV}
theorem RowSt.nil (w : World) : RowSt w w none 0 0 [] [] := ⟨MineS.nil 6 w _, SList.nil _ w, rfl⟩
theorem RowSt.stay (h : RowSt w0 w A q c sss l) (hk : Keeps (fun _ => False) w w') : RowSt w0 w' A q c sss l := ⟨h.own.keep hk, h.lst.stay hk, h.len⟩
theorem RowSt.grown (h : RowSt w0 w A q c sss l) {W : World} (hW : Keeps (fun _ => False) w W) {A' : Option Addr} {c' : Nat} {s : StepV} {B : Option Addr} {d : Nat}
  (ho : w'.ownsRow 0 53 6 (.slice A' (q + 1) c') (q + 1) (sss.flatten ++ stepV s B d)) (hg : W.grownBy w' (Value.slice A q c).ownBlock)
  (hb : (Value.slice A' (q + 1) c').ownBlock = (Value.slice A q c).ownBlock ∨ (Value.slice A' (q + 1) c').ownBlock = some W.heap.size)
  (hr : Rd w B s.keys.length (s.keys.map .string)) (hB : InB (Br w0 (.slice A q c)) B s.keys.length) : RowSt w0 w' A' (q + 1) c' (sss ++ [stepV s B d]) (l ++ [s]) := by
 refine ⟨?_, ?_, by rw [List.length_append, h.len]; rfl⟩
 ·rw [flat_cons6]
  exact (h.own.keep hW).grown ho hg hb
 ·have hall : Keeps (fun i => (Value.slice A q c).ownBlock = some i) w w' := (hW.mono (fun _ _ h => h.elim)).trans (Keeps.of_grown hg) (fun i _ e => e)
  have hlst : SList (Br w0 (.slice A q c)) w (sss ++ [stepV s B d]) (l ++ [s]) := h.lst.app (SList.one hr hB)
  refine ((hlst.monoW (C := fun i => Br w0 (.slice A q c) i ∧ i < w.heap.size) fun i hi hlt => ⟨hi, hlt⟩).keep hall fun i hi e => hi.1.2 e).mono fun i hi => ⟨hi.1.1, fun e => ?_⟩
  rcases hb with e1 | e1
  ·rw [e1] at e; exact hi.1.2 e
  ·rw [e1] at e
   injection e with e
   have := hW.size
   have := hi.2
   omega
end
def NStPost (w0 w : World) (A : Option Addr) (q c : Nat) (sss : List (List Value)) (l ls : List StepV) (e : Ending) (w' : World) : Prop :=
 ∃ A' c' ttt, e = .returned (.slice A' (q + ls.length) c') ∧ RowSt w0 w' A' (q + ls.length) c' (sss ++ ttt) (l ++ ls) ∧ Keeps (fun i => (Value.slice A q c).ownBlock = some i) w w' ∧
  ∀ g, (Value.slice A' (q + ls.length) c').ownBlock = some g → (Value.slice A q c).ownBlock = some g ∨ w.heap.size ≤ g
def SwR (j : JV) (p : Nat) (w wx : World) : Prop := ∃ B d, Keeps (fun _ => False) w wx ∧ Blk wx p 53 (stepV j.last B d) ∧ Rd wx B j.keys.length (j.keys.map .string) ∧ InB (fun i => w.heap.size ≤ i) B j.keys.length
structure StL (w0 w w5 wx : World) (A : Option Addr) (q c : Nat) (A1 : Option Addr) (q1 c1 : Nat) (sss : List (List Value)) (l : List StepV) : Prop where
 row : RowSt w0 wx A1 q1 c1 sss l
 keep : Keeps (fun i => (Value.slice A q c).ownBlock = some i) w5 wx
 old : ∀ g, (Value.slice A1 q1 c1).ownBlock = some g → (Value.slice A q c).ownBlock = some g ∨ w5.heap.size ≤ g
theorem SwR.leaf {j : JV} {p : Nat} {w wx : World} (hk : Keeps (fun _ => False) w wx) (hb : Blk wx p 53 (stepV j.last none 0)) (h : j.keys = []) : SwR j p w wx :=
 ⟨none, 0, hk, hb, by rw [h]; exact Rd.nil _ _, by rw [h]; exact InB.zero _ _⟩
theorem nsteps_one {D : Nat → Prop} (w0 : World) (v : Value) (j : JV) (hj : JAt D w0 v j) (hok : JOk j) (w : World) (A : Option Addr) (q c : Nat) (sss : List (List Value)) (l : List StepV) (h : RowSt w0 w A q c sss l) (hq : q + j.nodes ≤ 1099511627776)
  (ih : ∀ x, x ∈ j.items → ∀ (u : Value), JAt D w0 u x → ∀ (w : World) (A : Option Addr) (q c : Nat) (sss : List (List Value)) (l : List StepV), RowSt w0 w A q c sss l → q + x.nodes ≤ 1099511627776 → Calls Tryz.prog 110 #[.slice A q c, u] w (NStPost w0 w A q c sss l x.steps)) :
  Calls Tryz.prog 110 #[.slice A q c, v] w (NStPost w0 w A q c sss l j.steps) := by
 obtain ⟨T, y, f, u, hv, hm, he, hc⟩ := sort_inv hj
 have hmw := hm w
 have HC := Lib.hid (hc w)
 unfold Ent at he
 have HJ := Lib.hid hj
 have HOK := Lib.hid hok
 have HST := Lib.hid h
 have HIH := Lib.hid ih
 have HIT := Lib.hid (items_inv hj)
 have HQ := Lib.hid hq
 have HV := Lib.hid hv
 obtain ⟨so, hso⟩ : ∃ so, so = j.sort := ⟨_, rfl⟩
 rw [← hso] at HC
 have HSO := Lib.hid hso
 subst hv
 clear hj hok h hq ih hm hc hso
 go_enter Tryz.func110, Tryz.ntmps110
 go_upto_block 0 with (go_at_fn f; refine HC.out.mono ?_; rintro e w2 ⟨rfl, hk2⟩; have HK2 := Lib.hid hk2; have hz := Blk.new w2 53 [.int .i64 0, .bool false, .int .u64 0, .string .empty, .int .i64 0, .slice none 0 0]; have f0 := hz.frozen 0; have f1 := hz.frozen 1; have f2 := hz.frozen 2; have f3 := hz.frozen 3; have f4 := hz.frozen 4; have f5 := hz.frozen 5; clear hk2 hz)
 obtain ⟨p, hp⟩ : ∃ p, p = w2.heap.size := ⟨_, rfl⟩
 rw [← hp]
 refine gen_codeF (fun W => Keeps (fun _ => False) w W ∧ Blk W p 53 [.int .i64 so, .bool false, .int .u64 0, .string .empty, .int .i64 0, .slice none 0 0]) (by rw [hp]; exact ⟨HK2.out.alloc _, Blk.new w2 _ _⟩) ?_
 rintro w3 ⟨hk3, hb3⟩
 have HK3 := Lib.hid hk3
 have HB3 := Lib.hid hb3
 have HP : Hid (w.heap.size ≤ p) := Lib.hid (by rw [hp]; exact HK2.out.size)
 have e0 := hb3.cell 0
 have e1 := hb3.cell 1
 have e2 := hb3.cell 2
 have e3 := hb3.cell 3
 have e4 := hb3.cell 4
 have e5 := hb3.cell 5
 have g0 := hb3.frozen 0
 have g1 := hb3.frozen 1
 have g2 := hb3.frozen 2
 have g3 := hb3.frozen 3
 have g4 := hb3.frozen 4
 have g5 := hb3.frozen 5
 clear f0 f1 f2 f3 f4 f5 hk3 hb3 hp hmw he HC
 go_cut [5] (fun t wx => t = .pointer (some ⟨p, 0, none⟩) ∧ Hid (SwR j p w wx))
 case first =>
  have hsw : Hid (w0.heap.size ≤ w.heap.size) := Lib.hid HST.out.own.2.1.size
  have HKS : Hid (∀ i v, Keeps (fun _ => False) w (w3.setCell ⟨p, i, none⟩ v)) := Lib.hid fun i v => HK3.out.setCell (p := ⟨p, i, none⟩) (.inr HP.out) v
  have hj := HJ.out
  cases hj with
  | null =>
   have hs := HSO.out
   subst hs
   have a1 := as_null_flag
   have a2 := as_null_num
   have a3 := as_null_text
   have a4 := as_null_list
   have a5 := as_null_obj
   go_wp2
   go_meet
   exact ⟨rfl, Lib.hid (SwR.leaf HK3.out HB3.out rfl)⟩
  | flag b =>
   have hs := HSO.out
   subst hs
   have a1 := as_flag_flag
   go_wp2
   go_meet
   exact ⟨rfl, Lib.hid (SwR.leaf (HKS.out 1 (.bool b)) (HB3.out.set_ 1 (.bool b)) rfl)⟩
  | num b =>
   have hs := HSO.out
   subst hs
   have a1 := as_num_flag
   have a2 := as_num_num
   have hbo := bitsof b
   go_wp2
   go_meet
   exact ⟨rfl, Lib.hid (SwR.leaf (HKS.out 2 (.int .u64 b)) (HB3.out.set_ 2 (.int .u64 b)) rfl)⟩
  | text t =>
   have hs := HSO.out
   subst hs
   have a1 := as_text_flag
   have a2 := as_text_num
   have a3 := as_text_text
   go_wp2
   go_meet
   exact ⟨rfl, Lib.hid (SwR.leaf (HKS.out 3 (.string t)) (HB3.out.set_ 3 (.string t)) rfl)⟩
  | @list bb Al cl vs ls hD hbl hr ho hl =>
   have hs := HSO.out
   subst hs
   have hbW := (HST.out.own.2.1.trans HK3.out (fun _ _ h => h)).blk hbl (fun h => h)
   have d3 : w3.cell? ⟨bb, 3, none⟩ = some (.slice Al ls.length cl) := hbW.cell 3
   obtain ⟨n, hn⟩ : ∃ n, n = ls.length := ⟨_, rfl⟩
   rw [← hn] at d3
   have HN := Lib.hid hn
   have a1 := as_list_flag
   have a2 := as_list_num
   have a3 := as_list_text
   have a4 := as_list_list
   clear hD hbl hr ho hl hbW hn
   go_wp2
   go_meet
   exact ⟨rfl, Lib.hid (SwR.leaf (HKS.out 4 (.int .i64 n)) (by
    have := HB3.out.set_ 4 (.int .i64 n)
    rw [HN.out] at this ⊢
    exact this) rfl)⟩
  | @obj bb Al Bl cl dl vs ks ls hD hbl hk hok2 hr ho hl =>
   have hs := HSO.out
   subst hs
   have hw03 := HST.out.own.2.1.trans HK3.out (fun _ _ h => h)
   have hbW := hw03.blk hbl (fun h => h)
   have d3 : w3.cell? ⟨bb, 3, none⟩ = some (.slice Bl ks.length dl) := hbW.cell 3
   obtain ⟨n, hn⟩ : ∃ n, n = ks.length := ⟨_, rfl⟩
   have hkn : n ≤ 1099511627776 := by
    have h1 := HOK.out.form.1
    have h2 := items_nodes (.obj ks ls)
    have h3 := HQ.out
    have h4 : (JV.obj ks ls).keys.length = n := hn.symm
    omega
   have HCL : Hid (Calls Tryz.prog 114 #[.slice Bl n dl] w3 fun e w' => ∃ A' c', e = .returned (.slice A' n c') ∧ Mine w3 w' 9 A' n c' (ks.map .string)) := Lib.hid (sclone_any w3 Bl n dl _ (by rw [hn]; exact hk.keep hw03 (fun _ _ _ h => h)) (by intro u hu; obtain ⟨s, _, rfl⟩ := List.mem_map.1 hu; rfl) hkn)
   rw [← hn] at d3
   have HN := Lib.hid hn
   have a1 := as_obj_flag
   have a2 := as_obj_num
   have a3 := as_obj_text
   have a4 := as_obj_list
   have a5 := as_obj_obj
   clear hD hbl hk hok2 hr ho hl hbW hn hw03
   go_wp2_with (go_at_call 114; refine HCL.out.mono ?_; rintro e w7 ⟨A7, c7, rfl, hm7⟩; have HM7 := Lib.hid hm7; have hb7 := hm7.2.1.blk HB3.out (fun h => h); have HB7 := Lib.hid hb7; have x5 := hb7.cell 5; have y5 := hb7.frozen 5; clear hm7 hb7)
   go_meet
   refine ⟨rfl, Lib.hid ⟨A7, c7, (HK3.out.trans HM7.out.2.1 (fun _ _ h => h)).setCell (p := ⟨p, 5, none⟩) (.inr HP.out) _, ?_, ?_, ?_⟩⟩
   ·have := HB7.out.set_ 5 (.slice A7 n c7)
    rw [HN.out] at this ⊢
    exact this
   ·have hk : Keeps (fun i => i = p) w7 (w7.setCell ⟨p, 5, none⟩ (.slice A7 n c7)) := (Keeps.refl (fun i => i = p) w7).setCell (p := ⟨p, 5, none⟩) (.inl rfl) _
    have hr := HM7.out.rd
    rw [HN.out] at hr hk ⊢
    refine hr.keep hk (fun _ ad e h => ?_)
    have h1 := HM7.out.2.2 ad.block (by subst e; rfl)
    have h2 := HB3.out.lt
    omega
   ·show InB _ A7 ks.length
    rw [← HN.out]
    exact (MineS.inB HM7.out).mono fun i hi => Nat.le_trans HK3.out.size hi
 case rest =>
  obtain ⟨rfl, HSW⟩ := hcut
  obtain ⟨Bk, dk, hkc, hbc, hrk, hik⟩ := HSW.out
  have HKC := Lib.hid hkc
  have HBC := Lib.hid hbc
  have HRK := Lib.hid (And.intro hrk hik)
  obtain ⟨Ai, ci, vs, hit, hitc⟩ := HIT.out
  have HIT2 := Lib.hid hit
  obtain ⟨n, hn⟩ : ∃ n, n = j.items.length := ⟨_, rfl⟩
  have HN := Lib.hid hn
  have HCI : Hid (∀ W, Keeps (fun _ => False) w0 W → Calls Tryz.prog 74 #[.agg #[.iface T y]] W fun e w' => e = .returned (.slice Ai n ci) ∧ Keeps (fun _ => False) W w') := Lib.hid (by rw [hn]; exact hitc)
  have HNB : Hid (n ≤ 1099511627776) := Lib.hid (by have := items_nodes j; have := HQ.out; omega)
  have HKW : Hid (Keeps (fun _ => False) w0 wc) := Lib.hid (HST.out.own.2.1.trans hkc (fun _ _ h => h))
  clear hkc hbc hrk hik hit hitc hn HIT HSW e0 e1 e2 e3 e4 e5 g0 g1 g2 g3 g4 g5 HB3
  go_upto_block 1 with (go_at_call 74; refine (HCI.out _ HKW.out).mono ?_; rintro e w5 ⟨rfl, hk5⟩; have HK5 := Lib.hid hk5; clear hk5)
  have hnb := HNB.out
  go_wp2
  go_loopg [0, 55] n (fun gk x t wx => ∃ (i : Nat) (A1 : Option Addr) (q1 c1 : Nat) (sss1 : List (List Value)), i ≤ n ∧ x = .slice A1 q1 c1 ∧ t = .int .i64 i ∧ gk = n - i ∧ Hid (StL w0 w w5 wx A q c A1 q1 c1 (sss ++ sss1) (l ++ stepsTo j i)))
  case atStart => exact ⟨0, A, q, c, [], by omega, rfl, rfl, rfl, Lib.hid ⟨by
   have h1 := HST.out.stay (HKC.out.trans HK5.out (fun _ _ h => h))
   rw [List.append_nil, show stepsTo j 0 = [] by simp [stepsTo], List.append_nil]
   exact h1, Keeps.refl _ _, fun g h => .inl h⟩⟩
  case round =>
   obtain ⟨i, A1, q1, c1, sss1, hin, rfl, rfl, hgk, HS⟩ := hrel
   have HGK := Lib.hid hgk
   clear hgk
   have HW0 : Hid (Keeps (fun _ => False) w0 wr) := Lib.hid HS.out.row.own.2.1
   by_cases hlt : i < n
   ·obtain ⟨g, o, hAi, hcl⟩ := (HIT2.out.rd.keep HW0.out (fun _ _ _ h => h)).2 (by have := HN.out; omega)
    subst hAi
    obtain ⟨x, hx⟩ : ∃ x, j.items[i]? = some x := ⟨_, List.getElem?_eq_getElem (by have := HN.out; omega)⟩
    obtain ⟨u, hu⟩ : ∃ u, vs[i]? = some u := ⟨_, List.getElem?_eq_getElem (by have := HIT2.out.rd.1; have := HN.out; omega)⟩
    have ck : wr.cell? ⟨g, o + i, none⟩ = some u := by rw [hcl i (by have := HN.out; omega), hu]
    have hu1 := (HIT2.out.at_ i u x hu hx).one
    have hqx : q1 + x.nodes ≤ 1099511627776 := by
     have h1 := HS.out.row.len
     have h2 := stepsTo_le j (i + 1)
     rw [stepsTo_next hx, List.length_append, steps_len x] at h2
     rw [List.length_append, HST.out.len] at h1
     have := HQ.out
     omega
    obtain ⟨m, hm⟩ : ∃ m, m = x.steps.length := ⟨_, rfl⟩
    have HCALL : Hid (Calls Tryz.prog 110 #[.slice A1 q1 c1, u] wr fun e w' => ∃ A' c' ttt, e = .returned (.slice A' (q1 + m) c') ∧ Hid (RowSt w0 w' A' (q1 + m) c' ((sss ++ sss1) ++ ttt) ((l ++ stepsTo j i) ++ x.steps) ∧ Keeps (fun i => (Value.slice A1 q1 c1).ownBlock = some i) wr w' ∧
      ∀ g, (Value.slice A' (q1 + m) c').ownBlock = some g → (Value.slice A1 q1 c1).ownBlock = some g ∨ wr.heap.size ≤ g)) := Lib.hid (by
     refine (HIH.out x (List.mem_of_getElem? hx) u (HIT2.out.at_ i u x hu hx) wr A1 q1 c1 _ _ HS.out.row hqx).mono ?_
     rintro e w' ⟨A', c', ttt, he, h1, h2, h3⟩
     rw [← hm] at he h1 h3
     exact ⟨A', c', ttt, he, Lib.hid ⟨h1, h2, h3⟩⟩)
    have HNX := Lib.hid (stepsTo_next hx)
    clear hcl hx hu hqx hm
    go_wp2_with (go_at_call 110; refine HCALL.out.mono ?_; rintro e w6 ⟨A6, c6, ttt, rfl, HR6⟩)
    go_roundg (n - (i + 1))
    case measure => rw [HGK.out]; omega
    case rel =>
     refine ⟨i + 1, A6, q1 + m, c6, sss1 ++ ttt, by omega, rfl, by go_num, rfl, Lib.hid ⟨?_, ?_, ?_⟩⟩
     ·rw [HNX.out, ← List.append_assoc, ← List.append_assoc]
      exact HR6.out.1
     ·refine HS.out.keep.trans HR6.out.2.1 (fun k hk e => ?_)
      rcases HS.out.old k e with h1 | h1
      ·exact h1
      ·omega
     ·intro k hk
      rcases HR6.out.2.2 k hk with h1 | h1
      ·exact HS.out.old k h1
      ·exact .inr (Nat.le_trans HS.out.keep.size h1)
   ·obtain rfl : i = n := by omega
    have HLT : Hid (∀ k, (Value.slice A q c).ownBlock = some k → k < w.heap.size) := Lib.hid fun k hk => HST.out.own.own_lt hk
    have HE : Hid (j.steps = stepsTo j i ++ [j.last]) := Lib.hid (by rw [HN.out]; exact stepsTo_all j)
    have HQL : Hid (q + j.steps.length = q1 + 1 ∧ q1 + 1 ≤ 1099511627776) := Lib.hid (by
     have h1 := HS.out.row.len
     rw [List.length_append, HST.out.len] at h1
     have h2 : j.steps.length = (stepsTo j i).length + 1 := by rw [HE.out, List.length_append]; rfl
     have h3 := HQ.out
     rw [← steps_len] at h3
     exact ⟨by omega, by omega⟩)
    obtain ⟨SC, hSC⟩ : ∃ SC, SC = stepV j.last Bk dk := ⟨_, rfl⟩
    have HSC := Lib.hid hSC
    have HSL : Hid (SC.length = 6) := Lib.hid (by rw [hSC]; rfl)
    have HSI : Hid ((Tryz.prog.info? 53).map (·.size) = some SC.length) := Lib.hid (by rw [HSL.out]; kernel_rfl)
    have HSOC : Hid (∀ u ∈ SC, u.oneCell' = true) := Lib.hid (by rw [hSC]; exact stepV_one _ _ _)
    have HKR : Hid (Keeps (fun k => (Value.slice A q c).ownBlock = some k) wc wr) := Lib.hid ((HK5.out.mono (fun _ _ h => h.elim)).trans HS.out.keep (fun _ _ h => h))
    have HBR : Hid (Blk wr p 53 SC) := Lib.hid (by
     rw [hSC]
     exact HKR.out.blk HBC.out (fun e => by have := HLT.out p e; have := HP.out; omega))
    have HEND : Hid (∀ A7 c7 w7, w7.ownsRow 0 53 6 (.slice A7 (q1 + 1) c7) (q1 + 1) ((sss ++ sss1).flatten ++ SC) → (wr.alloc (.cells SC.toArray 53)).grownBy w7 (Value.slice A1 q1 c1).ownBlock →
      ((Value.slice A7 (q1 + 1) c7).ownBlock = (Value.slice A1 q1 c1).ownBlock ∨ (Value.slice A7 (q1 + 1) c7).ownBlock = some (wr.alloc (.cells SC.toArray 53)).heap.size) → NStPost w0 w A q c sss l j.steps (.returned (.slice A7 (q1 + 1) c7)) w7) := Lib.hid fun A7 c7 w7 ho hg hb => by
     rw [HSC.out] at ho
     have hIn : InB (fun k => w.heap.size ≤ k ∧ k < wc.heap.size) Bk j.keys.length := Rd.inB HRK.out.1 HRK.out.2 fun k h1 h2 => ⟨h1, h2⟩
     have hrow := HS.out.row.grown (s := j.last) (B := Bk) (d := dk) ((Keeps.refl _ wr).alloc _) ho hg hb (by
      rw [last_keys]
      exact HRK.out.1.keep HKR.out (HRK.out.2.out fun k h1 e => by have := HLT.out k e; omega)) (by
      rw [last_keys]
      refine hIn.mono fun k hk => ⟨Nat.le_trans HST.out.own.2.1.size hk.1, fun e => ?_⟩
      rcases HS.out.old k e with h1 | h1
      ·have := HLT.out k h1; omega
      ·have := HK5.out.size; omega)
     refine ⟨A7, c7, sss1 ++ [SC], by rw [HQL.out.1], ?_, ?_, ?_⟩
     ·rw [HQL.out.1, HE.out, HSC.out, ← List.append_assoc, ← List.append_assoc]
      exact hrow
     ·have h1 : Keeps (fun k => (Value.slice A q c).ownBlock = some k) w wr := (HKC.out.mono (fun _ _ h => h.elim)).trans HKR.out (fun _ _ h => h)
      refine (h1.alloc _).trans (Keeps.of_grown hg) (fun k hk e => ?_)
      rcases HS.out.old k e with h2 | h2
      ·exact h2
      ·have := HK5.out.size; have := HKC.out.size; omega
     ·rw [HQL.out.1]
      intro k hk
      have hws : w.heap.size ≤ w5.heap.size := Nat.le_trans HKC.out.size HK5.out.size
      rcases hb with h1 | h1
      ·rw [h1] at hk
       rcases HS.out.old k hk with h2 | h2
       ·exact .inl h2
       ·exact .inr (Nat.le_trans hws h2)
      ·rw [h1] at hk
       injection hk with hk
       have := HS.out.keep.size
       rw [World.size_alloc] at hk
       exact .inr (by omega)
    clear hSC
    go_wp2_with (first
     | ((with_reducible show wpList _ _ _ (⟨some 64, _, _, _, _, _⟩ :: _) _ _); refine wpList_load_whole rfl 53 _ rfl _ rfl HBR.out Tryz.underlying53 rfl HSI.out ?_)
     | ((with_reducible show wpList _ _ _ (⟨some 65, _, _, _, _, _⟩ :: _) _ _); refine wpList_box_S _ rfl 22 53 (.tmp 64) rfl (.agg #[.int .i64 0, .bool false, .int .u64 0, .string .empty, .int .i64 0, .slice none 0 0]) 6 Tryz.underlying22 infoStepA2 (by decide) (by decide) SC HSL.out rfl ?_)
     | (at_builtin; refine wpList_append_S _ rfl (.tmp 63) (.tmp 65) 22 rfl 53 (.agg #[.int .i64 0, .bool false, .int .u64 0, .string .empty, .int .i64 0, .slice none 0 0]) 6 72 Tryz.underlying22 infoStepA rfl (by decide) A1 q1 c1 _ rfl (HS.out.row.own.keep ((Keeps.refl _ wr).alloc _)).1 _ 1 1 SC rfl (RdS.blk (Blk.new _ 53 SC) (by rw [HSL.out])) HSOC.out (by have := HQL.out.2; unfold maxLen; omega) (by have := HQL.out.2; omega) ?_; intro A7 c7 w7 ho7 hg7 hb7; have HE7 := Lib.hid (HEND.out A7 c7 w7 ho7 hg7 hb7); clear ho7 hg7 hb7))
    go_ret
    exact HE7.out
theorem nsteps_any {D : Nat → Prop} (w0 : World) : ∀ (j : JV), JOk j → ∀ (v : Value), JAt D w0 v j → ∀ (w : World) (A : Option Addr) (q c : Nat) (sss : List (List Value)) (l : List StepV), RowSt w0 w A q c sss l → q + j.nodes ≤ 1099511627776 →
  Calls Tryz.prog 110 #[.slice A q c, v] w (NStPost w0 w A q c sss l j.steps) := by
 intro j hok
 induction hok with
 | mk j h1 h2 hp hr ht h ih =>
  intro v hv w A q c sss l hrow hq
  exact nsteps_one w0 v j hv (.mk j h1 h2 hp hr ht h) w A q c sss l hrow hq fun x hx u hu w A q c sss l hrow hq => ih x hx u hu w A q c sss l hrow hq
def noneF (ps : List (Option Addr)) : Value := if ps.any (·.isNone) then errE 1 else .nilIface
theorem none_any (w : World) (A : Option Addr) (n c : Nat) (ps : List (Option Addr)) (hr : Rd w A n (ps.map .pointer)) (hn : n ≤ 1000000) :
  Calls Tryz.prog 27 #[.slice A n c] w fun e w' => e = .returned (noneF ps) ∧ w' = w := by
 have HL : Hid (ps.length = n) := Lib.hid (by simpa using hr.1)
 have HR : Hid (∀ j, j < n → ∃ g o p, A = some ⟨g, o, none⟩ ∧ ps[j]? = some p ∧ w.cell? ⟨g, o + j, none⟩ = some (.pointer p)) := Lib.hid fun j hj => by
  obtain ⟨g, o, e, hc⟩ := hr.2 (by omega)
  obtain ⟨p, hp⟩ : ∃ p, ps[j]? = some p := ⟨_, List.getElem?_eq_getElem (by have := HL.out; omega)⟩
  refine ⟨g, o, p, e, hp, ?_⟩
  rw [hc j hj, List.getElem?_map, hp]
  rfl
 clear hr
 go_enter Tryz.func27, Tryz.ntmps27
 go_upto_block 0 with fail
 go_wp2
 go_loopg [7] n (fun g2 i w3 => ∃ j, j ≤ n ∧ i = .int .i64 j ∧ g2 = n - j ∧ Hid (w3 = w ∧ (ps.take j).any (·.isNone) = false))
 case atStart => exact ⟨0, by omega, rfl, rfl, Lib.hid ⟨rfl, by simp⟩⟩
 case round =>
  obtain ⟨j, hj, rfl, hg2, HA⟩ := hrel
  have HG2 := Lib.hid hg2
  clear hg2
  obtain ⟨rfl, _⟩ := HA.out
  by_cases hlt : j < n
  ·obtain ⟨g, o, p, hA, hp, hcl⟩ := HR.out j hlt
   subst hA
   have HP := Lib.hid hp
   clear hp
   cases p with
   | none =>
    have HN : Hid (noneF ps = errE 1) := Lib.hid (by
     unfold noneF
     rw [if_pos]
     rw [List.any_eq_true]
     exact ⟨none, List.mem_of_getElem? HP.out, rfl⟩)
    go_wp2
    go_ret
    rw [HN.out]
    exact ⟨rfl, rfl⟩
   | some p =>
    have HT : Hid ((ps.take (j + 1)).any (·.isNone) = false) := Lib.hid (by
     rw [List.take_add_one, HP.out, List.any_append, HA.out.2]
     rfl)
    go_wp2
    go_roundg (n - (j + 1))
    case measure => rw [HG2.out]; omega
    case rel => exact ⟨j + 1, by omega, by go_num, rfl, Lib.hid ⟨rfl, HT.out⟩⟩
  ·obtain rfl : j = n := by omega
   have HN : Hid (noneF ps = .nilIface) := Lib.hid (by
    unfold noneF
    have h := HA.out.2
    rw [List.take_of_length_le (by rw [HL.out]; exact Nat.le_refl _)] at h
    rw [h]
    rfl)
   go_wp2
   go_ret
   rw [HN.out]
   exact ⟨rfl, rfl⟩
theorem root_any (w : World) (q : Nat) (T : TypeId) (x : Value) (hb : Blk w q 110 [.iface T x]) :
  Calls Tryz.prog 38 #[.pointer (some ⟨q, 0, none⟩)] w fun e w' => e = .returned (.agg #[.iface T x]) ∧ Keeps (fun _ => False) w w' := by
 have hb1 := hb.alloc (.cells #[.nilIface] 81)
 have c0 := hb1.cell 0
 have f0 := (Blk.new w 81 [.nilIface]).frozen 0
 have HR := Lib.hid (Blk.new w 81 [.iface T x])
 have HK := Lib.hid ((Keeps.refl (fun _ => False) w).alloc (.cells #[.iface T x] 81))
 clear hb hb1
 go_enter Tryz.func38, Tryz.ntmps38
 go_wp2
 exact bodyPost_ret (results_blk rfl _ _ rfl HR.out Tryz.underlying81 rfl (by kernel_rfl)) rfl ⟨rfl, HK.out⟩
theorem refsteps_any {D : Nat → Prop} (w : World) (v : Value) (j : JV) (hj : JAt D w v j) (hok : JOk j) (hn : j.nodes ≤ 1099511627776) :
  Calls Tryz.prog 71 #[.agg #[v]] w (StepsPost 53 (fun i => w.heap.size ≤ i) w j.steps) := by
 obtain ⟨T, y, hv⟩ := hj.iface
 subst hv
 have c0 := (Blk.new w 81 [.iface T y]).cell 0
 have hk : Keeps (fun _ => False) w (w.alloc (.cells #[.iface T y] 81)) := (Keeps.refl (fun _ => False) w).alloc _
 have HC : Hid (Calls Tryz.prog 110 #[.slice none 0 0, .iface T y] (w.alloc (.cells #[.iface T y] 81)) (StepsPost 53 (fun i => w.heap.size ≤ i) w j.steps)) := Lib.hid (by
  refine (nsteps_any _ j hok (.iface T y) (hj.stay hk) _ none 0 0 [] [] (RowSt.nil _) (by omega)).mono ?_
  rintro e w' ⟨A', c', ttt, rfl, h1, h2, h3⟩
  rw [Nat.zero_add] at h1 ⊢
  rw [List.nil_append, List.nil_append] at h1
  exact ⟨A', c', ttt, rfl, ⟨h1.own.1, hk.trans h1.own.2.1 (fun _ _ h => h), fun g hg => Nat.le_trans hk.size (h1.own.2.2 g hg)⟩, h1.lst.mono fun i hi => Nat.le_trans hk.size hi.1⟩)
 unfold StepsPost at HC
 clear hj hk hok hn
 go_enter Tryz.func71, Tryz.ntmps71
 go_wp2_with (go_at_call 110; refine HC.out.mono ?_; rintro e w2 ⟨A2, c2, sss, rfl, hm2⟩; have HM2 := Lib.hid hm2; clear hm2)
 go_ret
 exact ⟨A2, c2, sss, rfl, HM2.out⟩
theorem tsteps_any {D : Nat → Prop} (w : World) (q : Nat) (v : Value) (j : JV) (ht : TreeAt D w q v j) (hok : JOk j) (hn : j.nodes ≤ 1099511627776) :
  Calls Tryz.prog 43 #[.pointer (some ⟨q, 0, none⟩)] w (StepsPost 53 (fun i => w.heap.size ≤ i) w j.steps) := by
 obtain ⟨T, y, hv⟩ := ht.2.2.iface
 subst hv
 have HRT := Lib.hid (root_any w q T y ht.2.1)
 have HC : Hid (∀ W, Keeps (fun _ => False) w W → Calls Tryz.prog 71 #[.agg #[.iface T y]] W (StepsPost 53 (fun i => w.heap.size ≤ i) w j.steps)) := Lib.hid fun W hW => by
  refine (refsteps_any W (.iface T y) j (ht.2.2.stay hW) hok hn).mono ?_
  rintro e w' ⟨A', c', sss, rfl, h1, h2⟩
  exact ⟨A', c', sss, rfl, ⟨h1.1, hW.trans h1.2.1 (fun _ _ h => h), fun g hg => Nat.le_trans hW.size (h1.2.2 g hg)⟩, h2.mono fun i hi => Nat.le_trans hW.size hi⟩
 unfold StepsPost at HC
 clear ht hok hn
 go_enter Tryz.func43, Tryz.ntmps43
 go_wp2_with (first
  | (go_at_call 38; refine HRT.out.mono ?_; rintro e w1 ⟨rfl, hk1⟩; have HK1 := Lib.hid hk1; clear hk1)
  | (go_at_call 71; refine (HC.out _ HK1.out).mono ?_; rintro e w2 ⟨A2, c2, sss, rfl, hm2⟩; have HM2 := Lib.hid hm2; clear hm2))
 go_ret
 exact ⟨A2, c2, sss, rfl, HM2.out⟩
end Go.Proofs.YtdmcioghdindfaaGreatDoor
namespace Go.Aff
open Go Go.RowKit
theorem step_store_whole {P : Program} {Q : Exit → Act → World → Prop} {K : Act → World → Prop} {ops : Array Oper} {a : Act} {w : World} {o : Oper} (hgd : o.guard = none) (ty : TypeId) (x v : Operand) (ho : o.op = .store ty x v)
  {g : Nat} {t : TypeId} {cs : List Value} (vs : List Value) (hx : a.eval x = .pointer (some ⟨g, 0, none⟩)) (hv : a.eval v = .agg vs.toArray) (hg : Blk w g t cs) (hl : cs.length = vs.length) (hi : (P.info? ty).map (·.size) = some vs.length) (h1 : ∀ v ∈ vs, v.oneCell' = true)
  (h : K (a.put o.dst undef) (w.setRow g vs.toArray)) : if Region.wanted o (yielded ops a.tmps) = true then Oper.wp P o a w K Q else K (a.put o.dst undef) w := by
 have hw : Region.wanted o (yielded ops a.tmps) = true := by simp [Region.wanted, hgd]
 rw [if_pos hw]
 unfold Oper.wp execOp
 simp only [ho, hx, hv, Instr.storeAt, Instr.sureAddr, Sem.run_bind, Sem.run_pure, Result.andThen_ok, run_storeVar_at ty 0 vs hg (by omega) hi h1]
 rw [splice_all _ _ hl]
 exact h
theorem setRow_keep (w : World) (p : Nat) (cs : Array Value) : Keeps (fun i => i = p) w (w.setRow p cs) := (Keeps.refl (fun i => i = p) w).setRow (.inl rfl) cs
end Go.Aff
namespace Go.Proofs.YtdmcioghdindfaaGreatDoor
open Go Go.RowKit Go.Aff Go.Json
theorem step_range {T : TypeId} {w0 w : World} {A : Option Addr} {n c : Nat} {sss : List (List Value)} {D : Nat → Prop} {l : List StepV} {i : Nat} (hm : MineS 6 w0 w T A n c sss.flatten) (hs : SList D w sss l) (hi : i < n) (hl : l.length = n) :
  ∃ g o s B d, A = some ⟨g, o, none⟩ ∧ l[i]? = some s ∧ w.rangeAt g (o + i * 6) (stepV s B d) ∧ Rd w B s.keys.length (s.keys.map .string) := by
 obtain ⟨g, o, e, hc⟩ := (MineS.rdS hm).2 (by omega)
 obtain ⟨s, hsl⟩ : ∃ s, l[i]? = some s := ⟨_, List.getElem?_eq_getElem (by omega)⟩
 obtain ⟨cs, hcs⟩ : ∃ cs, sss[i]? = some cs := ⟨_, List.getElem?_eq_getElem (by rw [hs.1]; omega)⟩
 obtain ⟨B, d, e2, hr⟩ := hs.2 i cs s hcs hsl
 refine ⟨g, o, s, B, d, e, hsl, ?_, hr.1⟩
 rw [← e2]
 exact item_range hc hi hs.six hcs
theorem steps_keys {j : JV} (h : JOk j) : ∀ s ∈ j.steps, s.keys.length ≤ j.nodes := by
 induction h with
 | mk j h1 h2 hp hr ht h ih =>
  intro s hs
  rw [JV.steps_eq] at hs
  rcases List.mem_append.1 hs with hs | hs
  ·obtain ⟨l, hl, hs⟩ := List.mem_flatten.1 hs
   obtain ⟨x, hx, rfl⟩ := List.mem_map.1 hl
   exact Nat.le_trans (ih x hx s hs) (item_nodes hx)
  ·rw [List.mem_singleton.1 hs, last_keys]
   have := items_nodes j
   omega
structure TwoSt (w W : World) (p8 p9 : Nat) (SC SD : List Value) : Prop where
 keep : Keeps (fun _ => False) w W
 b8 : Blk W p8 53 SC
 b9 : Blk W p9 65 SD
theorem is_same {D E : Nat → Prop} (w : World) (q : Nat) (v : Value) (rv : List Value) (j : JV) (ht : TreeAt D w q v j) (hr : RAt E w rv j) (hok : JOk j) (hn : j.nodes ≤ 1099511627776) :
  Calls Tryz.prog 13 #[.pointer (some ⟨q, 0, none⟩), .agg rv.toArray] w fun e w' => e = .returned (.bool true) ∧ Keeps (fun _ => False) w w' := by
 have HB0 := Lib.hid (Boxed.made w 31 rv)
 have HSI : Hid ((Tryz.prog.info? 31).map (·.size) = some rv.length) := Lib.hid (by rw [hr.len]; kernel_rfl)
 obtain ⟨n, hnn⟩ : ∃ n, n = j.steps.length := ⟨_, rfl⟩
 have HN : Hid (n = j.steps.length ∧ n ≤ 1099511627776) := Lib.hid ⟨hnn, by rw [hnn, steps_len]; exact hn⟩
 have HSK : Hid (∀ s ∈ j.steps, s.keys.length ≤ 1099511627776) := Lib.hid fun s hs => Nat.le_trans (steps_keys hok s hs) hn
 have HC1 : Hid (∀ W, Keeps (fun _ => False) w W → Calls Tryz.prog 43 #[.pointer (some ⟨q, 0, none⟩)] W fun e w' => ∃ A c sss, e = .returned (.slice A n c) ∧ Hid (MineS 6 W w' 53 A n c sss.flatten ∧ ∃ D, SList D w' sss j.steps)) := Lib.hid fun W hW => by
  refine (tsteps_any W q v j (ht.stay hW) hok hn).mono ?_
  rintro e w' ⟨A, c, sss, he, h1, h2⟩
  rw [← hnn] at he h1
  exact ⟨A, c, sss, he, Lib.hid ⟨h1, _, h2⟩⟩
 have HC2 : Hid (∀ W, Keeps (fun _ => False) w W → Calls Tryz.prog 44 #[.agg rv.toArray] W fun e w' => ∃ A c sss, e = .returned (.slice A n c) ∧ Hid (MineS 6 W w' 65 A n c sss.flatten ∧ ∃ D, SList D w' sss j.steps)) := Lib.hid fun W hW => by
  refine (rsteps_any W rv j (hr.stay hW) hn).mono ?_
  rintro e w' ⟨A, c, sss, he, h1, h2⟩
  rw [← hnn] at he h1
  exact ⟨A, c, sss, he, Lib.hid ⟨h1, _, h2⟩⟩
 clear ht hr hok hn hnn
 go_enter Tryz.func13, Tryz.ntmps13
 go_upto_region 3 with fail
 obtain ⟨b, hb⟩ : ∃ b, b = w.heap.size := ⟨_, rfl⟩
 rw [← hb] at HB0 ⊢
 refine gen_codeF (fun W => Boxed w W b 31 rv) HB0.out ?_
 intro w1 hb1
 have HB1 := Lib.hid hb1
 clear hb1 HB0 hb
 refine wp_region_held_drew (S := fun W => Boxed w W b 31 rv) (by kernel_rfl) (HB1.out.stay (Keeps.refl _ _).drew) (fun hHeld => ?_)
 refine tI 0 13 hHeld ?_
 try simp only [pu]
 refine tH (i := 2) (oi := ⟨some 15, _, _, _, _, _⟩) (v := _) rfl (yieldsIf_load_mid (by rfl) _ _ rfl _ _ rfl rv _ (fun w' h => blk_range h.blk) Tryz.underlying31 rfl HSI.out) hHeld ?_
 try simp only [pu]
 refine rH 1 (some 14) fun K hK => ?_
 go_simp
 refine (HC1.out _ hHeld.keep).mono ?_
 rintro e w2 ⟨A1, c1, sss1, rfl, HM1⟩
 have hqq := hHeld.stay HM1.out.1.2.1
 refine hK.out _ _ hqq (fun hHeld => ?_)
 clear hK K
 try simp only [pu]
 refine rH 3 (some 16) fun K hK => ?_
 go_simp
 refine (HC2.out _ hHeld.keep).mono ?_
 rintro e w3 ⟨A2, c2, sss2, rfl, HM2⟩
 have hqq2 := hHeld.stay HM2.out.1.2.1
 refine hK.out _ _ hqq2 (fun hHeld => ?_)
 clear hK K
 try simp only [pu]
 refine tI 4 5 hHeld ?_
 try simp only [pu]
 refine tI 5 6 hHeld ?_
 try simp only [pu]
 refine wpAnyH_done (by kernel_rfl) ?_ _
 have HK3 := Lib.hid hHeld.keep
 have HM3 : Hid (MineS 6 w w3 53 A1 n c1 sss1.flatten ∧ ∃ D, SList D w3 sss1 j.steps) := Lib.hid (by
  obtain ⟨h1, D, h2⟩ := HM1.out
  have hk := HM2.out.1.2.1
  exact ⟨⟨hk.own h1.1 (fun _ _ h => h), hHeld.keep, fun g hg => Nat.le_trans HB1.out.keep.size (h1.2.2 g hg)⟩, D, h2.stay hk⟩)
 clear hHeld HM1 hqq hqq2 HC1 HC2 HB1
 go_upto_block 0 with fail
 go_wp2
 go_loopg [7] n (fun gk t wx => ∃ (i : Nat), i ≤ n ∧ t = .int .i64 i ∧ gk = n - i ∧ Hid (Keeps (fun _ => False) w3 wx))
 case atStart => exact ⟨0, by omega, rfl, rfl, Lib.hid (Keeps.refl _ _)⟩
 case round =>
  obtain ⟨i, hin, rfl, hgk, HKX⟩ := hrel
  have HGK := Lib.hid hgk
  clear hgk
  by_cases hlt : i < n
  ·have HST : Hid (∀ W, Keeps (fun _ => False) w3 W → ∃ g o s B d g2 o2 B2 d2, A1 = some ⟨g, o, none⟩ ∧ A2 = some ⟨g2, o2, none⟩ ∧ j.steps[i]? = some s ∧ W.rangeAt g (o + i * 6) (stepV s B d) ∧ Rd W B s.keys.length (s.keys.map .string) ∧ W.rangeAt g2 (o2 + i * 6) (stepV s B2 d2) ∧ Rd W B2 s.keys.length (s.keys.map .string)) := Lib.hid fun W hW => by
    obtain ⟨h1, D1, s1⟩ := HM3.out
    obtain ⟨h2, D2, s2⟩ := HM2.out
    obtain ⟨g, o, s, B, d, e1, e2, e3, e4⟩ := step_range (h1.keep hW) (s1.stay hW) hlt HN.out.1.symm
    obtain ⟨g2, o2, s', B2, d2, f1, f2, f3, f4⟩ := step_range (h2.keep hW) (s2.stay hW) hlt HN.out.1.symm
    rw [e2] at f2
    injection f2 with f2
    subst f2
    exact ⟨g, o, s, B, d, g2, o2, B2, d2, e1, f1, e2, e3, e4, f3, f4⟩
   obtain ⟨g, o, s, B, d, g2, o2, B2, d2, hA1, hA2, hsi, hc1, hk1, hc2, hk2⟩ := HST.out wr HKX.out
   subst hA1 hA2
   have hkb := HSK.out s (List.mem_of_getElem? hsi)
   have hnb := HN.out.2
   clear hsi
   obtain ⟨SC, hSC⟩ : ∃ SC, SC = stepV s B d := ⟨_, rfl⟩
   obtain ⟨SD, hSD⟩ : ∃ SD, SD = stepV s B2 d2 := ⟨_, rfl⟩
   rw [← hSC] at hc1
   rw [← hSD] at hc2
   have HCC := Lib.hid (And.intro hc1 hc2)
   have HKK := Lib.hid (And.intro hk1 hk2)
   have HSC := Lib.hid hSC
   have HSD := Lib.hid hSD
   have HSL : Hid (SC.length = 6 ∧ SD.length = 6) := Lib.hid (by rw [hSC, hSD]; exact ⟨rfl, rfl⟩)
   have HI8 : Hid ((Tryz.prog.info? 53).map (·.size) = some SC.length) := Lib.hid (by rw [HSL.out.1]; kernel_rfl)
   have HI9 : Hid ((Tryz.prog.info? 65).map (·.size) = some SD.length) := Lib.hid (by rw [HSL.out.2]; kernel_rfl)
   have HSO : Hid ((∀ u ∈ SC, u.oneCell' = true) ∧ ∀ u ∈ SD, u.oneCell' = true) := Lib.hid (by rw [hSC, hSD]; exact ⟨stepV_one _ _ _, stepV_one _ _ _⟩)
   have hi0 : (0 : Int) ≤ (i : Int) := by omega
   have hiN : (i : Int) < (n : Int) := by omega
   clear hc1 hc2 hk1 hk2 hSC hSD
   go_upto_region 9 with fail
   go_cut [8, 9] (fun t u wx => ∃ p8 p9 : Nat, t = .pointer (some ⟨p8, 0, none⟩) ∧ u = .pointer (some ⟨p9, 0, none⟩) ∧ Hid (TwoSt wr wx p8 p9 SC SD))
   case first =>
    refine wp_region_held_drew (S := Keeps (fun _ => False) wr) (by kernel_rfl) (Keeps.refl _ _).drew (fun hHeld => ?_)
    refine tI 0 28 hHeld ?_
    try simp only [pu]
    refine tI 1 29 hHeld ?_
    try simp only [pu]
    refine tI 2 30 hHeld ?_
    try simp only [pu]
    refine tH (i := 3) (oi := ⟨some 31, _, _, _, _, _⟩) (v := _) rfl (yieldsIf_load_mid (by rfl) _ _ rfl _ _ rfl SC _ (fun w' h => fun j v hv => cell_keep h (HCC.out.1 j v hv)) Tryz.underlying53 rfl HI8.out) hHeld ?_
    try simp only [pu]
    refine tI 4 32 hHeld ?_
    try simp only [pu]
    refine tI 5 33 hHeld ?_
    try simp only [pu]
    refine tI 6 34 hHeld ?_
    try simp only [pu]
    refine tH (i := 7) (oi := ⟨some 35, _, _, _, _, _⟩) (v := _) rfl (yieldsIf_load_mid (by rfl) _ _ rfl _ _ rfl SD _ (fun w' h => fun j v hv => cell_keep h (HCC.out.2 j v hv)) Tryz.underlying65 rfl HI9.out) hHeld ?_
    try simp only [pu]
    refine wpAnyH_ready (rs := [8, 9]) (by kernel_rfl) (by simp) ?_
    refine (AllReadyH.cons (o := ⟨some 8, _, _, _, _, _⟩) rfl (fun K hK => ?_) (AllReadyH.cons (o := ⟨some 9, _, _, _, _, _⟩) rfl (fun K hK => ?_) AllReadyH.nil))
    ·go_simp
     refine gen_KA (fun V => Keeps (fun _ => False) wr.drew V ∧ Blk V wr.drew.heap.size 53 [Value.int .i64 0, .bool false, .int .u64 0, .string .empty, .int .i64 0, .slice none 0 0]) ⟨(Keeps.refl _ _).alloc _, Blk.new _ _ _⟩ ?_
     rintro v8 ⟨k8, b88⟩
     have lo88 := hHeld.size
     have h8 := hHeld.trans k8 (fun _ _ h => h)
     refine hK.out _ _ h8 (fun hHeld => ?_)
     clear hK K
     try simp only [pu]
     refine rH 9 (some 9) fun K hK => ?_
     go_simp
     refine gen_KA (fun V => Keeps (fun _ => False) v8 V ∧ Blk V v8.heap.size 65 [Value.int .i64 0, .bool false, .int .u64 0, .string .empty, .int .i64 0, .slice none 0 0]) ⟨(Keeps.refl _ _).alloc _, Blk.new _ _ _⟩ ?_
     rintro v8_9 ⟨k8_9, b98_9⟩
     have b88_9 := k8_9.blk b88 (fun h => h)
     have lo98_9 := hHeld.size
     have h8_9 := hHeld.trans k8_9 (fun _ _ h => h)
     refine hK.out _ _ h8_9 (fun hHeld => ?_)
     clear hK K
     try simp only [pu]
     refine rH 10 none fun K hK => ?_
     skip
     refine step_store_whole rfl 53 (.tmp 8) (.tmp 31) rfl SC rfl rfl b88_9 (by rw [HSL.out.1]; rfl) HI8.out HSO.out.1 ?_
     refine gen_KA (fun V => Keeps (fun i => i = wr.drew.heap.size) v8_9 V ∧ Blk V wr.drew.heap.size 53 SC) ⟨setRow_keep _ _ _, b88_9.setRow _⟩ ?_
     rintro v8_9_10 ⟨k8_9_10, b88_9_10⟩
     have ne8_9_10 : v8.heap.size ≠ wr.drew.heap.size := by
      have h1 := b88.lt
      omega
     have b98_9_10 := k8_9_10.blk b98_9 ne8_9_10
     have h8_9_10 := hHeld.trans k8_9_10 (fun i hi e => by have h2 := lo88; omega)
     refine hK.out _ _ h8_9_10 (fun hHeld => ?_)
     clear hK K
     try simp only [pu]
     refine rH 11 none fun K hK => ?_
     skip
     refine step_store_whole rfl 65 (.tmp 9) (.tmp 35) rfl SD rfl rfl b98_9_10 (by rw [HSL.out.2]; rfl) HI9.out HSO.out.2 ?_
     refine gen_KA (fun V => Keeps (fun i => i = v8.heap.size) v8_9_10 V ∧ Blk V v8.heap.size 65 SD) ⟨setRow_keep _ _ _, b98_9_10.setRow _⟩ ?_
     rintro v8_9_10_11 ⟨k8_9_10_11, b98_9_10_11⟩
     have ne8_9_10_11 : wr.drew.heap.size ≠ v8.heap.size := by
      have h1 := b88.lt
      omega
     have b88_9_10_11 := k8_9_10_11.blk b88_9_10 ne8_9_10_11
     have h8_9_10_11 := hHeld.trans k8_9_10_11 (fun i hi e => by have h2 := lo98_9; omega)
     refine hK.out _ _ h8_9_10_11 (fun hHeld => ?_)
     clear hK K
     try simp only [pu]
     refine wpAnyH_done (by kernel_rfl) ?_ _
     go_wp2
     go_meet
     exact ⟨_, _, rfl, rfl, Lib.hid ⟨hHeld, b88_9_10_11, b98_9_10_11⟩⟩
    ·go_simp
     refine gen_KA (fun V => Keeps (fun _ => False) wr.drew V ∧ Blk V wr.drew.heap.size 65 [Value.int .i64 0, .bool false, .int .u64 0, .string .empty, .int .i64 0, .slice none 0 0]) ⟨(Keeps.refl _ _).alloc _, Blk.new _ _ _⟩ ?_
     rintro v9 ⟨k9, b99⟩
     have lo99 := hHeld.size
     have h9 := hHeld.trans k9 (fun _ _ h => h)
     refine hK.out _ _ h9 (fun hHeld => ?_)
     clear hK K
     try simp only [pu]
     refine rH 8 (some 8) fun K hK => ?_
     go_simp
     refine gen_KA (fun V => Keeps (fun _ => False) v9 V ∧ Blk V v9.heap.size 53 [Value.int .i64 0, .bool false, .int .u64 0, .string .empty, .int .i64 0, .slice none 0 0]) ⟨(Keeps.refl _ _).alloc _, Blk.new _ _ _⟩ ?_
     rintro v9_8 ⟨k9_8, b89_8⟩
     have b99_8 := k9_8.blk b99 (fun h => h)
     have lo89_8 := hHeld.size
     have h9_8 := hHeld.trans k9_8 (fun _ _ h => h)
     refine hK.out _ _ h9_8 (fun hHeld => ?_)
     clear hK K
     try simp only [pu]
     refine rH 10 none fun K hK => ?_
     skip
     refine step_store_whole rfl 53 (.tmp 8) (.tmp 31) rfl SC rfl rfl b89_8 (by rw [HSL.out.1]; rfl) HI8.out HSO.out.1 ?_
     refine gen_KA (fun V => Keeps (fun i => i = v9.heap.size) v9_8 V ∧ Blk V v9.heap.size 53 SC) ⟨setRow_keep _ _ _, b89_8.setRow _⟩ ?_
     rintro v9_8_10 ⟨k9_8_10, b89_8_10⟩
     have ne9_8_10 : wr.drew.heap.size ≠ v9.heap.size := by
      have h1 := b99.lt
      omega
     have b99_8_10 := k9_8_10.blk b99_8 ne9_8_10
     have h9_8_10 := hHeld.trans k9_8_10 (fun i hi e => by have h2 := lo89_8; omega)
     refine hK.out _ _ h9_8_10 (fun hHeld => ?_)
     clear hK K
     try simp only [pu]
     refine rH 11 none fun K hK => ?_
     skip
     refine step_store_whole rfl 65 (.tmp 9) (.tmp 35) rfl SD rfl rfl b99_8_10 (by rw [HSL.out.2]; rfl) HI9.out HSO.out.2 ?_
     refine gen_KA (fun V => Keeps (fun i => i = wr.drew.heap.size) v9_8_10 V ∧ Blk V wr.drew.heap.size 65 SD) ⟨setRow_keep _ _ _, b99_8_10.setRow _⟩ ?_
     rintro v9_8_10_11 ⟨k9_8_10_11, b99_8_10_11⟩
     have ne9_8_10_11 : v9.heap.size ≠ wr.drew.heap.size := by
      have h1 := b99.lt
      omega
     have b89_8_10_11 := k9_8_10_11.blk b89_8_10 ne9_8_10_11
     have h9_8_10_11 := hHeld.trans k9_8_10_11 (fun i hi e => by have h2 := lo99; omega)
     refine hK.out _ _ h9_8_10_11 (fun hHeld => ?_)
     clear hK K
     try simp only [pu]
     refine wpAnyH_done (by kernel_rfl) ?_ _
     go_wp2
     go_meet
     exact ⟨_, _, rfl, rfl, Lib.hid ⟨hHeld, b89_8_10_11, b99_8_10_11⟩⟩
   case rest =>
    obtain ⟨p8, p9, rfl, rfl, HT9⟩ := hcut
    have HKC : Hid (Keeps (fun _ => False) wr wc) := Lib.hid HT9.out.keep
    have HCE : Hid (∀ W, Keeps (fun _ => False) wc W → (W.cell? ⟨p8, 5, none⟩ = some (.slice B s.keys.length d) ∧ W.cell? ⟨p9, 5, none⟩ = some (.slice B2 s.keys.length d2)) ∧ Rd W B s.keys.length (s.keys.map .string) ∧ Rd W B2 s.keys.length (s.keys.map .string)) := Lib.hid fun W hW => by
     have b8 := hW.blk HT9.out.b8 (fun h => h)
     have b9 := hW.blk HT9.out.b9 (fun h => h)
     rw [HSC.out] at b8
     rw [HSD.out] at b9
     exact ⟨⟨b8.cell 5, b9.cell 5⟩, HKK.out.1.keep (HT9.out.keep.trans hW (fun _ _ h => h)) (fun _ _ _ h => h), HKK.out.2.keep (HT9.out.keep.trans hW (fun _ _ h => h)) (fun _ _ _ h => h)⟩
    have b8 := HT9.out.b8
    have b9 := HT9.out.b9
    rw [HSC.out] at b8
    rw [HSD.out] at b9
    obtain ⟨x0, x1, x2, x3, x4, x5⟩ : StepCells wc p8 SC s B d := ⟨b8.cell 0, b8.cell 1, b8.cell 2, b8.cell 3, b8.cell 4, b8.cell 5⟩
    obtain ⟨y0, y1, y2, y3, y4, y5⟩ : StepCells wc p9 SD s B2 d2 := ⟨b9.cell 0, b9.cell 1, b9.cell 2, b9.cell 3, b9.cell 4, b9.cell 5⟩
    clear b8 b9 HT9
    go_upto_block 2 with fail
    go_wp2
    clear x0 x1 x2 x3 x4 x5 y0 y1 y2 y3 y4 y5
    go_loopg [10] s.keys.length (fun gk t wx => ∃ (k : Nat), k ≤ s.keys.length ∧ t = .int .i64 k ∧ gk = s.keys.length - k ∧ Hid (Keeps (fun _ => False) wc wx))
    case atStart => exact ⟨0, by omega, rfl, rfl, Lib.hid (Keeps.refl _ _)⟩
    case round =>
     obtain ⟨k, hkn, rfl, hgk2, HKZ⟩ := hrel
     have HGK2 := Lib.hid hgk2
     clear hgk2
     obtain ⟨⟨x5, y5⟩, hr1, hr2⟩ := HCE.out _ HKZ.out
     by_cases hlk : k < s.keys.length
     ·obtain ⟨g3, o3, t, hB, hkt, hck⟩ := textAt hr1 hlk
      obtain ⟨g4, o4, t', hB2, hkt', hck'⟩ := textAt hr2 hlk
      rw [hkt] at hkt'
      injection hkt' with hkt'
      subst hkt' hB hB2
      have HT3 := Lib.hid (And.intro (And.intro x5 y5) (And.intro hck hck'))
      have hk0 : (0 : Int) ≤ (k : Int) := by omega
      have hkN : (k : Int) < (s.keys.length : Int) := by omega
      have hcmp : (t.toList == t.toList) = true := beq_self_eq_true _
      clear hr1 hr2 hkt hck hck'
      go_upto_region 15 with fail
      refine wp_region_held_drew (S := Keeps (fun _ => False) wr) (by kernel_rfl) (Keeps.refl _ _).drew (fun hHeld => ?_)
      refine tI 0 85 hHeld ?_
      try simp only [pu]
      refine tH (i := 1) (oi := ⟨some 86, _, _, _, _, _⟩) (v := ?_) rfl (Or.inl ⟨by rfl, ?_⟩) hHeld ?_
      rotate_left
      ·intro w' hSw
       have cv := cell_keep hSw HT3.out.1.1
       go_simp
       first | done | rfl
      try simp only [pu]
      refine tI 2 87 hHeld ?_
      try simp only [pu]
      refine tI 3 88 hHeld ?_
      try simp only [pu]
      refine tH (i := 4) (oi := ⟨some 89, _, _, _, _, _⟩) (v := ?_) rfl (Or.inl ⟨by rfl, ?_⟩) hHeld ?_
      rotate_left
      ·intro w' hSw
       have cv := cell_keep hSw HT3.out.2.1
       go_simp
       first | done | rfl
      try simp only [pu]
      refine tI 5 90 hHeld ?_
      try simp only [pu]
      refine tH (i := 6) (oi := ⟨some 91, _, _, _, _, _⟩) (v := ?_) rfl (Or.inl ⟨by rfl, ?_⟩) hHeld ?_
      rotate_left
      ·intro w' hSw
       have cv := cell_keep hSw HT3.out.1.2
       go_simp
       first | done | rfl
      try simp only [pu]
      refine tI 7 92 hHeld ?_
      try simp only [pu]
      refine tI 8 93 hHeld ?_
      try simp only [pu]
      refine tH (i := 9) (oi := ⟨some 94, _, _, _, _, _⟩) (v := ?_) rfl (Or.inl ⟨by rfl, ?_⟩) hHeld ?_
      rotate_left
      ·intro w' hSw
       have cv := cell_keep hSw HT3.out.2.2
       go_simp
       first | done | rfl
      try simp only [pu]
      refine tI 10 95 hHeld ?_
      try simp only [pu]
      refine wpAnyH_done (by kernel_rfl) ?_ _
      have HK9 := Lib.hid hHeld
      clear hHeld x5 y5
      go_wp2
      go_roundg (s.keys.length - (k + 1))
      case measure => rw [HGK2.out]; omega
      case rel => exact ⟨k + 1, by omega, by go_num, rfl, Lib.hid (HKZ.out.trans HK9.out (fun _ _ h => h))⟩
     ·have hke : (k : Int) = (s.keys.length : Int) := by omega
      have HKE := Lib.hid hke
      have hkd : decide (k < s.keys.length) = false := decide_eq_false hlk
      clear hr1 hr2 hke
      go_wp2
      go_roundg (n - (i + 1))
      case measure => rw [HGK.out]; omega
      case rel => exact ⟨i + 1, by omega, by go_num, rfl, Lib.hid ((HKX.out.trans HKC.out (fun _ _ h => h)).trans HKZ.out (fun _ _ h => h))⟩
  ·obtain rfl : i = n := by omega
   go_wp2
   go_ret
   exact ⟨rfl, HK3.out.trans HKX.out (fun _ _ h => h)⟩
end Go.Proofs.YtdmcioghdindfaaGreatDoor
