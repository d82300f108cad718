/-
  Texts put together: NStepsW; NNameW; NTreeW; StoK.
-/
import Derived.Test.YtdmcioghdindfaaGreatQ24
import Derived.Test.YtdmcioghdindfaaGreatQ05
import Derived.Deep.LoopGhost
import Derived.Deep.CutRange
import Derived.Deep.CutBlock
import Derived.Deep.OwnRows
import Derived.Deep.RegionHeld3
import Derived.Stop.Asserts
import Derived.Laws.Pointers
import Derived.Test.YtdmcioghdindfaaGreatQ04
import Derived.Test.YtdmcioghdindfaaGreatQ03
set_option linter.unusedSimpArgs false
namespace Go.Proofs.YtdmcioghdindfaaGreat
open Go Go.RowKit Go.Aff Go.Json
theorem infoStepA : (Tryz.prog.info? 44).map (fun i => (i.zero, i.size, i.bytes)) = some (some (.agg #[.int .i64 0, .bool false, .int .u64 0, .string .empty, .int .i64 0, .slice none 0 0]), 6, 72) := by kernel_rfl
theorem infoStepA2 : (Tryz.prog.info? 44).map (fun i => (i.zero, i.size)) = some (some (.agg #[.int .i64 0, .bool false, .int .u64 0, .string .empty, .int .i64 0, .slice none 0 0]), 6) := by kernel_rfl
theorem flat_cons6 {sss : List (List Value)} {SC : List Value} : (sss ++ [SC]).flatten = sss.flatten ++ SC := by rw [List.flatten_append]; simp
theorem SList.monoW {D C : Nat → Prop} {w : World} {sss : List (List Value)} {l : List StepV} (h : SList D w sss l) (hC : ∀ i, D i → i < w.heap.size → C i) : SList C w sss l := ⟨h.1, fun i cs s h1 h2 => by
 obtain ⟨B, d, e, hr, hB⟩ := h.2 i cs s h1 h2
 exact ⟨B, d, e, hr, Rd.inB hr hB hC⟩⟩
structure RowSt (w0 w : World) (A : Option Addr) (q c : Nat) (sss : List (List Value)) (l : List StepV) : Prop where
 own : MineS 6 w0 w 44 A q c sss.flatten
 lst : SList (Br w0 (.slice A q c)) w sss l
 len : l.length = q
section
variable {w0 w w' : World} {A : Option Addr} {q c : Nat} {sss : List (List Value)} {l : List StepV}
theorem RowSt.nil (w : World) : RowSt w w none 0 0 [] [] := ⟨MineS.nil 6 w _, SList.nil _ w, rfl⟩
theorem RowSt.stay (h : RowSt w0 w A q c sss l) (hk : Keeps (fun _ => False) w w') : RowSt w0 w' A q c sss l := ⟨h.own.keep hk, h.lst.stay hk, h.len⟩
theorem RowSt.grown (h : RowSt w0 w A q c sss l) {W : World} (hW : Keeps (fun _ => False) w W) {A' : Option Addr} {c' : Nat} {s : StepV} {B : Option Addr} {d : Nat}
  (ho : w'.ownsRow 0 44 6 (.slice A' (q + 1) c') (q + 1) (sss.flatten ++ stepV s B d)) (hg : W.grownBy w' (Value.slice A q c).ownBlock)
  (hb : (Value.slice A' (q + 1) c').ownBlock = (Value.slice A q c).ownBlock ∨ (Value.slice A' (q + 1) c').ownBlock = some W.heap.size)
  (hr : Rd w B s.keys.length (s.keys.map .string)) (hB : InB (Br w0 (.slice A q c)) B s.keys.length) : RowSt w0 w' A' (q + 1) c' (sss ++ [stepV s B d]) (l ++ [s]) := by
 refine ⟨?_, ?_, by rw [List.length_append, h.len]; rfl⟩
 ·rw [flat_cons6]
  exact (h.own.keep hW).grown ho hg hb
 ·have hall : Keeps (fun i => (Value.slice A q c).ownBlock = some i) w w' := (hW.mono (fun _ _ h => h.elim)).trans (Keeps.of_grown hg) (fun i _ e => e)
  have hlst : SList (Br w0 (.slice A q c)) w (sss ++ [stepV s B d]) (l ++ [s]) := h.lst.app (SList.one hr hB)
  refine ((hlst.monoW (C := fun i => Br w0 (.slice A q c) i ∧ i < w.heap.size) fun i hi hlt => ⟨hi, hlt⟩).keep hall fun i hi e => hi.1.2 e).mono fun i hi => ⟨hi.1.1, fun e => ?_⟩
  rcases hb with e1 | e1
  ·rw [e1] at e; exact hi.1.2 e
  ·rw [e1] at e
   injection e with e
   have := hW.size
   have := hi.2
   omega
end
def NStPost (w0 w : World) (A : Option Addr) (q c : Nat) (sss : List (List Value)) (l ls : List StepV) (e : Ending) (w' : World) : Prop :=
 ∃ A' c' ttt, e = .returned (.slice A' (q + ls.length) c') ∧ RowSt w0 w' A' (q + ls.length) c' (sss ++ ttt) (l ++ ls) ∧ Keeps (fun i => (Value.slice A q c).ownBlock = some i) w w' ∧
  ∀ g, (Value.slice A' (q + ls.length) c').ownBlock = some g → (Value.slice A q c).ownBlock = some g ∨ w.heap.size ≤ g
def SwR (j : JV) (p : Nat) (w wx : World) : Prop := ∃ B d, Keeps (fun _ => False) w wx ∧ Blk wx p 44 (stepV j.last B d) ∧ Rd wx B j.keys.length (j.keys.map .string) ∧ InB (fun i => w.heap.size ≤ i) B j.keys.length
structure StL (w0 w w5 wx : World) (A : Option Addr) (q c : Nat) (A1 : Option Addr) (q1 c1 : Nat) (sss : List (List Value)) (l : List StepV) : Prop where
 row : RowSt w0 wx A1 q1 c1 sss l
 keep : Keeps (fun i => (Value.slice A q c).ownBlock = some i) w5 wx
 old : ∀ g, (Value.slice A1 q1 c1).ownBlock = some g → (Value.slice A q c).ownBlock = some g ∨ w5.heap.size ≤ g
theorem SwR.leaf {j : JV} {p : Nat} {w wx : World} (hk : Keeps (fun _ => False) w wx) (hb : Blk wx p 44 (stepV j.last none 0)) (h : j.keys = []) : SwR j p w wx :=
 ⟨none, 0, hk, hb, by rw [h]; exact Rd.nil _ _, by rw [h]; exact InB.zero _ _⟩
set_option maxHeartbeats 4000000 in
set_option maxRecDepth 100000 in
theorem nsteps_one {D : Nat → Prop} (w0 : World) (v : Value) (j : JV) (hj : JAt D w0 v j) (hok : JOk j) (w : World) (A : Option Addr) (q c : Nat) (sss : List (List Value)) (l : List StepV) (h : RowSt w0 w A q c sss l) (hq : q + j.nodes ≤ 1099511627776)
  (ih : ∀ x, x ∈ j.items → ∀ (u : Value), JAt D w0 u x → ∀ (w : World) (A : Option Addr) (q c : Nat) (sss : List (List Value)) (l : List StepV), RowSt w0 w A q c sss l → q + x.nodes ≤ 1099511627776 → Calls Tryz.prog 63 #[.slice A q c, u] w (NStPost w0 w A q c sss l x.steps)) :
  Calls Tryz.prog 63 #[.slice A q c, v] w (NStPost w0 w A q c sss l j.steps) := by
 obtain ⟨T, y, f, u, hv, hm, he, hc⟩ := sort_inv hj
 have hmw := hm w
 have HC := Lib.hid (hc w)
 unfold Ent at he
 have HJ := Lib.hid hj
 have HOK := Lib.hid hok
 have HST := Lib.hid h
 have HIH := Lib.hid ih
 have HIT := Lib.hid (items_inv hj)
 have HQ := Lib.hid hq
 have HV := Lib.hid hv
 obtain ⟨so, hso⟩ : ∃ so, so = j.sort := ⟨_, rfl⟩
 rw [← hso] at HC
 have HSO := Lib.hid hso
 subst hv
 clear hj hok h hq ih hm hc hso
 go_enter Tryz.func63, Tryz.ntmps63
 go_upto_block 0 with (go_at_fn f; refine HC.out.mono ?_; rintro e w2 ⟨rfl, hk2⟩; have HK2 := Lib.hid hk2; have hz := Blk.new w2 44 [.int .i64 0, .bool false, .int .u64 0, .string .empty, .int .i64 0, .slice none 0 0]; have f0 := hz.frozen 0; have f1 := hz.frozen 1; have f2 := hz.frozen 2; have f3 := hz.frozen 3; have f4 := hz.frozen 4; have f5 := hz.frozen 5; clear hk2 hz)
 obtain ⟨p, hp⟩ : ∃ p, p = w2.heap.size := ⟨_, rfl⟩
 rw [← hp]
 refine gen_codeF (fun W => Keeps (fun _ => False) w W ∧ Blk W p 44 [.int .i64 so, .bool false, .int .u64 0, .string .empty, .int .i64 0, .slice none 0 0]) (by rw [hp]; exact ⟨HK2.out.alloc _, Blk.new w2 _ _⟩) ?_
 rintro w3 ⟨hk3, hb3⟩
 have HK3 := Lib.hid hk3
 have HB3 := Lib.hid hb3
 have HP : Hid (w.heap.size ≤ p) := Lib.hid (by rw [hp]; exact HK2.out.size)
 have e0 := hb3.cell 0
 have e1 := hb3.cell 1
 have e2 := hb3.cell 2
 have e3 := hb3.cell 3
 have e4 := hb3.cell 4
 have e5 := hb3.cell 5
 have g0 := hb3.frozen 0
 have g1 := hb3.frozen 1
 have g2 := hb3.frozen 2
 have g3 := hb3.frozen 3
 have g4 := hb3.frozen 4
 have g5 := hb3.frozen 5
 clear f0 f1 f2 f3 f4 f5 hk3 hb3 hp hmw he HC
 go_cut [5] (fun t wx => t = .pointer (some ⟨p, 0, none⟩) ∧ Hid (SwR j p w wx))
 case first =>
  have hsw : Hid (w0.heap.size ≤ w.heap.size) := Lib.hid HST.out.own.2.1.size
  have HKS : Hid (∀ i v, Keeps (fun _ => False) w (w3.setCell ⟨p, i, none⟩ v)) := Lib.hid fun i v => HK3.out.setCell (p := ⟨p, i, none⟩) (.inr HP.out) v
  have hj := HJ.out
  cases hj with
  | null =>
   have hs := HSO.out
   subst hs
   have a1 := as_null_flag
   have a2 := as_null_num
   have a3 := as_null_text
   have a4 := as_null_list
   have a5 := as_null_obj
   go_wp2
   go_meet
   exact ⟨rfl, Lib.hid (SwR.leaf HK3.out HB3.out rfl)⟩
  | flag b =>
   have hs := HSO.out
   subst hs
   have a1 := as_flag_flag
   go_wp2
   go_meet
   exact ⟨rfl, Lib.hid (SwR.leaf (HKS.out 1 (.bool b)) (HB3.out.set_ 1 (.bool b)) rfl)⟩
  | num b =>
   have hs := HSO.out
   subst hs
   have a1 := as_num_flag
   have a2 := as_num_num
   have hbo := bitsof b
   go_wp2
   go_meet
   exact ⟨rfl, Lib.hid (SwR.leaf (HKS.out 2 (.int .u64 b)) (HB3.out.set_ 2 (.int .u64 b)) rfl)⟩
  | text t =>
   have hs := HSO.out
   subst hs
   have a1 := as_text_flag
   have a2 := as_text_num
   have a3 := as_text_text
   go_wp2
   go_meet
   exact ⟨rfl, Lib.hid (SwR.leaf (HKS.out 3 (.string t)) (HB3.out.set_ 3 (.string t)) rfl)⟩
  | @list bb Al cl vs ls hD hbl hr ho hl =>
   have hs := HSO.out
   subst hs
   have hbW := (HST.out.own.2.1.trans HK3.out (fun _ _ h => h)).blk hbl (fun h => h)
   have d3 : w3.cell? ⟨bb, 3, none⟩ = some (.slice Al ls.length cl) := hbW.cell 3
   obtain ⟨n, hn⟩ : ∃ n, n = ls.length := ⟨_, rfl⟩
   rw [← hn] at d3
   have HN := Lib.hid hn
   have a1 := as_list_flag
   have a2 := as_list_num
   have a3 := as_list_text
   have a4 := as_list_list
   clear hD hbl hr ho hl hbW hn
   go_wp2
   go_meet
   exact ⟨rfl, Lib.hid (SwR.leaf (HKS.out 4 (.int .i64 n)) (by
    have := HB3.out.set_ 4 (.int .i64 n)
    rw [HN.out] at this ⊢
    exact this) rfl)⟩
  | @obj bb Al Bl cl dl vs ks ls hD hbl hk hok2 hr ho hl =>
   have hs := HSO.out
   subst hs
   have hw03 := HST.out.own.2.1.trans HK3.out (fun _ _ h => h)
   have hbW := hw03.blk hbl (fun h => h)
   have d3 : w3.cell? ⟨bb, 3, none⟩ = some (.slice Bl ks.length dl) := hbW.cell 3
   obtain ⟨n, hn⟩ : ∃ n, n = ks.length := ⟨_, rfl⟩
   have hkn : n ≤ 1099511627776 := by
    have h1 := HOK.out.form.1
    have h2 := items_nodes (.obj ks ls)
    have h3 := HQ.out
    have h4 : (JV.obj ks ls).keys.length = n := hn.symm
    omega
   have HCL : Hid (Calls Tryz.prog 75 #[.slice Bl n dl] w3 fun e w' => ∃ A' c', e = .returned (.slice A' n c') ∧ Mine w3 w' 9 A' n c' (ks.map .string)) := Lib.hid (sclone_any w3 Bl n dl _ (by rw [hn]; exact hk.keep hw03 (fun _ _ _ h => h)) (by intro u hu; obtain ⟨s, _, rfl⟩ := List.mem_map.1 hu; rfl) hkn)
   rw [← hn] at d3
   have HN := Lib.hid hn
   have a1 := as_obj_flag
   have a2 := as_obj_num
   have a3 := as_obj_text
   have a4 := as_obj_list
   have a5 := as_obj_obj
   clear hD hbl hk hok2 hr ho hl hbW hn hw03
   go_wp2_with (go_at_call 75; refine HCL.out.mono ?_; rintro e w7 ⟨A7, c7, rfl, hm7⟩; have HM7 := Lib.hid hm7; have hb7 := hm7.2.1.blk HB3.out (fun h => h); have HB7 := Lib.hid hb7; have x5 := hb7.cell 5; have y5 := hb7.frozen 5; clear hm7 hb7)
   go_meet
   refine ⟨rfl, Lib.hid ⟨A7, c7, (HK3.out.trans HM7.out.2.1 (fun _ _ h => h)).setCell (p := ⟨p, 5, none⟩) (.inr HP.out) _, ?_, ?_, ?_⟩⟩
   ·have := HB7.out.set_ 5 (.slice A7 n c7)
    rw [HN.out] at this ⊢
    exact this
   ·have hk : Keeps (fun i => i = p) w7 (w7.setCell ⟨p, 5, none⟩ (.slice A7 n c7)) := (Keeps.refl (fun i => i = p) w7).setCell (p := ⟨p, 5, none⟩) (.inl rfl) _
    have hr := HM7.out.rd
    rw [HN.out] at hr hk ⊢
    refine hr.keep hk (fun _ ad e h => ?_)
    have h1 := HM7.out.2.2 ad.block (by subst e; rfl)
    have h2 := HB3.out.lt
    omega
   ·show InB _ A7 ks.length
    rw [← HN.out]
    exact (MineS.inB HM7.out).mono fun i hi => Nat.le_trans HK3.out.size hi
 case rest =>
  obtain ⟨rfl, HSW⟩ := hcut
  obtain ⟨Bk, dk, hkc, hbc, hrk, hik⟩ := HSW.out
  have HKC := Lib.hid hkc
  have HBC := Lib.hid hbc
  have HRK := Lib.hid (And.intro hrk hik)
  obtain ⟨Ai, ci, vs, hit, hitc⟩ := HIT.out
  have HIT2 := Lib.hid hit
  obtain ⟨n, hn⟩ : ∃ n, n = j.items.length := ⟨_, rfl⟩
  have HN := Lib.hid hn
  have HCI : Hid (∀ W, Keeps (fun _ => False) w0 W → Calls Tryz.prog 61 #[.agg #[.iface T y]] W fun e w' => e = .returned (.slice Ai n ci) ∧ Keeps (fun _ => False) W w') := Lib.hid (by rw [hn]; exact hitc)
  have HNB : Hid (n ≤ 1099511627776) := Lib.hid (by have := items_nodes j; have := HQ.out; omega)
  have HKW : Hid (Keeps (fun _ => False) w0 wc) := Lib.hid (HST.out.own.2.1.trans hkc (fun _ _ h => h))
  clear hkc hbc hrk hik hit hitc hn HIT HSW e0 e1 e2 e3 e4 e5 g0 g1 g2 g3 g4 g5 HB3
  go_upto_block 1 with (go_at_call 61; refine (HCI.out _ HKW.out).mono ?_; rintro e w5 ⟨rfl, hk5⟩; have HK5 := Lib.hid hk5; clear hk5)
  have hnb := HNB.out
  go_wp2
  go_loopg [0, 55] n (fun gk x t wx => ∃ (i : Nat) (A1 : Option Addr) (q1 c1 : Nat) (sss1 : List (List Value)), i ≤ n ∧ x = .slice A1 q1 c1 ∧ t = .int .i64 i ∧ gk = n - i ∧ Hid (StL w0 w w5 wx A q c A1 q1 c1 (sss ++ sss1) (l ++ stepsTo j i)))
  case atStart => exact ⟨0, A, q, c, [], by omega, rfl, rfl, rfl, Lib.hid ⟨by
   have h1 := HST.out.stay (HKC.out.trans HK5.out (fun _ _ h => h))
   rw [List.append_nil, show stepsTo j 0 = [] by simp [stepsTo], List.append_nil]
   exact h1, Keeps.refl _ _, fun g h => .inl h⟩⟩
  case round =>
   obtain ⟨i, A1, q1, c1, sss1, hin, rfl, rfl, hgk, HS⟩ := hrel
   have HGK := Lib.hid hgk
   clear hgk
   have HW0 : Hid (Keeps (fun _ => False) w0 wr) := Lib.hid HS.out.row.own.2.1
   by_cases hlt : i < n
   ·obtain ⟨g, o, hAi, hcl⟩ := (HIT2.out.rd.keep HW0.out (fun _ _ _ h => h)).2 (by have := HN.out; omega)
    subst hAi
    obtain ⟨x, hx⟩ : ∃ x, j.items[i]? = some x := ⟨_, List.getElem?_eq_getElem (by have := HN.out; omega)⟩
    obtain ⟨u, hu⟩ : ∃ u, vs[i]? = some u := ⟨_, List.getElem?_eq_getElem (by have := HIT2.out.rd.1; have := HN.out; omega)⟩
    have ck : wr.cell? ⟨g, o + i, none⟩ = some u := by rw [hcl i (by have := HN.out; omega), hu]
    have hu1 := (HIT2.out.at_ i u x hu hx).one
    have hqx : q1 + x.nodes ≤ 1099511627776 := by
     have h1 := HS.out.row.len
     have h2 := stepsTo_le j (i + 1)
     rw [stepsTo_next hx, List.length_append, steps_len x] at h2
     rw [List.length_append, HST.out.len] at h1
     have := HQ.out
     omega
    obtain ⟨m, hm⟩ : ∃ m, m = x.steps.length := ⟨_, rfl⟩
    have HCALL : Hid (Calls Tryz.prog 63 #[.slice A1 q1 c1, u] wr fun e w' => ∃ A' c' ttt, e = .returned (.slice A' (q1 + m) c') ∧ Hid (RowSt w0 w' A' (q1 + m) c' ((sss ++ sss1) ++ ttt) ((l ++ stepsTo j i) ++ x.steps) ∧ Keeps (fun i => (Value.slice A1 q1 c1).ownBlock = some i) wr w' ∧
      ∀ g, (Value.slice A' (q1 + m) c').ownBlock = some g → (Value.slice A1 q1 c1).ownBlock = some g ∨ wr.heap.size ≤ g)) := Lib.hid (by
     refine (HIH.out x (List.mem_of_getElem? hx) u (HIT2.out.at_ i u x hu hx) wr A1 q1 c1 _ _ HS.out.row hqx).mono ?_
     rintro e w' ⟨A', c', ttt, he, h1, h2, h3⟩
     rw [← hm] at he h1 h3
     exact ⟨A', c', ttt, he, Lib.hid ⟨h1, h2, h3⟩⟩)
    have HNX := Lib.hid (stepsTo_next hx)
    clear hcl hx hu hqx hm
    go_wp2_with (go_at_call 63; refine HCALL.out.mono ?_; rintro e w6 ⟨A6, c6, ttt, rfl, HR6⟩)
    go_roundg (n - (i + 1))
    case measure => rw [HGK.out]; omega
    case rel =>
     refine ⟨i + 1, A6, q1 + m, c6, sss1 ++ ttt, by omega, rfl, by go_num, rfl, Lib.hid ⟨?_, ?_, ?_⟩⟩
     ·rw [HNX.out, ← List.append_assoc, ← List.append_assoc]
      exact HR6.out.1
     ·refine HS.out.keep.trans HR6.out.2.1 (fun k hk e => ?_)
      rcases HS.out.old k e with h1 | h1
      ·exact h1
      ·omega
     ·intro k hk
      rcases HR6.out.2.2 k hk with h1 | h1
      ·exact HS.out.old k h1
      ·exact .inr (Nat.le_trans HS.out.keep.size h1)
   ·obtain rfl : i = n := by omega
    have HLT : Hid (∀ k, (Value.slice A q c).ownBlock = some k → k < w.heap.size) := Lib.hid fun k hk => HST.out.own.own_lt hk
    have HE : Hid (j.steps = stepsTo j i ++ [j.last]) := Lib.hid (by rw [HN.out]; exact stepsTo_all j)
    have HQL : Hid (q + j.steps.length = q1 + 1 ∧ q1 + 1 ≤ 1099511627776) := Lib.hid (by
     have h1 := HS.out.row.len
     rw [List.length_append, HST.out.len] at h1
     have h2 : j.steps.length = (stepsTo j i).length + 1 := by rw [HE.out, List.length_append]; rfl
     have h3 := HQ.out
     rw [← steps_len] at h3
     exact ⟨by omega, by omega⟩)
    obtain ⟨SC, hSC⟩ : ∃ SC, SC = stepV j.last Bk dk := ⟨_, rfl⟩
    have HSC := Lib.hid hSC
    have HSL : Hid (SC.length = 6) := Lib.hid (by rw [hSC]; rfl)
    have HSI : Hid ((Tryz.prog.info? 44).map (·.size) = some SC.length) := Lib.hid (by rw [HSL.out]; kernel_rfl)
    have HSOC : Hid (∀ u ∈ SC, u.oneCell' = true) := Lib.hid (by rw [hSC]; exact stepV_one _ _ _)
    have HKR : Hid (Keeps (fun k => (Value.slice A q c).ownBlock = some k) wc wr) := Lib.hid ((HK5.out.mono (fun _ _ h => h.elim)).trans HS.out.keep (fun _ _ h => h))
    have HBR : Hid (Blk wr p 44 SC) := Lib.hid (by
     rw [hSC]
     exact HKR.out.blk HBC.out (fun e => by have := HLT.out p e; have := HP.out; omega))
    have HEND : Hid (∀ A7 c7 w7, w7.ownsRow 0 44 6 (.slice A7 (q1 + 1) c7) (q1 + 1) ((sss ++ sss1).flatten ++ SC) → (wr.alloc (.cells SC.toArray 44)).grownBy w7 (Value.slice A1 q1 c1).ownBlock →
      ((Value.slice A7 (q1 + 1) c7).ownBlock = (Value.slice A1 q1 c1).ownBlock ∨ (Value.slice A7 (q1 + 1) c7).ownBlock = some (wr.alloc (.cells SC.toArray 44)).heap.size) → NStPost w0 w A q c sss l j.steps (.returned (.slice A7 (q1 + 1) c7)) w7) := Lib.hid fun A7 c7 w7 ho hg hb => by
     rw [HSC.out] at ho
     have hIn : InB (fun k => w.heap.size ≤ k ∧ k < wc.heap.size) Bk j.keys.length := Rd.inB HRK.out.1 HRK.out.2 fun k h1 h2 => ⟨h1, h2⟩
     have hrow := HS.out.row.grown (s := j.last) (B := Bk) (d := dk) ((Keeps.refl _ wr).alloc _) ho hg hb (by
      rw [last_keys]
      exact HRK.out.1.keep HKR.out (HRK.out.2.out fun k h1 e => by have := HLT.out k e; omega)) (by
      rw [last_keys]
      refine hIn.mono fun k hk => ⟨Nat.le_trans HST.out.own.2.1.size hk.1, fun e => ?_⟩
      rcases HS.out.old k e with h1 | h1
      ·have := HLT.out k h1; omega
      ·have := HK5.out.size; omega)
     refine ⟨A7, c7, sss1 ++ [SC], by rw [HQL.out.1], ?_, ?_, ?_⟩
     ·rw [HQL.out.1, HE.out, HSC.out, ← List.append_assoc, ← List.append_assoc]
      exact hrow
     ·have h1 : Keeps (fun k => (Value.slice A q c).ownBlock = some k) w wr := (HKC.out.mono (fun _ _ h => h.elim)).trans HKR.out (fun _ _ h => h)
      refine (h1.alloc _).trans (Keeps.of_grown hg) (fun k hk e => ?_)
      rcases HS.out.old k e with h2 | h2
      ·exact h2
      ·have := HK5.out.size; have := HKC.out.size; omega
     ·rw [HQL.out.1]
      intro k hk
      have hws : w.heap.size ≤ w5.heap.size := Nat.le_trans HKC.out.size HK5.out.size
      rcases hb with h1 | h1
      ·rw [h1] at hk
       rcases HS.out.old k hk with h2 | h2
       ·exact .inl h2
       ·exact .inr (Nat.le_trans hws h2)
      ·rw [h1] at hk
       injection hk with hk
       have := HS.out.keep.size
       rw [World.size_alloc] at hk
       exact .inr (by omega)
    clear hSC
    go_wp2_with (first
     | ((with_reducible show wpList _ _ _ (⟨some 64, _, _, _, _, _⟩ :: _) _ _); refine wpList_load_whole rfl 44 _ rfl _ rfl HBR.out Tryz.underlying44 rfl HSI.out ?_)
     | ((with_reducible show wpList _ _ _ (⟨some 65, _, _, _, _, _⟩ :: _) _ _); refine wpList_box_S _ rfl 22 44 (.tmp 64) rfl (.agg #[.int .i64 0, .bool false, .int .u64 0, .string .empty, .int .i64 0, .slice none 0 0]) 6 Tryz.underlying22 infoStepA2 (by decide) (by decide) SC HSL.out rfl ?_)
     | (at_builtin; refine wpList_append_S _ rfl (.tmp 63) (.tmp 65) 22 rfl 44 (.agg #[.int .i64 0, .bool false, .int .u64 0, .string .empty, .int .i64 0, .slice none 0 0]) 6 72 Tryz.underlying22 infoStepA rfl (by decide) A1 q1 c1 _ rfl (HS.out.row.own.keep ((Keeps.refl _ wr).alloc _)).1 _ 1 1 SC rfl (RdS.blk (Blk.new _ 44 SC) (by rw [HSL.out])) HSOC.out (by have := HQL.out.2; unfold maxLen; omega) (by have := HQL.out.2; omega) ?_; intro A7 c7 w7 ho7 hg7 hb7; have HE7 := Lib.hid (HEND.out A7 c7 w7 ho7 hg7 hb7); clear ho7 hg7 hb7))
    go_ret
    exact HE7.out
theorem nsteps_any {D : Nat → Prop} (w0 : World) : ∀ (j : JV), JOk j → ∀ (v : Value), JAt D w0 v j → ∀ (w : World) (A : Option Addr) (q c : Nat) (sss : List (List Value)) (l : List StepV), RowSt w0 w A q c sss l → q + j.nodes ≤ 1099511627776 →
  Calls Tryz.prog 63 #[.slice A q c, v] w (NStPost w0 w A q c sss l j.steps) := by
 intro j hok
 induction hok with
 | mk j h1 h2 hp hr ht h ih =>
  intro v hv w A q c sss l hrow hq
  exact nsteps_one w0 v j hv (.mk j h1 h2 hp hr ht h) w A q c sss l hrow hq fun x hx u hu w A q c sss l hrow hq => ih x hx u hu w A q c sss l hrow hq
end Go.Proofs.YtdmcioghdindfaaGreat

set_option linter.unusedSimpArgs false
namespace Go.Proofs.YtdmcioghdindfaaGreat
open Go Go.RowKit Go.Aff Go.Json
def noneF (ps : List (Option Addr)) : Value := if ps.any (·.isNone) then errE 1 else .nilIface
set_option maxHeartbeats 4000000 in
set_option maxRecDepth 100000 in
theorem none_any (w : World) (A : Option Addr) (n c : Nat) (ps : List (Option Addr)) (hr : Rd w A n (ps.map .pointer)) (hn : n ≤ 1000000) :
  Calls Tryz.prog 15 #[.slice A n c] w fun e w' => e = .returned (noneF ps) ∧ w' = w := by
 have HL : Hid (ps.length = n) := Lib.hid (by simpa using hr.1)
 have HR : Hid (∀ j, j < n → ∃ g o p, A = some ⟨g, o, none⟩ ∧ ps[j]? = some p ∧ w.cell? ⟨g, o + j, none⟩ = some (.pointer p)) := Lib.hid fun j hj => by
  obtain ⟨g, o, e, hc⟩ := hr.2 (by omega)
  obtain ⟨p, hp⟩ : ∃ p, ps[j]? = some p := ⟨_, List.getElem?_eq_getElem (by have := HL.out; omega)⟩
  refine ⟨g, o, p, e, hp, ?_⟩
  rw [hc j hj, List.getElem?_map, hp]
  rfl
 clear hr
 go_enter Tryz.func15, Tryz.ntmps15
 go_upto_block 0 with fail
 go_wp2
 go_loopg [7] n (fun g2 i w3 => ∃ j, j ≤ n ∧ i = .int .i64 j ∧ g2 = n - j ∧ Hid (w3 = w ∧ (ps.take j).any (·.isNone) = false))
 case atStart => exact ⟨0, by omega, rfl, rfl, Lib.hid ⟨rfl, by simp⟩⟩
 case round =>
  obtain ⟨j, hj, rfl, hg2, HA⟩ := hrel
  have HG2 := Lib.hid hg2
  clear hg2
  obtain ⟨rfl, _⟩ := HA.out
  by_cases hlt : j < n
  ·obtain ⟨g, o, p, hA, hp, hcl⟩ := HR.out j hlt
   subst hA
   have HP := Lib.hid hp
   clear hp
   cases p with
   | none =>
    have HN : Hid (noneF ps = errE 1) := Lib.hid (by
     unfold noneF
     rw [if_pos]
     rw [List.any_eq_true]
     exact ⟨none, List.mem_of_getElem? HP.out, rfl⟩)
    go_wp2
    go_ret
    rw [HN.out]
    exact ⟨rfl, rfl⟩
   | some p =>
    have HT : Hid ((ps.take (j + 1)).any (·.isNone) = false) := Lib.hid (by
     rw [List.take_add_one, HP.out, List.any_append, HA.out.2]
     rfl)
    go_wp2
    go_roundg (n - (j + 1))
    case measure => rw [HG2.out]; omega
    case rel => exact ⟨j + 1, by omega, by go_num, rfl, Lib.hid ⟨rfl, HT.out⟩⟩
  ·obtain rfl : j = n := by omega
   have HN : Hid (noneF ps = .nilIface) := Lib.hid (by
    unfold noneF
    have h := HA.out.2
    rw [List.take_of_length_le (by rw [HL.out]; exact Nat.le_refl _)] at h
    rw [h]
    rfl)
   go_wp2
   go_ret
   rw [HN.out]
   exact ⟨rfl, rfl⟩
set_option maxRecDepth 100000 in
theorem root_any (w : World) (q : Nat) (T : TypeId) (x : Value) (hb : Blk w q 78 [.iface T x]) :
  Calls Tryz.prog 19 #[.pointer (some ⟨q, 0, none⟩)] w fun e w' => e = .returned (.agg #[.iface T x]) ∧ Keeps (fun _ => False) w w' := by
 have hb1 := hb.alloc (.cells #[.nilIface] 60)
 have c0 := hb1.cell 0
 have f0 := (Blk.new w 60 [.nilIface]).frozen 0
 have HR := Lib.hid (Blk.new w 60 [.iface T x])
 have HK := Lib.hid ((Keeps.refl (fun _ => False) w).alloc (.cells #[.iface T x] 60))
 clear hb hb1
 go_enter Tryz.func19, Tryz.ntmps19
 go_wp2
 exact bodyPost_ret (results_blk rfl _ _ rfl HR.out Tryz.underlying60 rfl (by kernel_rfl)) rfl ⟨rfl, HK.out⟩
end Go.Proofs.YtdmcioghdindfaaGreat

set_option linter.unusedSimpArgs false
namespace Go.Proofs.YtdmcioghdindfaaGreat
open Go Go.RowKit Go.Aff Go.Json
set_option maxRecDepth 100000 in
theorem refsteps_any {D : Nat → Prop} (w : World) (v : Value) (j : JV) (hj : JAt D w v j) (hok : JOk j) (hn : j.nodes ≤ 1099511627776) :
  Calls Tryz.prog 35 #[.agg #[v]] w (StepsPost 44 (fun i => w.heap.size ≤ i) w j.steps) := by
 obtain ⟨T, y, hv⟩ := hj.iface
 subst hv
 have c0 := (Blk.new w 60 [.iface T y]).cell 0
 have hk : Keeps (fun _ => False) w (w.alloc (.cells #[.iface T y] 60)) := (Keeps.refl (fun _ => False) w).alloc _
 have HC : Hid (Calls Tryz.prog 63 #[.slice none 0 0, .iface T y] (w.alloc (.cells #[.iface T y] 60)) (StepsPost 44 (fun i => w.heap.size ≤ i) w j.steps)) := Lib.hid (by
  refine (nsteps_any _ j hok (.iface T y) (hj.stay hk) _ none 0 0 [] [] (RowSt.nil _) (by omega)).mono ?_
  rintro e w' ⟨A', c', ttt, rfl, h1, h2, h3⟩
  rw [Nat.zero_add] at h1 ⊢
  rw [List.nil_append, List.nil_append] at h1
  exact ⟨A', c', ttt, rfl, ⟨h1.own.1, hk.trans h1.own.2.1 (fun _ _ h => h), fun g hg => Nat.le_trans hk.size (h1.own.2.2 g hg)⟩, h1.lst.mono fun i hi => Nat.le_trans hk.size hi.1⟩)
 unfold StepsPost at HC
 clear hj hk hok hn
 go_enter Tryz.func35, Tryz.ntmps35
 go_wp2_with (go_at_call 63; refine HC.out.mono ?_; rintro e w2 ⟨A2, c2, sss, rfl, hm2⟩; have HM2 := Lib.hid hm2; clear hm2)
 go_ret
 exact ⟨A2, c2, sss, rfl, HM2.out⟩
set_option maxRecDepth 100000 in
theorem tsteps_any {D : Nat → Prop} (w : World) (q : Nat) (v : Value) (j : JV) (ht : TreeAt D w q v j) (hok : JOk j) (hn : j.nodes ≤ 1099511627776) :
  Calls Tryz.prog 20 #[.pointer (some ⟨q, 0, none⟩)] w (StepsPost 44 (fun i => w.heap.size ≤ i) w j.steps) := by
 obtain ⟨T, y, hv⟩ := ht.2.2.iface
 subst hv
 have HRT := Lib.hid (root_any w q T y ht.2.1)
 have HC : Hid (∀ W, Keeps (fun _ => False) w W → Calls Tryz.prog 35 #[.agg #[.iface T y]] W (StepsPost 44 (fun i => w.heap.size ≤ i) w j.steps)) := Lib.hid fun W hW => by
  refine (refsteps_any W (.iface T y) j (ht.2.2.stay hW) hok hn).mono ?_
  rintro e w' ⟨A', c', sss, rfl, h1, h2⟩
  exact ⟨A', c', sss, rfl, ⟨h1.1, hW.trans h1.2.1 (fun _ _ h => h), fun g hg => Nat.le_trans hW.size (h1.2.2 g hg)⟩, h2.mono fun i hi => Nat.le_trans hW.size hi⟩
 unfold StepsPost at HC
 clear ht hok hn
 go_enter Tryz.func20, Tryz.ntmps20
 go_wp2_with (first
  | (go_at_call 19; refine HRT.out.mono ?_; rintro e w1 ⟨rfl, hk1⟩; have HK1 := Lib.hid hk1; clear hk1)
  | (go_at_call 35; refine (HC.out _ HK1.out).mono ?_; rintro e w2 ⟨A2, c2, sss, rfl, hm2⟩; have HM2 := Lib.hid hm2; clear hm2))
 go_ret
 exact ⟨A2, c2, sss, rfl, HM2.out⟩
end Go.Proofs.YtdmcioghdindfaaGreat

set_option linter.unusedSimpArgs false
namespace Go.Aff
open Go Go.RowKit
theorem step_store_whole {P : Program} {Q : Exit → Act → World → Prop} {K : Act → World → Prop} {ops : Array Oper} {a : Act} {w : World} {o : Oper} (hgd : o.guard = none) (ty : TypeId) (x v : Operand) (ho : o.op = .store ty x v)
  {g : Nat} {t : TypeId} {cs : List Value} (vs : List Value) (hx : a.eval x = .pointer (some ⟨g, 0, none⟩)) (hv : a.eval v = .agg vs.toArray) (hg : Blk w g t cs) (hl : cs.length = vs.length) (hi : (P.info? ty).map (·.size) = some vs.length) (h1 : ∀ v ∈ vs, v.oneCell' = true)
  (h : K (a.put o.dst undef) (w.setRow g vs.toArray)) : if Region.wanted o (yielded ops a.tmps) = true then Oper.wp P o a w K Q else K (a.put o.dst undef) w := by
 have hw : Region.wanted o (yielded ops a.tmps) = true := by simp [Region.wanted, hgd]
 rw [if_pos hw]
 unfold Oper.wp execOp
 simp only [ho, hx, hv, Instr.storeAt, Instr.sureAddr, Sem.run_bind, Sem.run_pure, Result.andThen_ok, run_storeVar_at ty 0 vs hg (by omega) hi h1]
 rw [splice_all _ _ hl]
 exact h
theorem setRow_keep (w : World) (p : Nat) (cs : Array Value) : Keeps (fun i => i = p) w (w.setRow p cs) := (Keeps.refl (fun i => i = p) w).setRow (.inl rfl) cs
end Go.Aff
