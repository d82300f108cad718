/- Texts. -/
import Derived.Test.YtdmcioghdindfaaGreatDoorT19
set_option linter.unusedSimpArgs false
set_option maxRecDepth 100000
set_option maxHeartbeats 4000000
namespace Go.Proofs.YtdmcioghdindfaaGreatDoor
open Go Go.RowKit Go.Aff Go.Json
theorem rdo_any (w0 w : World) (A : Option Addr) (m c : Nat) (css : List (List Value)) (P : List JV) (h : RowR w0 w A m c css P) (hm : m ≤ 1048576) (hP : RowOk P) (s : StepV) (hf : StepFits s) (hcn : s.count ≤ 9223372036854775807) (B : Option Addr) (d : Nat) (hk : Rd w B s.keys.length (s.keys.map .string)) (hd : s.keys.length ≤ d) :
  Calls Tryz.prog 54 #[.slice A m c, .agg (stepV s B d).toArray] w (DoRPost w0 w A m c P s) := by
 rcases hu : usedF s with _ | _
 ·exact rdo_unused w0 w A m c css P h hm hP s hf B d hk hd hu
 by_cases h3 : s.sort = 3 → finiteF s.bits = true
 ·rcases ht : rightS s.text with _ | _
  ·exact rdo_text w0 w A m c css P h hm hP s hf B d hk hd hu h3 ht
  rcases hkk : s.keys.all rightS with _ | _
  ·exact rdo_keys w0 w A m c css P h hm hP s hf B d hk hd hu h3 ht hkk
  by_cases hn : s.keys.Nodup
  ·rcases Nat.lt_or_ge m (s.count.toNat + s.keys.length) with hlt | hge
   ·exact rdo_few w0 w A m c css P h hm hP s hf B d hk hd hu h3 ht hkk hn hcn hlt
   obtain ⟨_, _, _, h1, h6, _⟩ := used_parts hu
   have hs : (s.sort = 1 ∨ s.sort = 2 ∨ s.sort = 4) ∨ s.sort = 3 ∨ s.sort = 5 ∨ s.sort = 6 := by omega
   rcases hs with hs | hs | hs | hs
   ·exact rdo_leaf w0 w A m c css P h hm hP s hf B d hk hd hu h3 ht hkk hn _ rfl hge hs
   ·exact rdo_num w0 w A m c css P h hm hP s hf B d hk hd hu h3 ht hkk hn _ rfl hge hs
   ·exact rdo_list w0 w A m c css P h hm hP s hf B d hk hd hu h3 ht hkk hn _ rfl hge hs
   exact rdo_obj w0 w A m c css P h hm hP s hf B d hk hd hu h3 ht hkk hn _ rfl hge hs
  exact rdo_twice w0 w A m c css P h hm hP s hf B d hk hd hu h3 ht hkk hn
 ·have a3 : s.sort = 3 ∧ finiteF s.bits = false := by
   by_cases e : s.sort = 3
   ·refine ⟨e, ?_⟩
    rcases hq : finiteF s.bits with _ | _
    ·rfl
    exact absurd (fun _ => hq) h3
   exact absurd (fun h => absurd h e) h3
  exact rdo_inf w0 w A m c css P h hm hP s hf B d hk hd hu a3.1 a3.2
theorem doF_inl {P : List JV} {s : StepV} {k : Int} (h : doF P s = .inl k) : k ≠ 0 := by
 unfold doF at h
 repeat' split at h
 all_goals first
  | (injection h with h; omega)
  | cases h
theorem doF_more {P P' : List JV} {s : StepV} (h : doF P s = .inr P') : P'.length ≤ P.length + 1 := by
 unfold doF at h
 repeat' split at h
 all_goals first
  | (injection h with h; subst h; rw [List.length_append, List.length_take, List.length_singleton]; omega)
  | cases h
def StepsR (w : World) (A : Option Addr) (l : List StepV) : Prop := ∀ (k : Nat) (s : StepV), l[k]? = some s → ∃ g o B d, A = some ⟨g, o, none⟩ ∧ w.rangeAt g (o + k * 6) (stepV s B d) ∧ Rd w B s.keys.length (s.keys.map .string) ∧ s.keys.length ≤ d
theorem StepsR.at_ {w : World} {A : Option Addr} {l : List StepV} (h : StepsR w A l) : StepsAt w A l := fun k s hs => by
 obtain ⟨g, o, B, d, h1, h2, h3, _⟩ := h k s hs
 exact ⟨g, o, B, d, h1, h2, h3⟩
theorem StepsR.stay {w w' : World} {A : Option Addr} {l : List StepV} (h : StepsR w A l) (hk : Keeps (fun _ => False) w w') : StepsR w' A l := fun k s hs => by
 obtain ⟨g, o, B, d, e, hr, hb, hd⟩ := h k s hs
 exact ⟨g, o, B, d, e, fun j v hj => cell_keep hk (hr j v hj), hb.keep hk (fun _ _ _ h => h), hd⟩
structure StepFits2 (s : StepV) : Prop where
 fits : StepFits s
 count : s.count ≤ 9223372036854775807
def BuildRPost (w : World) (l : List StepV) (e : Ending) (w' : World) : Prop := Keeps (fun _ => False) w w' ∧ match buildF l with
 | .inl (k, none) => e = .returned (.tuple #[.agg valZ.toArray, .int .i64 k, .int .i64 (-1)])
 | .inl (k, some i) => e = .returned (.tuple #[.agg valZ.toArray, .int .i64 k, .int .i64 i])
 | .inr j => ∃ v, e = .returned (.tuple #[.agg v.toArray, .int .i64 0, .int .i64 0]) ∧ RAt (fun i => w.heap.size ≤ i) w' v j
theorem results_blk_tt {P : Program} {w : World} {g : Nat} {t : TypeId} {cs : List Value} {fn : Func} {p u u2 : Tmp} {ty : TypeId} (h : fn.results = #[.cell p ty, .tmp u, .tmp u2]) (tmps : Array Value) (d : TypeDesc)
  (hp : tmps.getD p undef = .pointer (some ⟨g, 0, none⟩)) (hg : Blk w g t cs)
  (hu : P.underlying ty = some d) (hd : (match d with | .struct _ | .array _ _ => true | _ => false) = true) (hi : (P.info? ty).map (·.size) = some cs.length) :
  (results fn tmps).run P w = .ok (.tuple #[.agg cs.toArray, tmps.getD u undef, tmps.getD u2 undef]) w := by
 have hl := run_loadVar_row (P := P) w g t ty cs.toArray (0, 0) d hg hu hd (by simpa using hi)
 have hp' : tmps[p]?.getD undef = .pointer (some ⟨g, 0, none⟩) := by simpa using hp
 simp [results, h, hp', asAddr, hl, Sem.run_bind, Result.andThen]
structure BuildR (w1 wr : World) (l : List StepV) (k : Nat) (A : Option Addr) (m c : Nat) (css : List (List Value)) (P : List JV) : Prop where
 row : RowR w1 wr A m c css P
 run : rowF 0 [] l = rowF k P (l.drop k)
 few : m ≤ k
 ok : RowOk P
theorem rbuild_any (w : World) (A : Option Addr) (n c : Nat) (l : List StepV) (hn : l.length = n) (hS : StepsR w A l) (hf : ∀ s ∈ l, StepFits2 s) :
  Calls Tryz.prog 26 #[.slice A n c] w (BuildRPost w l) := by
 have HB0 := H_ (And.intro ((Keeps.refl (fun _ => False) w).alloc (.cells valZ.toArray 31)) (Blk.new w 31 valZ))
 have hbz := Blk.new w 31 valZ
 have f0 := hbz.frozen 0
 have f1 := hbz.frozen 1
 have f2 := hbz.frozen 2
 have f3 := hbz.frozen 3
 have f4 := hbz.frozen 4
 have f5 := hbz.frozen 5
 clear hbz
 unfold valZ at HB0 f0 f1 f2 f3 f4 f5
 by_cases hlong : 65536 < n
 ·have HB : Hid (buildF l = .inl (3, none)) := H_ (by unfold buildF; rw [hn, if_pos hlong])
  clear hS hn hf
  go_enter Tryz.func26, Tryz.ntmps26
  go_wp2
  refine bodyPost_ret (results_blk_tt rfl _ _ rfl HB0.out.2 Tryz.underlying31 rfl (by kernel_rfl)) rfl ⟨HB0.out.1, ?_⟩
  rw [HB.out]
  rfl
 ·have HRF : Hid (∀ r, rowF 0 [] l = r → buildF l = match r with | .inl (e, i) => .inl (e, some i) | .inr [v] => .inr v | .inr _ => .inl (103, some l.length)) := H_ fun r hr => by
   unfold buildF
   rw [if_neg (by rw [hn]; exact hlong), hr]
   rcases r with ⟨e, i⟩ | P
   ·rfl
   match P with
   | [] => rfl
   | [v] => rfl
   | _ :: _ :: _ => rfl
  have HSC : Hid (∀ k, k < n → ∃ s g o B d, l[k]? = some s ∧ A = some ⟨g, o, none⟩ ∧ w.rangeAt g (o + k * 6) (stepV s B d) ∧ Rd w B s.keys.length (s.keys.map .string) ∧ s.keys.length ≤ d ∧ StepFits2 s) := H_ fun k hk => by
   obtain ⟨s, hs⟩ : ∃ s, l[k]? = some s := ⟨_, List.getElem?_eq_getElem (by omega)⟩
   obtain ⟨g, o, B, d, h1, h2, h3, h4⟩ := hS k s hs
   exact ⟨s, g, o, B, d, hs, h1, h2, h3, h4, hf s (List.mem_of_getElem? hs)⟩
  have HDN : Hid (∀ (P : List JV), rowF n P (l.drop n) = .inr P) := H_ fun P => by rw [List.drop_of_length_le (by omega)]; rfl
  have HLN := H_ hn
  clear hS hn hf f0 f1 f2 f3 f4 f5
  go_enter Tryz.func26, Tryz.ntmps26
  go_upto_region 4 with fail
  obtain ⟨b, hb⟩ : ∃ b, b = w.heap.size := ⟨_, rfl⟩
  rw [← hb] at HB0 ⊢
  refine gen_codeF (fun W => Keeps (fun _ => False) w W ∧ Blk W b 31 [.int .i64 0, .bool false, .int .u64 0, .string .empty, .slice none 0 0, .slice none 0 0]) HB0.out ?_
  intro w1 hb1
  have HB1 := H_ hb1
  have HBW := H_ hb
  clear hb1 HB0 hb
  go_wp2
  go_loopg [5, 6] n (fun gk y t wr => ∃ (k : Nat) (A2 : Option Addr) (m c2 : Nat) (css : List (List Value)) (P : List JV), k ≤ n ∧ y = .slice A2 m c2 ∧ t = .int .i64 k ∧ gk = n - k ∧ Hid (BuildR w1 wr l k A2 m c2 css P))
  case atStart => exact ⟨0, none, 0, 0, [], [], by omega, rfl, rfl, by omega, H_ ⟨RowR.nil w1, rfl, Nat.le_refl _, RowOk.nil⟩⟩
  case round =>
   obtain ⟨k, A2, m, c2, css, P, hk, rfl, rfl, hgk, HB⟩ := hrel
   have HGK := H_ hgk
   clear hgk
   by_cases hlt : k < n
   ·obtain ⟨s, g, o, B, d, hs, hA, hr, hkr, hkd, hfs⟩ := HSC.out k hlt
    subst hA
    obtain ⟨SC, hSC⟩ : ∃ SC, SC = stepV s B d := ⟨_, rfl⟩
    rw [← hSC] at hr
    have HKW : Hid (Keeps (fun _ => False) w wr) := H_ (HB1.out.1.trans HB.out.row.own.2.1 (fun _ _ h => h))
    have HRE : Hid (wr.rangeAt g (o + k * 6) SC) := H_ fun j y hj => cell_keep HKW.out (hr j y hj)
    have HSI : Hid ((Tryz.prog.info? 65).map (·.size) = some SC.length) := H_ (by rw [hSC, stepV_len]; kernel_rfl)
    have HST : Hid (Calls Tryz.prog 54 #[.slice A2 m c2, .agg SC.toArray] wr (DoRPost w1 wr A2 m c2 P s)) := H_ (by
     rw [hSC]
     exact rdo_any w1 wr A2 m c2 css P HB.out.row (by have := HB.out.few; omega) HB.out.ok s hfs.fits hfs.count B d (hkr.keep HKW.out (fun _ _ _ h => h)) hkd)
    have hrn : rowF 0 [] l = match doF P s with
      | .inl e => .inl (e, k)
      | .inr P' => rowF (k + 1) P' (l.drop (k + 1)) := by
     rw [HB.out.run, List.drop_eq_getElem_cons (by have := HLN.out; omega)]
     have e : l[k]'(by have := HLN.out; omega) = s := by
      have := List.getElem?_eq_getElem (l := l) (i := k) (by have := HLN.out; omega)
      rw [hs] at this
      injection this with this
      exact this.symm
     rw [e]
     rfl
    have hkn : (k : Int) < (n : Int) := by omega
    have hk0 : (0 : Int) ≤ (k : Int) := by omega
    have HB2 : Hid (∀ W, Keeps (fun _ => False) wr W → Blk W b 31 [.int .i64 0, .bool false, .int .u64 0, .string .empty, .slice none 0 0, .slice none 0 0]) := H_ fun W hW => (HB.out.row.own.2.1.trans hW (fun _ _ h => h)).blk HB1.out.2 (fun h => h)
    unfold DoRPost at HST
    rcases hd : doF P s with k3 | P2
    ·rw [hd] at hrn HST
     have HRN := H_ (HRF.out _ hrn)
     have hk3 : (k3 != 0) = true := by have := doF_inl hd; simpa using this
     clear hSC hr hs hkr hfs hrn hd
     go_wp2_with (first
      | ((with_reducible show wpList _ _ _ (⟨some 23, _, _, _, _, _⟩ :: _) _ _); refine wpList_load_mid rfl 65 _ rfl _ _ rfl SC _ HRE.out Tryz.underlying65 rfl HSI.out ?_)
      | (go_at_call 54; refine HST.out.mono ?_; rintro e w2 ⟨rfl, hk2⟩; have HK2 := H_ hk2; have hbp := HB2.out _ hk2; have HBP := H_ hbp; have g0 := hbp.cell 0; have g1 := hbp.cell 1; have g2 := hbp.cell 2; have g3 := hbp.cell 3; have g4 := hbp.cell 4; have g5 := hbp.cell 5; have f0 := hbp.frozen 0; have f1 := hbp.frozen 1; have f2 := hbp.frozen 2; have f3 := hbp.frozen 3; have f4 := hbp.frozen 4; have f5 := hbp.frozen 5; clear hk2 hbp))
     refine bodyPost_ret (results_blk_tt rfl _ _ rfl (six_blk HBP.out _ _ _ _ _ _) Tryz.underlying31 rfl (by kernel_rfl)) rfl ⟨?_, ?_⟩
     ·exact (HKW.out.trans HK2.out (fun _ _ h => h)).trans (six_keeps w2 b _ _ _ _ _ _) (fun i hi e => by have := HBW.out; omega)
     rw [HRN.out]
     rfl
    rw [hd] at hrn HST
    have HRN := H_ hrn
    have HDD := H_ hd
    clear hSC hr hs hkr hfs hrn hd
    go_wp2_with (first
     | ((with_reducible show wpList _ _ _ (⟨some 23, _, _, _, _, _⟩ :: _) _ _); refine wpList_load_mid rfl 65 _ rfl _ _ rfl SC _ HRE.out Tryz.underlying65 rfl HSI.out ?_)
     | (go_at_call 54; refine HST.out.mono ?_; rintro e w2 ⟨A7, c7, css7, rfl, hr7⟩; have HR7 := H_ hr7; clear hr7))
    go_roundg (n - (k + 1))
    case measure => rw [HGK.out]; omega
    case rel => exact ⟨k + 1, A7, P2.length, c7, css7, P2, by omega, rfl, by go_num, rfl, H_ ⟨HR7.out, HRN.out, by have := doF_more HDD.out; have := HB.out.few; have := HB.out.row.len; omega, doF_ok HDD.out HB.out.ok⟩⟩
   obtain rfl : k = n := by omega
   have HRN := H_ (HRF.out _ (HB.out.run.trans (HDN.out P)))
   have HB2 : Hid (∀ W, Keeps (fun _ => False) wr W → Blk W b 31 [.int .i64 0, .bool false, .int .u64 0, .string .empty, .slice none 0 0, .slice none 0 0]) := H_ fun W hW => (HB.out.row.own.2.1.trans hW (fun _ _ h => h)).blk HB1.out.2 (fun h => h)
   have hbp := HB2.out _ (Keeps.refl _ wr)
   have HBP := H_ hbp
   have g0 := hbp.cell 0
   have g1 := hbp.cell 1
   have g2 := hbp.cell 2
   have g3 := hbp.cell 3
   have g4 := hbp.cell 4
   have g5 := hbp.cell 5
   have f0 := hbp.frozen 0
   have f1 := hbp.frozen 1
   have f2 := hbp.frozen 2
   have f3 := hbp.frozen 3
   have f4 := hbp.frozen 4
   have f5 := hbp.frozen 5
   clear hbp
   have HKE : Hid (∀ v0 v1 v2 v3 v4 v5, Keeps (fun _ => False) w (sixSet wr b v0 v1 v2 v3 v4 v5)) := H_ fun v0 v1 v2 v3 v4 v5 => (HB1.out.1.trans HB.out.row.own.2.1 (fun _ _ h => h)).trans (six_keeps wr b v0 v1 v2 v3 v4 v5) (fun i hi e => by have := HBW.out; omega)
   by_cases h1 : m = 1
   ·subst h1
    obtain ⟨j, hj⟩ : ∃ j, P = [j] := by
     match P, HB.out.row.len with
     | [j], _ => exact ⟨j, rfl⟩
    subst hj
    have hr := HB.out.row.lst
    obtain ⟨v, hv⟩ : ∃ v, css = [v] := by
     match css, hr.1 with
     | [v], _ => exact ⟨v, rfl⟩
    subst hv
    have hat := hr.2 0 v j rfl rfl
    obtain ⟨A9, c9, B9, d9, cs9, hv9, _⟩ := hat.form
    obtain ⟨g, o, hA2, hc2⟩ := (MineS.rdS HB.out.row.own).2 (by decide)
    subst hA2
    have HRE : Hid (wr.rangeAt g o v) := H_ fun q u hu => by
     have hl := hat.len
     have hq := (List.getElem?_eq_some_iff.1 hu).1
     rw [hc2 q (by omega)]
     simpa using hu
    have HSI : Hid ((Tryz.prog.info? 31).map (·.size) = some v.length) := H_ (by rw [hat.len]; kernel_rfl)
    have HAT : Hid (∀ v0 v1 v2 v3 v4 v5, RAt (fun i => w.heap.size ≤ i) (sixSet wr b v0 v1 v2 v3 v4 v5) v j) := H_ fun v0 v1 v2 v3 v4 v5 => by
     refine (hat.keep (six_keeps wr b v0 v1 v2 v3 v4 v5) (fun i hi e => ?_)).mono fun i hi _ => Nat.le_trans HB1.out.1.size hi.1
     have := hi.1
     have := HB1.out.2.lt
     omega
    have HV9 := H_ hv9
    unfold refC at HV9
    clear hr hat hv9 hc2
    go_wp2_with (first
     | ((with_reducible show wpList _ _ _ (⟨some 40, _, _, _, _, _⟩ :: _) _ _); refine wpList_load_mid rfl 31 _ rfl _ _ rfl v _ HRE.out Tryz.underlying31 rfl HSI.out ?_; rw [HV9.out]))
    refine bodyPost_ret (results_blk_tt rfl _ _ rfl (six_blk HBP.out _ _ _ _ _ _) Tryz.underlying31 rfl (by kernel_rfl)) rfl ⟨HKE.out _ _ _ _ _ _, ?_⟩
    rw [HRN.out]
    exact ⟨_, rfl, by rw [← HV9.out]; exact HAT.out _ _ _ _ _ _⟩
   have hne : ((m : Int) != 1) = true := by simp; omega
   have HRB : Hid (buildF l = .inl (103, some l.length)) := H_ (by
    rw [HRN.out]
    match P, HB.out.row.len with
    | [], _ => rfl
    | [_], hl => exact absurd hl.symm h1
    | _ :: _ :: _, _ => rfl)
   clear h1
   go_wp2
   refine bodyPost_ret (results_blk_tt rfl _ _ rfl (six_blk HBP.out _ _ _ _ _ _) Tryz.underlying31 rfl (by kernel_rfl)) rfl ⟨HKE.out _ _ _ _ _ _, ?_⟩
   rw [HRB.out, HLN.out]
   rfl
end Go.Proofs.YtdmcioghdindfaaGreatDoor
namespace Go.Json
theorem JV.by_items {P : JV → Prop} (h : ∀ j : JV, (∀ x, x ∈ j.items → P x) → P j) : ∀ j, P j :=
 JV.ind (h .null fun x hx => by cases hx) (fun b => h (.flag b) fun x hx => by cases hx) (fun b => h (.num b) fun x hx => by cases hx) (fun s => h (.text s) fun x hx => by cases hx) (fun l ih => h (.list l) ih) (fun ks l ih => h (.obj ks l) ih)
theorem steps_len : ∀ j : JV, j.steps.length = j.nodes := JV.by_items fun j ih => by
 rw [JV.steps_eq, JV.nodes_eq, List.length_append, List.length_singleton, Nat.add_comm]
 congr 1
 have : ∀ l : List JV, (∀ x ∈ l, x.steps.length = x.nodes) → ((l.map fun x => x.steps).flatten).length = sumN (l.map fun x => x.nodes) := by
  intro l
  induction l with
  | nil => intro _; rfl
  | cons a l ih2 =>
   intro h
   rw [List.map_cons, List.flatten_cons, List.length_append, h a List.mem_cons_self, ih2 fun x hx => h x (List.mem_cons_of_mem _ hx)]
   rfl
 exact this _ ih
def stepsTo (j : JV) (i : Nat) : List StepV := ((j.items.take i).map fun x => x.steps).flatten
theorem stepsTo_next {j x : JV} {i : Nat} (h : j.items[i]? = some x) : stepsTo j (i + 1) = stepsTo j i ++ x.steps := by
 unfold stepsTo
 rw [List.take_add_one, h]
 simp
theorem stepsTo_all (j : JV) : j.steps = stepsTo j j.items.length ++ [j.last] := by
 unfold stepsTo
 rw [List.take_of_length_le (Nat.le_refl _), JV.steps_eq]
theorem stepsTo_le (j : JV) (i : Nat) : (stepsTo j i).length + 1 ≤ j.nodes := by
 rw [← steps_len, stepsTo_all]
 have : ∀ l : List JV, ∀ i, (((l.take i).map fun x => x.steps).flatten).length ≤ ((l.map fun x => x.steps).flatten).length := by
  intro l
  induction l with
  | nil => intro i; simp
  | cons a l ih => intro i; cases i with
   | zero => simp
   | succ i => simp only [List.take_succ_cons, List.map_cons, List.flatten_cons, List.length_append]; have := ih i; omega
 have h := this j.items i
 unfold stepsTo
 rw [List.length_append, List.take_of_length_le (Nat.le_refl _), List.length_singleton]
 omega
theorem item_nodes {j x : JV} (h : x ∈ j.items) : x.nodes ≤ j.nodes := by
 rw [JV.nodes_eq j]
 have := sumN_mem (List.mem_map.2 ⟨x, h, rfl⟩ : x.nodes ∈ j.items.map fun x => x.nodes)
 omega
theorem last_sort (j : JV) : j.last.sort = j.sort := by cases j <;> rfl
theorem last_keys (j : JV) : j.last.keys = j.keys := by cases j <;> rfl
theorem last_count (j : JV) : j.last.count = if j.sort = 5 then (j.items.length : Int) else 0 := by cases j <;> simp [JV.last, JV.sort, JV.items, step0]
end Go.Json
namespace Go.Proofs.YtdmcioghdindfaaGreatDoor
open Go Go.RowKit Go.Aff Go.Json
def SList (D : Nat → Prop) (w : World) (sss : List (List Value)) (l : List StepV) : Prop := sss.length = l.length ∧ ∀ (i : Nat) (cs : List Value) (s : StepV), sss[i]? = some cs → l[i]? = some s → ∃ B d, cs = stepV s B d ∧ Rd w B s.keys.length (s.keys.map .string) ∧ InB D B s.keys.length
section
variable {D C F : Nat → Prop} {w w' : World} {sss ttt : List (List Value)} {l m : List StepV}
theorem SList.nil (D : Nat → Prop) (w : World) : SList D w [] [] := ⟨rfl, fun i cs s h => by simp at h⟩
theorem SList.keep (h : SList D w sss l) (hk : Keeps F w w') (hF : ∀ i, D i → ¬ F i) : SList D w' sss l := ⟨h.1, fun i cs s h1 h2 => by
 obtain ⟨B, d, e, hr, hB⟩ := h.2 i cs s h1 h2
 exact ⟨B, d, e, hr.keep hk (hB.out hF), hB⟩⟩
theorem SList.stay (h : SList D w sss l) (hk : Keeps (fun _ => False) w w') : SList D w' sss l := h.keep hk (fun _ _ h => h)
theorem SList.mono (h : SList D w sss l) (hC : ∀ i, D i → C i) : SList C w sss l := ⟨h.1, fun i cs s h1 h2 => by
 obtain ⟨B, d, e, hr, hB⟩ := h.2 i cs s h1 h2
 exact ⟨B, d, e, hr, hB.mono hC⟩⟩
theorem SList.app (h : SList D w sss l) (h2 : SList D w ttt m) : SList D w (sss ++ ttt) (l ++ m) := by
 refine ⟨by rw [List.length_append, List.length_append, h.1, h2.1], fun i cs x h3 h4 => ?_⟩
 rcases Nat.lt_or_ge i sss.length with hi | hi
 ·rw [List.getElem?_append_left hi] at h3
  rw [List.getElem?_append_left (by rw [← h.1]; exact hi)] at h4
  exact h.2 i cs x h3 h4
 rw [List.getElem?_append_right hi] at h3
 rw [List.getElem?_append_right (by rw [← h.1]; exact hi), ← h.1] at h4
 exact h2.2 _ cs x h3 h4
theorem SList.one {s : StepV} {B : Option Addr} {d : Nat} (hr : Rd w B s.keys.length (s.keys.map .string)) (hB : InB D B s.keys.length) : SList D w [stepV s B d] [s] := ⟨rfl, fun i c x h1 h2 => by
 match i with
 | 0 => simp at h1 h2; subst h1 h2; exact ⟨B, d, rfl, hr, hB⟩
 | _ + 1 => simp at h1⟩
theorem SList.form (h : SList D w sss l) {c : List Value} (hc : c ∈ sss) : ∃ s B d, c = stepV s B d := by
 obtain ⟨i, hi⟩ := List.getElem?_of_mem hc
 have hlt := (List.getElem?_eq_some_iff.1 hi).1
 obtain ⟨B, d, e, _⟩ := h.2 i c _ hi (List.getElem?_eq_getElem (by rw [← h.1]; exact hlt))
 exact ⟨_, B, d, e⟩
theorem SList.six (h : SList D w sss l) : ∀ c ∈ sss, c.length = 6 := fun c hc => by
 obtain ⟨s, B, d, e⟩ := h.form hc
 rw [e]; rfl
theorem SList.cells (h : SList D w sss l) : ∀ u ∈ sss.flatten, u.oneCell' = true := fun u hu => by
 obtain ⟨c, hc, hu⟩ := List.mem_flatten.1 hu
 obtain ⟨s, B, d, e⟩ := h.form hc
 rw [e] at hu
 exact stepV_one _ _ _ u hu
end
def StepsPost (T : TypeId) (D : Nat → Prop) (w : World) (l : List StepV) (e : Ending) (w' : World) : Prop :=
 ∃ A c sss, e = .returned (.slice A l.length c) ∧ MineS 6 w w' T A l.length c sss.flatten ∧ SList D w' sss l
structure StepsTo (D : Nat → Prop) (w w1 wx : World) (b : Nat) (SV : List Value) (T : TypeId) (l : List StepV) (A : Option Addr) (q c : Nat) (sss : List (List Value)) : Prop where
 box : Boxed w wx b 31 SV
 own : MineS 6 w1 wx T A q c sss.flatten
 lst : SList D wx sss l
 len : l.length = q
theorem wpList_append_mineG {P : Program} (w0 w : World) {ops : Array Oper} {rest : List Oper} {o : Oper} {a : Act} {Q : Exit → Act → World → Prop} (hgd : o.guard = none) (s x : Operand) (t : TypeId)
  (ho : o.op = .call { callee := .builtin .append, args := #[s, x], argTypes := #[t, t] })
  (e : TypeId) (z : Value) (sz bytes : Nat) (ht : P.underlying t = some (.slice e)) (hinfo : (P.info? e).map (fun i => (i.zero, i.size, i.bytes)) = some (some z, sz, bytes)) (hzs : z.cells.size = sz) (hpos : 0 < sz)
  {A0 : Option Addr} {n c0 : Nat} {xs : List Value} (hs : a.eval s = .slice A0 n c0) (hT : MineS sz w0 w e A0 n c0 xs)
  (A : Option Addr) (m c : Nat) (news : List Value) (hx : a.eval x = .slice A m c) (hr : RdS sz w A m news) (h1 : ∀ u ∈ news, u.oneCell' = true)
  (h63 : n + m ≤ maxLen) (hbytes : (n + m) * bytes ≤ 140737488355328)
  (h : ∀ A' c' w', MineS sz w0 w' e A' (n + m) c' (xs ++ news) → Keeps (fun i => w0.heap.size ≤ i) w w' → wpList P ops Q rest (a.put o.dst (.slice A' (n + m) c')) w') :
  wpList P ops Q (o :: rest) a w :=
 wpList_append_S w hgd s x t ho e z sz bytes ht hinfo hzs hpos A0 n c0 xs hs hT.1 A m c news hx hr h1 h63 hbytes fun A' c' w' k1 k2 k3 => h A' c' w' (hT.grown k1 k2 k3) ((Keeps.of_grown k2).mono fun i _ e => hT.2.2 i e)
theorem infoStep : (Tryz.prog.info? 65).map (fun i => (i.zero, i.size, i.bytes)) = some (some (.agg #[.int .i64 0, .bool false, .int .u64 0, .string .empty, .int .i64 0, .slice none 0 0]), 6, 72) := by kernel_rfl
theorem infoStep2 : (Tryz.prog.info? 65).map (fun i => (i.zero, i.size)) = some (some (.agg #[.int .i64 0, .bool false, .int .u64 0, .string .empty, .int .i64 0, .slice none 0 0]), 6) := by kernel_rfl
theorem rsteps_one {D : Nat → Prop} (w : World) (v : List Value) (j : JV) (hD : ∀ i, D i → i < w.heap.size) (h : RAt D w v j) (hs : j.nodes ≤ 1099511627776)
  (ih : ∀ x, x ∈ j.items → ∀ (W : World) (u : List Value), (∀ i, D i → i < W.heap.size) → RAt D W u x → Calls Tryz.prog 44 #[.agg u.toArray] W (StepsPost 65 D W x.steps)) :
  Calls Tryz.prog 44 #[.agg v.toArray] w (StepsPost 65 D w j.steps) := by
 obtain ⟨A, c, B, d, cs, rfl, hA, _, hB, oB, hI⟩ := h.form
 have HA := H_ hA
 have HBR := H_ (And.intro hB oB)
 have HD := H_ hD
 have HIH : Hid (∀ i x, j.items[i]? = some x → (cs i).length = 6 ∧ ∀ W, Keeps (fun _ => False) w W → Calls Tryz.prog 44 #[.agg (cs i).toArray] W (StepsPost 65 D W x.steps)) := H_ fun i x hx => ⟨(hI i x hx).len, fun W hW => ih x (List.mem_of_getElem? hx) W (cs i) (fun i hi => Nat.lt_of_lt_of_le (hD i hi) hW.size) ((hI i x hx).stay hW)⟩
 have hl : j.items.length ≤ 1099511627776 := by have := items_nodes j; omega
 have HLE : Hid (∀ i, (stepsTo j i).length + 1 ≤ 1099511627776) := H_ fun i => by have := stepsTo_le j i; omega
 obtain ⟨n, hn⟩ : ∃ n, n = j.items.length := ⟨_, rfl⟩
 rw [← hn] at HA hl
 obtain ⟨SV, hSV⟩ : ∃ SV, SV = refC j A c B d := ⟨_, rfl⟩
 have hbx := Boxed.made w 31 SV
 have HC : Hid (∀ W b, Blk W b 31 SV → (W.cell? ⟨b, 0, none⟩ = some (.int .i64 j.sort) ∧ W.cell? ⟨b, 1, none⟩ = some (.bool j.last.flag) ∧ W.cell? ⟨b, 2, none⟩ = some (.int .u64 j.last.bits) ∧ W.cell? ⟨b, 3, none⟩ = some (.string j.last.text) ∧ W.cell? ⟨b, 4, none⟩ = some (.slice A n c) ∧ W.cell? ⟨b, 5, none⟩ = some (.slice B j.keys.length d))) := H_ fun W b hb => by
  rw [hSV] at hb
  refine ⟨hb.cell 0, hb.cell 1, hb.cell 2, hb.cell 3, ?_, hb.cell 5⟩
  rw [hb.cell 4, hn]
  rfl
 rw [← hSV]
 have HBX := H_ hbx
 have HN := H_ hn
 clear h ih hA hB oB hI hs hn hSV hbx hD
 go_enter Tryz.func44, Tryz.ntmps44
 go_upto_block 0 with fail
 obtain ⟨b, hb⟩ : ∃ b, b = w.heap.size := ⟨_, rfl⟩
 rw [← hb] at HBX ⊢
 refine gen_codeF (fun W => Boxed w W b 31 SV) HBX.out ?_
 intro w1 hb1
 have HB1 := H_ hb1
 clear hb1 HBX hb
 go_wp2
 go_loopg [3, 4] n (fun gk y t wx => ∃ (i : Nat) (L : Option Addr) (q cl : Nat) (sss : List (List Value)), i ≤ n ∧ y = .slice L q cl ∧ t = .int .i64 i ∧ gk = n - i ∧ Hid (StepsTo D w w1 wx b SV 65 (stepsTo j i) L q cl sss))
 case atStart => exact ⟨0, none, 0, 0, [], by omega, rfl, rfl, rfl, H_ ⟨HB1.out, MineS.nil 6 w1 _, SList.nil _ _, rfl⟩⟩
 case round =>
  obtain ⟨i, L, q, cl, sss, hin, rfl, rfl, hgk, HS⟩ := hrel
  have HGK := H_ hgk
  clear hgk
  obtain ⟨c0, c1, c2, c3, c4, c5⟩ := HC.out wr b HS.out.box.blk
  by_cases hlt : i < n
  ·obtain ⟨g, o, hA2, hrg⟩ := (HA.out.keep HS.out.box.keep (fun _ _ _ h => h)) (by omega)
   subst hA2
   obtain ⟨x, hx⟩ : ∃ x, j.items[i]? = some x := ⟨_, List.getElem?_eq_getElem (by have := HN.out; omega)⟩
   obtain ⟨hlen, hcall⟩ := HIH.out i x hx
   obtain ⟨SC, hSC⟩ : ∃ SC, SC = cs i := ⟨_, rfl⟩
   have hre := hrg i hlt
   rw [← hSC] at hlen hcall hre
   have HRE := H_ hre
   have HSI : Hid ((Tryz.prog.info? 31).map (·.size) = some SC.length) := H_ (by rw [hlen]; kernel_rfl)
   obtain ⟨k, hk⟩ : ∃ k, k = x.steps.length := ⟨_, rfl⟩
   have HCALL : Hid (Calls Tryz.prog 44 #[.agg SC.toArray] wr fun e w' => ∃ A' c' ttt, e = .returned (.slice A' k c') ∧ Hid (MineS 6 wr w' 65 A' k c' ttt.flatten ∧ SList D w' ttt x.steps)) := H_ (by
    refine (hcall wr HS.out.box.keep).mono ?_
    rintro e w' ⟨A', c', ttt, he, h1, h2⟩
    rw [← hk] at he h1
    exact ⟨A', c', ttt, he, H_ ⟨h1, h2⟩⟩)
   have hqk : q + k + 1 ≤ 1099511627776 := by
    have := HLE.out (i + 1)
    rw [stepsTo_next hx, List.length_append, ← hk, HS.out.len] at this
    exact this
   have HNX := H_ (stepsTo_next hx)
   have HKK := H_ hk
   clear hx hlen hcall hSC hre hrg hk
   go_wp2_with (first
    | ((with_reducible show wpList _ _ _ (⟨some 18, _, _, _, _, _⟩ :: _) _ _); refine wpList_load_mid rfl 31 _ rfl _ _ rfl SC _ HRE.out Tryz.underlying31 rfl HSI.out ?_)
    | (go_at_call 44; refine HCALL.out.mono ?_; rintro e w2 ⟨A2, c2', ttt, rfl, HM2⟩)
    | (at_builtin; refine wpList_append_mineG w1 _ rfl (.tmp 13) (.tmp 19) 63 rfl 65 (.agg #[.int .i64 0, .bool false, .int .u64 0, .string .empty, .int .i64 0, .slice none 0 0]) 6 72 Tryz.underlying63 infoStep rfl (by decide) rfl (HS.out.own.keep HM2.out.1.2.1) A2 k c2' ttt.flatten rfl (MineS.rdS HM2.out.1) HM2.out.2.cells (by unfold maxLen; omega) (by omega) ?_; intro A4 c4' w4 ht4 hk4; have HT4 := H_ (And.intro ht4 hk4); clear ht4 hk4))
   go_roundg (n - (i + 1))
   case measure => rw [HGK.out]; omega
   case rel =>
    refine ⟨i + 1, A4, q + k, c4', sss ++ ttt, by omega, rfl, by go_num, rfl, H_ ⟨?_, ?_, ?_, ?_⟩⟩
    ·exact ⟨HB1.out.keep.trans HT4.out.1.2.1 (fun _ _ h => h), HT4.out.1.2.1.blk HB1.out.blk (fun h => h)⟩
    ·rw [List.flatten_append]
     exact HT4.out.1
    ·rw [HNX.out]
     have h1 := (HS.out.lst.stay HM2.out.1.2.1).app HM2.out.2
     exact h1.keep HT4.out.2 (fun i hi e => by have := HD.out i hi; have := HB1.out.keep.size; omega)
    rw [HNX.out, List.length_append, HS.out.len, HKK.out]
  obtain rfl : i = n := by omega
  have HLQ : Hid (j.steps = stepsTo j i ++ [j.last] ∧ q + 1 ≤ 1099511627776) := H_ ⟨by rw [HN.out]; exact stepsTo_all j, by rw [← HS.out.len]; exact HLE.out i⟩
  have hz := Blk.new wr 65 [.int .i64 0, .bool false, .int .u64 0, .string .empty, .int .i64 0, .slice none 0 0]
  have f0 := hz.frozen 0
  have f1 := hz.frozen 1
  have f2 := hz.frozen 2
  have f3 := hz.frozen 3
  have f4 := hz.frozen 4
  have f5 := hz.frozen 5
  clear hz
  go_upto_region 7 with fail
  obtain ⟨p, hp⟩ : ∃ p, p = wr.heap.size := ⟨_, rfl⟩
  rw [← hp]
  refine gen_codeF (fun W => Keeps (fun _ => False) wr W ∧ Blk W p 65 [.int .i64 j.sort, .bool j.last.flag, .int .u64 j.last.bits, .string j.last.text, .int .i64 0, .slice B j.keys.length d]) (by rw [hp]; exact ⟨(Keeps.refl _ wr).alloc _, Blk.new wr _ _⟩) ?_
  rintro w5 ⟨hk5, hb5⟩
  have HP := H_ hp
  obtain ⟨r0, r1, r2, r3, r4, r5⟩ := HC.out w5 b (hk5.blk HS.out.box.blk (fun h => h))
  obtain ⟨SC, hSC⟩ : ∃ SC, SC = stepV j.last B d := ⟨_, rfl⟩
  have HSC := H_ hSC
  have HSL : Hid (SC.length = 6) := H_ (by rw [hSC]; rfl)
  have HSI : Hid ((Tryz.prog.info? 65).map (·.size) = some SC.length) := H_ (by rw [HSL.out]; kernel_rfl)
  have HSO : Hid (∀ u ∈ SC, u.oneCell' = true) := H_ (by rw [hSC]; exact stepV_one _ _ _)
  have HEND : Hid (∀ (W W' : World) (A' : Option Addr) (c' : Nat), Keeps (fun _ => False) wr W → MineS 6 w1 W' 65 A' (q + 1) c' (sss.flatten ++ SC) → Keeps (fun i => w1.heap.size ≤ i) W W' → StepsPost 65 D w j.steps (.returned (.slice A' (q + 1) c')) W') := H_ fun W W' A' c' hW hm hk => by
   have hl : j.steps.length = q + 1 := by rw [HLQ.out.1, List.length_append, HS.out.len]; rfl
   refine ⟨A', c', sss ++ [SC], by rw [hl], ?_, ?_⟩
   ·rw [hl, List.flatten_append]
    simp only [List.flatten_cons, List.flatten_nil, List.append_nil]
    exact ⟨hm.1, HB1.out.keep.trans hm.2.1 (fun _ _ h => h), fun g hg => Nat.le_trans HB1.out.keep.size (hm.2.2 g hg)⟩
   rw [HLQ.out.1]
   have h1 : SList D W (sss ++ [SC]) (stepsTo j i ++ [j.last]) := by
    refine (HS.out.lst.stay hW).app ?_
    rw [HSC.out]
    refine SList.one ?_ ?_
    ·rw [last_keys]
     exact HBR.out.1.keep (HS.out.box.keep.trans hW (fun _ _ h => h)) (fun _ _ _ h => h)
    rw [last_keys]; exact HBR.out.2
   exact h1.keep hk (fun i hi e => by have := HD.out i hi; have := HB1.out.keep.size; omega)
  have HLC : Hid ([Value.int .i64 j.sort, .bool j.last.flag, .int .u64 j.last.bits, .string j.last.text, .int .i64 (if j.sort = 5 then (i : Int) else 0), .slice B j.keys.length d] = SC) := H_ (by
   rw [hSC]
   show _ = [Value.int .i64 j.last.sort, .bool j.last.flag, .int .u64 j.last.bits, .string j.last.text, .int .i64 j.last.count, .slice B j.last.keys.length d]
   rw [last_sort, last_keys, last_count, HN.out])
  have HK5 := H_ hk5
  have HB5 := H_ hb5
  clear hp hk5 hSC f0 f1 f2 f3 f4 f5 c0 c1 c2 c3 c4 c5
  by_cases h5 : j.sort = 5
  ·have e5 : (j.sort == 5) = true := by rw [h5]; rfl
   have g4 := hb5.cell 4
   have f4 := hb5.frozen 4
   have HL2 : Hid ([Value.int .i64 j.sort, .bool j.last.flag, .int .u64 j.last.bits, .string j.last.text, .int .i64 (i : Int), .slice B j.keys.length d] = SC) := H_ (by have := HLC.out; rwa [if_pos h5] at this)
   clear h5 hb5
   go_upto_region 9 with fail
   refine gen_codeF (fun W => Keeps (fun _ => False) wr W ∧ Blk W p 65 SC) ⟨HK5.out.setCell (p := ⟨p, 4, none⟩) (.inr (by rw [HP.out]; exact Nat.le_refl _)) _, by rw [← HL2.out]; exact HB5.out.set_ 4 _⟩ ?_
   rintro w6 ⟨hk6, hb6⟩
   have HB6 := H_ hb6
   have HK6 := H_ hk6
   clear hk6 hb6 g4 f4
   go_wp2_with (first
    | ((with_reducible show wpList _ _ _ (⟨some 40, _, _, _, _, _⟩ :: _) _ _); refine wpList_load_whole rfl 65 _ rfl _ rfl HB6.out Tryz.underlying65 rfl HSI.out ?_)
    | ((with_reducible show wpList _ _ _ (⟨some 41, _, _, _, _, _⟩ :: _) _ _); refine wpList_box_S _ rfl 63 65 (.tmp 40) rfl (.agg #[.int .i64 0, .bool false, .int .u64 0, .string .empty, .int .i64 0, .slice none 0 0]) 6 Tryz.underlying63 infoStep2 (by decide) (by decide) SC HSL.out rfl ?_)
    | (at_builtin; refine wpList_append_mineG w1 _ rfl (.tmp 39) (.tmp 41) 63 rfl 65 (.agg #[.int .i64 0, .bool false, .int .u64 0, .string .empty, .int .i64 0, .slice none 0 0]) 6 72 Tryz.underlying63 infoStep rfl (by decide) rfl (HS.out.own.keep (HK6.out.alloc _)) _ 1 1 SC rfl (RdS.blk (Blk.new _ 65 SC) (by rw [HSL.out])) HSO.out (by have := HLQ.out.2; unfold maxLen; omega) (by have := HLQ.out.2; omega) ?_; intro A7 c7 w7 ht7 hk7; have HT7 := H_ ht7; have HK7 := H_ hk7; clear ht7 hk7))
   go_ret
   exact HEND.out _ _ _ _ (HK6.out.alloc _) HT7.out HK7.out
  have e5 : (j.sort == 5) = false := beq_eq_false_iff_ne.2 h5
  have HL2 : Hid ([Value.int .i64 j.sort, .bool j.last.flag, .int .u64 j.last.bits, .string j.last.text, .int .i64 0, .slice B j.keys.length d] = SC) := H_ (by have := HLC.out; rwa [if_neg h5] at this)
  clear h5 hb5
  go_upto_region 9 with fail
  refine gen_codeF (fun W => Keeps (fun _ => False) wr W ∧ Blk W p 65 SC) ⟨HK5.out, by rw [← HL2.out]; exact HB5.out⟩ ?_
  rintro w6 ⟨hk6, hb6⟩
  have HB6 := H_ hb6
  have HK6 := H_ hk6
  clear hk6 hb6
  go_wp2_with (first
   | ((with_reducible show wpList _ _ _ (⟨some 40, _, _, _, _, _⟩ :: _) _ _); refine wpList_load_whole rfl 65 _ rfl _ rfl HB6.out Tryz.underlying65 rfl HSI.out ?_)
   | ((with_reducible show wpList _ _ _ (⟨some 41, _, _, _, _, _⟩ :: _) _ _); refine wpList_box_S _ rfl 63 65 (.tmp 40) rfl (.agg #[.int .i64 0, .bool false, .int .u64 0, .string .empty, .int .i64 0, .slice none 0 0]) 6 Tryz.underlying63 infoStep2 (by decide) (by decide) SC HSL.out rfl ?_)
   | (at_builtin; refine wpList_append_mineG w1 _ rfl (.tmp 39) (.tmp 41) 63 rfl 65 (.agg #[.int .i64 0, .bool false, .int .u64 0, .string .empty, .int .i64 0, .slice none 0 0]) 6 72 Tryz.underlying63 infoStep rfl (by decide) rfl (HS.out.own.keep (HK6.out.alloc _)) _ 1 1 SC rfl (RdS.blk (Blk.new _ 65 SC) (by rw [HSL.out])) HSO.out (by have := HLQ.out.2; unfold maxLen; omega) (by have := HLQ.out.2; omega) ?_; intro A7 c7 w7 ht7 hk7; have HT7 := H_ ht7; have HK7 := H_ hk7; clear ht7 hk7))
  go_ret
  exact HEND.out _ _ _ _ (HK6.out.alloc _) HT7.out HK7.out
theorem rsteps_at {D : Nat → Prop} : ∀ (j : JV), j.nodes ≤ 1099511627776 → ∀ (w : World) (v : List Value), (∀ i, D i → i < w.heap.size) → RAt D w v j →
  Calls Tryz.prog 44 #[.agg v.toArray] w (StepsPost 65 D w j.steps) :=
 JV.by_items fun j ih hs w v hD h => rsteps_one w v j hD h hs fun x hx W u hW hu => ih x hx (Nat.le_trans (item_nodes hx) hs) W u hW hu
theorem rsteps_any {D : Nat → Prop} (w : World) (v : List Value) (j : JV) (h : RAt D w v j) (hs : j.nodes ≤ 1099511627776) :
  Calls Tryz.prog 44 #[.agg v.toArray] w (StepsPost 65 (fun i => D i ∧ i < w.heap.size) w j.steps) :=
 rsteps_at j hs w v (fun _ h => h.2) (h.mono fun _ h1 h2 => ⟨h1, h2⟩)
theorem infoStepA : (Tryz.prog.info? 53).map (fun i => (i.zero, i.size, i.bytes)) = some (some (.agg #[.int .i64 0, .bool false, .int .u64 0, .string .empty, .int .i64 0, .slice none 0 0]), 6, 72) := by kernel_rfl
theorem infoStepA2 : (Tryz.prog.info? 53).map (fun i => (i.zero, i.size)) = some (some (.agg #[.int .i64 0, .bool false, .int .u64 0, .string .empty, .int .i64 0, .slice none 0 0]), 6) := by kernel_rfl
theorem flat_cons6 {sss : List (List Value)} {SC : List Value} : (sss ++ [SC]).flatten = sss.flatten ++ SC := by rw [List.flatten_append]; simp
theorem SList.monoW {D C : Nat → Prop} {w : World} {sss : List (List Value)} {l : List StepV} (h : SList D w sss l) (hC : ∀ i, D i → i < w.heap.size → C i) : SList C w sss l := ⟨h.1, fun i cs s h1 h2 => by
 obtain ⟨B, d, e, hr, hB⟩ := h.2 i cs s h1 h2
 exact ⟨B, d, e, hr, Rd.inB hr hB hC⟩⟩
structure RowSt (w0 w : World) (A : Option Addr) (q c : Nat) (sss : List (List Value)) (l : List StepV) : Prop where
 own : MineS 6 w0 w 53 A q c sss.flatten
 lst : SList (Br w0 (.slice A q c)) w sss l
 len : l.length = q
section
variable {w0 w w' : World} {A : Option Addr} {q c : Nat} {sss : List (List Value)} {l : List StepV}
theorem RowSt.nil (w : World) : RowSt w w none 0 0 [] [] := ⟨MineS.nil 6 w _, SList.nil _ w, rfl⟩
theorem RowSt.stay (h : RowSt w0 w A q c sss l) (hk : Keeps (fun _ => False) w w') : RowSt w0 w' A q c sss l := ⟨h.own.keep hk, h.lst.stay hk, h.len⟩
theorem RowSt.grown (h : RowSt w0 w A q c sss l) {W : World} (hW : Keeps (fun _ => False) w W) {A' : Option Addr} {c' : Nat} {s : StepV} {B : Option Addr} {d : Nat}
  (ho : w'.ownsRow 0 53 6 (.slice A' (q + 1) c') (q + 1) (sss.flatten ++ stepV s B d)) (hg : W.grownBy w' (Value.slice A q c).ownBlock)
  (hb : (Value.slice A' (q + 1) c').ownBlock = (Value.slice A q c).ownBlock ∨ (Value.slice A' (q + 1) c').ownBlock = some W.heap.size)
  (hr : Rd w B s.keys.length (s.keys.map .string)) (hB : InB (Br w0 (.slice A q c)) B s.keys.length) : RowSt w0 w' A' (q + 1) c' (sss ++ [stepV s B d]) (l ++ [s]) := by
 refine ⟨?_, ?_, by rw [List.length_append, h.len]; rfl⟩
 ·rw [flat_cons6]
  exact (h.own.keep hW).grown ho hg hb
 have hall : Keeps (fun i => (Value.slice A q c).ownBlock = some i) w w' := (hW.mono (fun _ _ h => h.elim)).trans (Keeps.of_grown hg) (fun i _ e => e)
 have hlst : SList (Br w0 (.slice A q c)) w (sss ++ [stepV s B d]) (l ++ [s]) := h.lst.app (SList.one hr hB)
 refine ((hlst.monoW (C := fun i => Br w0 (.slice A q c) i ∧ i < w.heap.size) fun i hi hlt => ⟨hi, hlt⟩).keep hall fun i hi e => hi.1.2 e).mono fun i hi => ⟨hi.1.1, fun e => ?_⟩
 rcases hb with e1 | e1
 ·rw [e1] at e; exact hi.1.2 e
 rw [e1] at e
 injection e with e
 have := hW.size
 have := hi.2
 omega
end
def NStPost (w0 w : World) (A : Option Addr) (q c : Nat) (sss : List (List Value)) (l ls : List StepV) (e : Ending) (w' : World) : Prop :=
 ∃ A' c' ttt, e = .returned (.slice A' (q + ls.length) c') ∧ RowSt w0 w' A' (q + ls.length) c' (sss ++ ttt) (l ++ ls) ∧ Keeps (fun i => (Value.slice A q c).ownBlock = some i) w w' ∧
  ∀ g, (Value.slice A' (q + ls.length) c').ownBlock = some g → (Value.slice A q c).ownBlock = some g ∨ w.heap.size ≤ g
def SwR (j : JV) (p : Nat) (w wx : World) : Prop := ∃ B d, Keeps (fun _ => False) w wx ∧ Blk wx p 53 (stepV j.last B d) ∧ Rd wx B j.keys.length (j.keys.map .string) ∧ InB (fun i => w.heap.size ≤ i) B j.keys.length
structure StL (w0 w w5 wx : World) (A : Option Addr) (q c : Nat) (A1 : Option Addr) (q1 c1 : Nat) (sss : List (List Value)) (l : List StepV) : Prop where
 row : RowSt w0 wx A1 q1 c1 sss l
 keep : Keeps (fun i => (Value.slice A q c).ownBlock = some i) w5 wx
 old : ∀ g, (Value.slice A1 q1 c1).ownBlock = some g → (Value.slice A q c).ownBlock = some g ∨ w5.heap.size ≤ g
theorem SwR.leaf {j : JV} {p : Nat} {w wx : World} (hk : Keeps (fun _ => False) w wx) (hb : Blk wx p 53 (stepV j.last none 0)) (h : j.keys = []) : SwR j p w wx :=
 ⟨none, 0, hk, hb, by rw [h]; exact Rd.nil _ _, by rw [h]; exact InB.zero _ _⟩
theorem nsteps_one {D : Nat → Prop} (w0 : World) (v : Value) (j : JV) (hj : JAt D w0 v j) (hok : JOk j) (w : World) (A : Option Addr) (q c : Nat) (sss : List (List Value)) (l : List StepV) (h : RowSt w0 w A q c sss l) (hq : q + j.nodes ≤ 1099511627776)
  (ih : ∀ x, x ∈ j.items → ∀ (u : Value), JAt D w0 u x → ∀ (w : World) (A : Option Addr) (q c : Nat) (sss : List (List Value)) (l : List StepV), RowSt w0 w A q c sss l → q + x.nodes ≤ 1099511627776 → Calls Tryz.prog 110 #[.slice A q c, u] w (NStPost w0 w A q c sss l x.steps)) :
  Calls Tryz.prog 110 #[.slice A q c, v] w (NStPost w0 w A q c sss l j.steps) := by
 obtain ⟨T, y, f, u, hv, hm, he, hc⟩ := sort_inv hj
 have hmw := hm w
 have HC := H_ (hc w)
 unfold Ent at he
 have HJ := H_ hj
 have HOK := H_ hok
 have HST := H_ h
 have HIH := H_ ih
 have HIT := H_ (items_inv hj)
 have HQ := H_ hq
 have HV := H_ hv
 obtain ⟨so, hso⟩ : ∃ so, so = j.sort := ⟨_, rfl⟩
 rw [← hso] at HC
 have HSO := H_ hso
 subst hv
 clear hj hok h hq ih hm hc hso
 go_enter Tryz.func110, Tryz.ntmps110
 go_upto_block 0 with (go_at_fn f; refine HC.out.mono ?_; rintro e w2 ⟨rfl, hk2⟩; have HK2 := H_ hk2; have hz := Blk.new w2 53 [.int .i64 0, .bool false, .int .u64 0, .string .empty, .int .i64 0, .slice none 0 0]; have f0 := hz.frozen 0; have f1 := hz.frozen 1; have f2 := hz.frozen 2; have f3 := hz.frozen 3; have f4 := hz.frozen 4; have f5 := hz.frozen 5; clear hk2 hz)
 obtain ⟨p, hp⟩ : ∃ p, p = w2.heap.size := ⟨_, rfl⟩
 rw [← hp]
 refine gen_codeF (fun W => Keeps (fun _ => False) w W ∧ Blk W p 53 [.int .i64 so, .bool false, .int .u64 0, .string .empty, .int .i64 0, .slice none 0 0]) (by rw [hp]; exact ⟨HK2.out.alloc _, Blk.new w2 _ _⟩) ?_
 rintro w3 ⟨hk3, hb3⟩
 have HK3 := H_ hk3
 have HB3 := H_ hb3
 have HP : Hid (w.heap.size ≤ p) := H_ (by rw [hp]; exact HK2.out.size)
 have e0 := hb3.cell 0
 have e1 := hb3.cell 1
 have e2 := hb3.cell 2
 have e3 := hb3.cell 3
 have e4 := hb3.cell 4
 have e5 := hb3.cell 5
 have g0 := hb3.frozen 0
 have g1 := hb3.frozen 1
 have g2 := hb3.frozen 2
 have g3 := hb3.frozen 3
 have g4 := hb3.frozen 4
 have g5 := hb3.frozen 5
 clear f0 f1 f2 f3 f4 f5 hk3 hb3 hp hmw he HC
 go_cut [5] (fun t wx => t = .pointer (some ⟨p, 0, none⟩) ∧ Hid (SwR j p w wx))
 case first =>
  have hsw : Hid (w0.heap.size ≤ w.heap.size) := H_ HST.out.own.2.1.size
  have HKS : Hid (∀ i v, Keeps (fun _ => False) w (w3.setCell ⟨p, i, none⟩ v)) := H_ fun i v => HK3.out.setCell (p := ⟨p, i, none⟩) (.inr HP.out) v
  have hj := HJ.out
  cases hj with
  | null =>
   have hs := HSO.out
   subst hs
   have a1 := as_null_flag
   have a2 := as_null_num
   have a3 := as_null_text
   have a4 := as_null_list
   have a5 := as_null_obj
   go_wp2
   go_meet
   exact ⟨rfl, H_ (SwR.leaf HK3.out HB3.out rfl)⟩
  | flag b =>
   have hs := HSO.out
   subst hs
   have a1 := as_flag_flag
   go_wp2
   go_meet
   exact ⟨rfl, H_ (SwR.leaf (HKS.out 1 (.bool b)) (HB3.out.set_ 1 (.bool b)) rfl)⟩
  | num b =>
   have hs := HSO.out
   subst hs
   have a1 := as_num_flag
   have a2 := as_num_num
   have hbo := bitsof b
   go_wp2
   go_meet
   exact ⟨rfl, H_ (SwR.leaf (HKS.out 2 (.int .u64 b)) (HB3.out.set_ 2 (.int .u64 b)) rfl)⟩
  | text t =>
   have hs := HSO.out
   subst hs
   have a1 := as_text_flag
   have a2 := as_text_num
   have a3 := as_text_text
   go_wp2
   go_meet
   exact ⟨rfl, H_ (SwR.leaf (HKS.out 3 (.string t)) (HB3.out.set_ 3 (.string t)) rfl)⟩
  | @list bb Al cl vs ls hD hbl hr ho hl =>
   have hs := HSO.out
   subst hs
   have hbW := (HST.out.own.2.1.trans HK3.out (fun _ _ h => h)).blk hbl (fun h => h)
   have d3 : w3.cell? ⟨bb, 3, none⟩ = some (.slice Al ls.length cl) := hbW.cell 3
   obtain ⟨n, hn⟩ : ∃ n, n = ls.length := ⟨_, rfl⟩
   rw [← hn] at d3
   have HN := H_ hn
   have a1 := as_list_flag
   have a2 := as_list_num
   have a3 := as_list_text
   have a4 := as_list_list
   clear hD hbl hr ho hl hbW hn
   go_wp2
   go_meet
   exact ⟨rfl, H_ (SwR.leaf (HKS.out 4 (.int .i64 n)) (by
    have := HB3.out.set_ 4 (.int .i64 n)
    rw [HN.out] at this ⊢
    exact this) rfl)⟩
  | @obj bb Al Bl cl dl vs ks ls hD hbl hk hok2 hr ho hl =>
   have hs := HSO.out
   subst hs
   have hw03 := HST.out.own.2.1.trans HK3.out (fun _ _ h => h)
   have hbW := hw03.blk hbl (fun h => h)
   have d3 : w3.cell? ⟨bb, 3, none⟩ = some (.slice Bl ks.length dl) := hbW.cell 3
   obtain ⟨n, hn⟩ : ∃ n, n = ks.length := ⟨_, rfl⟩
   have hkn : n ≤ 1099511627776 := by
    have h1 := HOK.out.form.1
    have h2 := items_nodes (.obj ks ls)
    have h3 := HQ.out
    have h4 : (JV.obj ks ls).keys.length = n := hn.symm
    omega
   have HCL : Hid (Calls Tryz.prog 114 #[.slice Bl n dl] w3 fun e w' => ∃ A' c', e = .returned (.slice A' n c') ∧ Mine w3 w' 9 A' n c' (ks.map .string)) := H_ (sclone_any w3 Bl n dl _ (by rw [hn]; exact hk.keep hw03 (fun _ _ _ h => h)) (by intro u hu; obtain ⟨s, _, rfl⟩ := List.mem_map.1 hu; rfl) hkn)
   rw [← hn] at d3
   have HN := H_ hn
   have a1 := as_obj_flag
   have a2 := as_obj_num
   have a3 := as_obj_text
   have a4 := as_obj_list
   have a5 := as_obj_obj
   clear hD hbl hk hok2 hr ho hl hbW hn hw03
   go_wp2_with (go_at_call 114; refine HCL.out.mono ?_; rintro e w7 ⟨A7, c7, rfl, hm7⟩; have HM7 := H_ hm7; have hb7 := hm7.2.1.blk HB3.out (fun h => h); have HB7 := H_ hb7; have x5 := hb7.cell 5; have y5 := hb7.frozen 5; clear hm7 hb7)
   go_meet
   refine ⟨rfl, H_ ⟨A7, c7, (HK3.out.trans HM7.out.2.1 (fun _ _ h => h)).setCell (p := ⟨p, 5, none⟩) (.inr HP.out) _, ?_, ?_, ?_⟩⟩
   ·have := HB7.out.set_ 5 (.slice A7 n c7)
    rw [HN.out] at this ⊢
    exact this
   ·have hk : Keeps (fun i => i = p) w7 (w7.setCell ⟨p, 5, none⟩ (.slice A7 n c7)) := (Keeps.refl (fun i => i = p) w7).setCell (p := ⟨p, 5, none⟩) (.inl rfl) _
    have hr := HM7.out.rd
    rw [HN.out] at hr hk ⊢
    refine hr.keep hk (fun _ ad e h => ?_)
    have h1 := HM7.out.2.2 ad.block (by subst e; rfl)
    have h2 := HB3.out.lt
    omega
   show InB _ A7 ks.length
   rw [← HN.out]
   exact (MineS.inB HM7.out).mono fun i hi => Nat.le_trans HK3.out.size hi
 case rest =>
  obtain ⟨rfl, HSW⟩ := hcut
  obtain ⟨Bk, dk, hkc, hbc, hrk, hik⟩ := HSW.out
  have HKC := H_ hkc
  have HBC := H_ hbc
  have HRK := H_ (And.intro hrk hik)
  obtain ⟨Ai, ci, vs, hit, hitc⟩ := HIT.out
  have HIT2 := H_ hit
  obtain ⟨n, hn⟩ : ∃ n, n = j.items.length := ⟨_, rfl⟩
  have HN := H_ hn
  have HCI : Hid (∀ W, Keeps (fun _ => False) w0 W → Calls Tryz.prog 74 #[.agg #[.iface T y]] W fun e w' => e = .returned (.slice Ai n ci) ∧ Keeps (fun _ => False) W w') := H_ (by rw [hn]; exact hitc)
  have HNB : Hid (n ≤ 1099511627776) := H_ (by have := items_nodes j; have := HQ.out; omega)
  have HKW : Hid (Keeps (fun _ => False) w0 wc) := H_ (HST.out.own.2.1.trans hkc (fun _ _ h => h))
  clear hkc hbc hrk hik hit hitc hn HIT HSW e0 e1 e2 e3 e4 e5 g0 g1 g2 g3 g4 g5 HB3
  go_upto_block 1 with (go_at_call 74; refine (HCI.out _ HKW.out).mono ?_; rintro e w5 ⟨rfl, hk5⟩; have HK5 := H_ hk5; clear hk5)
  have hnb := HNB.out
  go_wp2
  go_loopg [0, 55] n (fun gk x t wx => ∃ (i : Nat) (A1 : Option Addr) (q1 c1 : Nat) (sss1 : List (List Value)), i ≤ n ∧ x = .slice A1 q1 c1 ∧ t = .int .i64 i ∧ gk = n - i ∧ Hid (StL w0 w w5 wx A q c A1 q1 c1 (sss ++ sss1) (l ++ stepsTo j i)))
  case atStart => exact ⟨0, A, q, c, [], by omega, rfl, rfl, rfl, H_ ⟨by
   have h1 := HST.out.stay (HKC.out.trans HK5.out (fun _ _ h => h))
   rw [List.append_nil, show stepsTo j 0 = [] by simp [stepsTo], List.append_nil]
   exact h1, Keeps.refl _ _, fun g h => .inl h⟩⟩
  case round =>
   obtain ⟨i, A1, q1, c1, sss1, hin, rfl, rfl, hgk, HS⟩ := hrel
   have HGK := H_ hgk
   clear hgk
   have HW0 : Hid (Keeps (fun _ => False) w0 wr) := H_ HS.out.row.own.2.1
   by_cases hlt : i < n
   ·obtain ⟨g, o, hAi, hcl⟩ := (HIT2.out.rd.keep HW0.out (fun _ _ _ h => h)).2 (by have := HN.out; omega)
    subst hAi
    obtain ⟨x, hx⟩ : ∃ x, j.items[i]? = some x := ⟨_, List.getElem?_eq_getElem (by have := HN.out; omega)⟩
    obtain ⟨u, hu⟩ : ∃ u, vs[i]? = some u := ⟨_, List.getElem?_eq_getElem (by have := HIT2.out.rd.1; have := HN.out; omega)⟩
    have ck : wr.cell? ⟨g, o + i, none⟩ = some u := by rw [hcl i (by have := HN.out; omega), hu]
    have hu1 := (HIT2.out.at_ i u x hu hx).one
    have hqx : q1 + x.nodes ≤ 1099511627776 := by
     have h1 := HS.out.row.len
     have h2 := stepsTo_le j (i + 1)
     rw [stepsTo_next hx, List.length_append, steps_len x] at h2
     rw [List.length_append, HST.out.len] at h1
     have := HQ.out
     omega
    obtain ⟨m, hm⟩ : ∃ m, m = x.steps.length := ⟨_, rfl⟩
    have HCALL : Hid (Calls Tryz.prog 110 #[.slice A1 q1 c1, u] wr fun e w' => ∃ A' c' ttt, e = .returned (.slice A' (q1 + m) c') ∧ Hid (RowSt w0 w' A' (q1 + m) c' ((sss ++ sss1) ++ ttt) ((l ++ stepsTo j i) ++ x.steps) ∧ Keeps (fun i => (Value.slice A1 q1 c1).ownBlock = some i) wr w' ∧
      ∀ g, (Value.slice A' (q1 + m) c').ownBlock = some g → (Value.slice A1 q1 c1).ownBlock = some g ∨ wr.heap.size ≤ g)) := H_ (by
     refine (HIH.out x (List.mem_of_getElem? hx) u (HIT2.out.at_ i u x hu hx) wr A1 q1 c1 _ _ HS.out.row hqx).mono ?_
     rintro e w' ⟨A', c', ttt, he, h1, h2, h3⟩
     rw [← hm] at he h1 h3
     exact ⟨A', c', ttt, he, H_ ⟨h1, h2, h3⟩⟩)
    have HNX := H_ (stepsTo_next hx)
    clear hcl hx hu hqx hm
    go_wp2_with (go_at_call 110; refine HCALL.out.mono ?_; rintro e w6 ⟨A6, c6, ttt, rfl, HR6⟩)
    go_roundg (n - (i + 1))
    case measure => rw [HGK.out]; omega
    case rel =>
     refine ⟨i + 1, A6, q1 + m, c6, sss1 ++ ttt, by omega, rfl, by go_num, rfl, H_ ⟨?_, ?_, ?_⟩⟩
     ·rw [HNX.out, ← List.append_assoc, ← List.append_assoc]
      exact HR6.out.1
     ·refine HS.out.keep.trans HR6.out.2.1 (fun k hk e => ?_)
      rcases HS.out.old k e with h1 | h1
      ·exact h1
      omega
     intro k hk
     rcases HR6.out.2.2 k hk with h1 | h1
     ·exact HS.out.old k h1
     exact .inr (Nat.le_trans HS.out.keep.size h1)
   obtain rfl : i = n := by omega
   have HLT : Hid (∀ k, (Value.slice A q c).ownBlock = some k → k < w.heap.size) := H_ fun k hk => HST.out.own.own_lt hk
   have HE : Hid (j.steps = stepsTo j i ++ [j.last]) := H_ (by rw [HN.out]; exact stepsTo_all j)
   have HQL : Hid (q + j.steps.length = q1 + 1 ∧ q1 + 1 ≤ 1099511627776) := H_ (by
    have h1 := HS.out.row.len
    rw [List.length_append, HST.out.len] at h1
    have h2 : j.steps.length = (stepsTo j i).length + 1 := by rw [HE.out, List.length_append]; rfl
    have h3 := HQ.out
    rw [← steps_len] at h3
    exact ⟨by omega, by omega⟩)
   obtain ⟨SC, hSC⟩ : ∃ SC, SC = stepV j.last Bk dk := ⟨_, rfl⟩
   have HSC := H_ hSC
   have HSL : Hid (SC.length = 6) := H_ (by rw [hSC]; rfl)
   have HSI : Hid ((Tryz.prog.info? 53).map (·.size) = some SC.length) := H_ (by rw [HSL.out]; kernel_rfl)
   have HSOC : Hid (∀ u ∈ SC, u.oneCell' = true) := H_ (by rw [hSC]; exact stepV_one _ _ _)
   have HKR : Hid (Keeps (fun k => (Value.slice A q c).ownBlock = some k) wc wr) := H_ ((HK5.out.mono (fun _ _ h => h.elim)).trans HS.out.keep (fun _ _ h => h))
   have HBR : Hid (Blk wr p 53 SC) := H_ (by
    rw [hSC]
    exact HKR.out.blk HBC.out (fun e => by have := HLT.out p e; have := HP.out; omega))
   have HEND : Hid (∀ A7 c7 w7, w7.ownsRow 0 53 6 (.slice A7 (q1 + 1) c7) (q1 + 1) ((sss ++ sss1).flatten ++ SC) → (wr.alloc (.cells SC.toArray 53)).grownBy w7 (Value.slice A1 q1 c1).ownBlock →
     ((Value.slice A7 (q1 + 1) c7).ownBlock = (Value.slice A1 q1 c1).ownBlock ∨ (Value.slice A7 (q1 + 1) c7).ownBlock = some (wr.alloc (.cells SC.toArray 53)).heap.size) → NStPost w0 w A q c sss l j.steps (.returned (.slice A7 (q1 + 1) c7)) w7) := H_ fun A7 c7 w7 ho hg hb => by
    rw [HSC.out] at ho
    have hIn : InB (fun k => w.heap.size ≤ k ∧ k < wc.heap.size) Bk j.keys.length := Rd.inB HRK.out.1 HRK.out.2 fun k h1 h2 => ⟨h1, h2⟩
    have hrow := HS.out.row.grown (s := j.last) (B := Bk) (d := dk) ((Keeps.refl _ wr).alloc _) ho hg hb (by
     rw [last_keys]
     exact HRK.out.1.keep HKR.out (HRK.out.2.out fun k h1 e => by have := HLT.out k e; omega)) (by
     rw [last_keys]
     refine hIn.mono fun k hk => ⟨Nat.le_trans HST.out.own.2.1.size hk.1, fun e => ?_⟩
     rcases HS.out.old k e with h1 | h1
     ·have := HLT.out k h1; omega
     have := HK5.out.size; omega)
    refine ⟨A7, c7, sss1 ++ [SC], by rw [HQL.out.1], ?_, ?_, ?_⟩
    ·rw [HQL.out.1, HE.out, HSC.out, ← List.append_assoc, ← List.append_assoc]
     exact hrow
    ·have h1 : Keeps (fun k => (Value.slice A q c).ownBlock = some k) w wr := (HKC.out.mono (fun _ _ h => h.elim)).trans HKR.out (fun _ _ h => h)
     refine (h1.alloc _).trans (Keeps.of_grown hg) (fun k hk e => ?_)
     rcases HS.out.old k e with h2 | h2
     ·exact h2
     have := HK5.out.size; have := HKC.out.size; omega
    rw [HQL.out.1]
    intro k hk
    have hws : w.heap.size ≤ w5.heap.size := Nat.le_trans HKC.out.size HK5.out.size
    rcases hb with h1 | h1
    ·rw [h1] at hk
     rcases HS.out.old k hk with h2 | h2
     ·exact .inl h2
     exact .inr (Nat.le_trans hws h2)
    rw [h1] at hk
    injection hk with hk
    have := HS.out.keep.size
    rw [World.size_alloc] at hk
    exact .inr (by omega)
   clear hSC
   go_wp2_with (first
    | ((with_reducible show wpList _ _ _ (⟨some 64, _, _, _, _, _⟩ :: _) _ _); refine wpList_load_whole rfl 53 _ rfl _ rfl HBR.out Tryz.underlying53 rfl HSI.out ?_)
    | ((with_reducible show wpList _ _ _ (⟨some 65, _, _, _, _, _⟩ :: _) _ _); refine wpList_box_S _ rfl 22 53 (.tmp 64) rfl (.agg #[.int .i64 0, .bool false, .int .u64 0, .string .empty, .int .i64 0, .slice none 0 0]) 6 Tryz.underlying22 infoStepA2 (by decide) (by decide) SC HSL.out rfl ?_)
    | (at_builtin; refine wpList_append_S _ rfl (.tmp 63) (.tmp 65) 22 rfl 53 (.agg #[.int .i64 0, .bool false, .int .u64 0, .string .empty, .int .i64 0, .slice none 0 0]) 6 72 Tryz.underlying22 infoStepA rfl (by decide) A1 q1 c1 _ rfl (HS.out.row.own.keep ((Keeps.refl _ wr).alloc _)).1 _ 1 1 SC rfl (RdS.blk (Blk.new _ 53 SC) (by rw [HSL.out])) HSOC.out (by have := HQL.out.2; unfold maxLen; omega) (by have := HQL.out.2; omega) ?_; intro A7 c7 w7 ho7 hg7 hb7; have HE7 := H_ (HEND.out A7 c7 w7 ho7 hg7 hb7); clear ho7 hg7 hb7))
   go_ret
   exact HE7.out
theorem nsteps_any {D : Nat → Prop} (w0 : World) : ∀ (j : JV), JOk j → ∀ (v : Value), JAt D w0 v j → ∀ (w : World) (A : Option Addr) (q c : Nat) (sss : List (List Value)) (l : List StepV), RowSt w0 w A q c sss l → q + j.nodes ≤ 1099511627776 →
  Calls Tryz.prog 110 #[.slice A q c, v] w (NStPost w0 w A q c sss l j.steps) := by
 intro j hok
 induction hok with
 | mk j h1 h2 hp hr ht h ih =>
  intro v hv w A q c sss l hrow hq
  exact nsteps_one w0 v j hv (.mk j h1 h2 hp hr ht h) w A q c sss l hrow hq fun x hx u hu w A q c sss l hrow hq => ih x hx u hu w A q c sss l hrow hq
end Go.Proofs.YtdmcioghdindfaaGreatDoor
