/- Texts. -/
import Derived.Test.YtdmcioghdindfaaGreatDoorL22
set_option linter.unusedSimpArgs false
set_option maxRecDepth 100000
set_option maxHeartbeats 4000000
namespace Go.Proofs.YtdmcioghdindfaaGreatDoor
open Go Go.RowKit Go.Aff Go.Json
theorem rdo_any (w0 w : World) (A : Option Addr) (m c : Nat) (css : List (List Value)) (P : List JV) (h : RowR w0 w A m c css P) (hm : m ≤ 1048576) (hP : RowOk P) (s : StepV) (hf : StepFits s) (hcn : s.count ≤ 9223372036854775807) (B : Option Addr) (d : Nat) (hk : Rd w B s.keys.length (s.keys.map .string)) (hd : s.keys.length ≤ d) :
  Calls Tryz.prog 54 #[.slice A m c, .agg (stepV s B d).toArray] w (DoRPost w0 w A m c P s) := by
 rcases hu : usedF s with _ | _
 ·exact rdo_unused w0 w A m c css P h hm hP s hf B d hk hd hu
 by_cases h3 : s.sort = 3 → finiteF s.bits = true
 ·rcases ht : rightS s.text with _ | _
  ·exact rdo_text w0 w A m c css P h hm hP s hf B d hk hd hu h3 ht
  rcases hkk : s.keys.all rightS with _ | _
  ·exact rdo_keys w0 w A m c css P h hm hP s hf B d hk hd hu h3 ht hkk
  by_cases hn : s.keys.Nodup
  ·rcases Nat.lt_or_ge m (s.count.toNat + s.keys.length) with hlt | hge
   ·exact rdo_few w0 w A m c css P h hm hP s hf B d hk hd hu h3 ht hkk hn hcn hlt
   obtain ⟨_, _, _, h1, h6, _⟩ := used_parts hu
   have hs : (s.sort = 1 ∨ s.sort = 2 ∨ s.sort = 4) ∨ s.sort = 3 ∨ s.sort = 5 ∨ s.sort = 6 := by omega
   rcases hs with hs | hs | hs | hs
   ·exact rdo_leaf w0 w A m c css P h hm hP s hf B d hk hd hu h3 ht hkk hn _ rfl hge hs
   ·exact rdo_num w0 w A m c css P h hm hP s hf B d hk hd hu h3 ht hkk hn _ rfl hge hs
   ·exact rdo_list w0 w A m c css P h hm hP s hf B d hk hd hu h3 ht hkk hn _ rfl hge hs
   exact rdo_obj w0 w A m c css P h hm hP s hf B d hk hd hu h3 ht hkk hn _ rfl hge hs
  exact rdo_twice w0 w A m c css P h hm hP s hf B d hk hd hu h3 ht hkk hn
 ·have a3 : s.sort = 3 ∧ finiteF s.bits = false := by
   by_cases e : s.sort = 3
   ·refine ⟨e, ?_⟩
    rcases hq : finiteF s.bits with _ | _
    ·rfl
    exact absurd (fun _ => hq) h3
   exact absurd (fun h => absurd h e) h3
  exact rdo_inf w0 w A m c css P h hm hP s hf B d hk hd hu a3.1 a3.2
theorem doF_inl {P : List JV} {s : StepV} {k : Int} (h : doF P s = .inl k) : k ≠ 0 := by
 unfold doF at h
 repeat' split at h
 all_goals first
  | (injection h with h; omega)
  | cases h
theorem doF_more {P P' : List JV} {s : StepV} (h : doF P s = .inr P') : P'.length ≤ P.length + 1 := by
 unfold doF at h
 repeat' split at h
 all_goals first
  | (injection h with h; subst h; rw [List.length_append, List.length_take, List.length_singleton]; omega)
  | cases h
def StepsR (w : World) (A : Option Addr) (l : List StepV) : Prop := ∀ (k : Nat) (s : StepV), l[k]? = some s → ∃ g o B d, A = some ⟨g, o, none⟩ ∧ w.rangeAt g (o + k * 6) (stepV s B d) ∧ Rd w B s.keys.length (s.keys.map .string) ∧ s.keys.length ≤ d
theorem StepsR.at_ {w : World} {A : Option Addr} {l : List StepV} (h : StepsR w A l) : StepsAt w A l := fun k s hs => by
 obtain ⟨g, o, B, d, h1, h2, h3, _⟩ := h k s hs
 exact ⟨g, o, B, d, h1, h2, h3⟩
theorem StepsR.stay {w w' : World} {A : Option Addr} {l : List StepV} (h : StepsR w A l) (hk : Keeps (fun _ => False) w w') : StepsR w' A l := fun k s hs => by
 obtain ⟨g, o, B, d, e, hr, hb, hd⟩ := h k s hs
 exact ⟨g, o, B, d, e, fun j v hj => cell_keep hk (hr j v hj), hb.keep hk (fun _ _ _ h => h), hd⟩
structure StepFits2 (s : StepV) : Prop where
 fits : StepFits s
 count : s.count ≤ 9223372036854775807
def BuildRPost (w : World) (l : List StepV) (e : Ending) (w' : World) : Prop := Keeps (fun _ => False) w w' ∧ match buildF l with
 | .inl (k, none) => e = .returned (.tuple #[.agg valZ.toArray, .int .i64 k, .int .i64 (-1)])
 | .inl (k, some i) => e = .returned (.tuple #[.agg valZ.toArray, .int .i64 k, .int .i64 i])
 | .inr j => ∃ v, e = .returned (.tuple #[.agg v.toArray, .int .i64 0, .int .i64 0]) ∧ RAt (fun i => w.heap.size ≤ i) w' v j
theorem results_blk_tt {P : Program} {w : World} {g : Nat} {t : TypeId} {cs : List Value} {fn : Func} {p u u2 : Tmp} {ty : TypeId} (h : fn.results = #[.cell p ty, .tmp u, .tmp u2]) (tmps : Array Value) (d : TypeDesc)
  (hp : tmps.getD p undef = .pointer (some ⟨g, 0, none⟩)) (hg : Blk w g t cs)
  (hu : P.underlying ty = some d) (hd : (match d with | .struct _ | .array _ _ => true | _ => false) = true) (hi : (P.info? ty).map (·.size) = some cs.length) :
  (results fn tmps).run P w = .ok (.tuple #[.agg cs.toArray, tmps.getD u undef, tmps.getD u2 undef]) w := by
 have hl := run_loadVar_row (P := P) w g t ty cs.toArray (0, 0) d hg hu hd (by simpa using hi)
 have hp' : tmps[p]?.getD undef = .pointer (some ⟨g, 0, none⟩) := by simpa using hp
 simp [results, h, hp', asAddr, hl, Sem.run_bind, Result.andThen]
structure BuildR (w1 wr : World) (l : List StepV) (k : Nat) (A : Option Addr) (m c : Nat) (css : List (List Value)) (P : List JV) : Prop where
 row : RowR w1 wr A m c css P
 run : rowF 0 [] l = rowF k P (l.drop k)
 few : m ≤ k
 ok : RowOk P
theorem rbuild_any (w : World) (A : Option Addr) (n c : Nat) (l : List StepV) (hn : l.length = n) (hS : StepsR w A l) (hf : ∀ s ∈ l, StepFits2 s) :
  Calls Tryz.prog 26 #[.slice A n c] w (BuildRPost w l) := by
 have HB0 := H_ (And.intro ((Keeps.refl (fun _ => False) w).alloc (.cells valZ.toArray 31)) (Blk.new w 31 valZ))
 have hbz := Blk.new w 31 valZ
 have f0 := hbz.frozen 0
 have f1 := hbz.frozen 1
 have f2 := hbz.frozen 2
 have f3 := hbz.frozen 3
 have f4 := hbz.frozen 4
 have f5 := hbz.frozen 5
 clear hbz
 unfold valZ at HB0 f0 f1 f2 f3 f4 f5
 by_cases hlong : 65536 < n
 ·have HB : Hid (buildF l = .inl (3, none)) := H_ (by unfold buildF; rw [hn, if_pos hlong])
  clear hS hn hf
  go_enter Tryz.func26, Tryz.ntmps26
  go_wp2
  refine bodyPost_ret (results_blk_tt rfl _ _ rfl HB0.out.2 Tryz.underlying31 rfl (by kernel_rfl)) rfl ⟨HB0.out.1, ?_⟩
  rw [HB.out]
  rfl
 ·have HRF : Hid (∀ r, rowF 0 [] l = r → buildF l = match r with | .inl (e, i) => .inl (e, some i) | .inr [v] => .inr v | .inr _ => .inl (103, some l.length)) := H_ fun r hr => by
   unfold buildF
   rw [if_neg (by rw [hn]; exact hlong), hr]
   rcases r with ⟨e, i⟩ | P
   ·rfl
   match P with
   | [] => rfl
   | [v] => rfl
   | _ :: _ :: _ => rfl
  have HSC : Hid (∀ k, k < n → ∃ s g o B d, l[k]? = some s ∧ A = some ⟨g, o, none⟩ ∧ w.rangeAt g (o + k * 6) (stepV s B d) ∧ Rd w B s.keys.length (s.keys.map .string) ∧ s.keys.length ≤ d ∧ StepFits2 s) := H_ fun k hk => by
   obtain ⟨s, hs⟩ : ∃ s, l[k]? = some s := ⟨_, List.getElem?_eq_getElem (by omega)⟩
   obtain ⟨g, o, B, d, h1, h2, h3, h4⟩ := hS k s hs
   exact ⟨s, g, o, B, d, hs, h1, h2, h3, h4, hf s (List.mem_of_getElem? hs)⟩
  have HDN : Hid (∀ (P : List JV), rowF n P (l.drop n) = .inr P) := H_ fun P => by rw [List.drop_of_length_le (by omega)]; rfl
  have HLN := H_ hn
  clear hS hn hf f0 f1 f2 f3 f4 f5
  go_enter Tryz.func26, Tryz.ntmps26
  go_upto_region 4 with fail
  obtain ⟨b, hb⟩ : ∃ b, b = w.heap.size := ⟨_, rfl⟩
  rw [← hb] at HB0 ⊢
  refine gen_codeF (fun W => Keeps (fun _ => False) w W ∧ Blk W b 31 [.int .i64 0, .bool false, .int .u64 0, .string .empty, .slice none 0 0, .slice none 0 0]) HB0.out ?_
  intro w1 hb1
  have HB1 := H_ hb1
  have HBW := H_ hb
  clear hb1 HB0 hb
  go_wp2
  go_loopg [5, 6] n (fun gk y t wr => ∃ (k : Nat) (A2 : Option Addr) (m c2 : Nat) (css : List (List Value)) (P : List JV), k ≤ n ∧ y = .slice A2 m c2 ∧ t = .int .i64 k ∧ gk = n - k ∧ Hid (BuildR w1 wr l k A2 m c2 css P))
  case atStart => exact ⟨0, none, 0, 0, [], [], by omega, rfl, rfl, by omega, H_ ⟨RowR.nil w1, rfl, Nat.le_refl _, RowOk.nil⟩⟩
  case round =>
   obtain ⟨k, A2, m, c2, css, P, hk, rfl, rfl, hgk, HB⟩ := hrel
   have HGK := H_ hgk
   clear hgk
   by_cases hlt : k < n
   ·obtain ⟨s, g, o, B, d, hs, hA, hr, hkr, hkd, hfs⟩ := HSC.out k hlt
    subst hA
    obtain ⟨SC, hSC⟩ : ∃ SC, SC = stepV s B d := ⟨_, rfl⟩
    rw [← hSC] at hr
    have HKW : Hid (Keeps (fun _ => False) w wr) := H_ (HB1.out.1.trans HB.out.row.own.2.1 (fun _ _ h => h))
    have HRE : Hid (wr.rangeAt g (o + k * 6) SC) := H_ fun j y hj => cell_keep HKW.out (hr j y hj)
    have HSI : Hid ((Tryz.prog.info? 65).map (·.size) = some SC.length) := H_ (by rw [hSC, stepV_len]; kernel_rfl)
    have HST : Hid (Calls Tryz.prog 54 #[.slice A2 m c2, .agg SC.toArray] wr (DoRPost w1 wr A2 m c2 P s)) := H_ (by
     rw [hSC]
     exact rdo_any w1 wr A2 m c2 css P HB.out.row (by have := HB.out.few; omega) HB.out.ok s hfs.fits hfs.count B d (hkr.keep HKW.out (fun _ _ _ h => h)) hkd)
    have hrn : rowF 0 [] l = match doF P s with
      | .inl e => .inl (e, k)
      | .inr P' => rowF (k + 1) P' (l.drop (k + 1)) := by
     rw [HB.out.run, List.drop_eq_getElem_cons (by have := HLN.out; omega)]
     have e : l[k]'(by have := HLN.out; omega) = s := by
      have := List.getElem?_eq_getElem (l := l) (i := k) (by have := HLN.out; omega)
      rw [hs] at this
      injection this with this
      exact this.symm
     rw [e]
     rfl
    have hkn : (k : Int) < (n : Int) := by omega
    have hk0 : (0 : Int) ≤ (k : Int) := by omega
    have HB2 : Hid (∀ W, Keeps (fun _ => False) wr W → Blk W b 31 [.int .i64 0, .bool false, .int .u64 0, .string .empty, .slice none 0 0, .slice none 0 0]) := H_ fun W hW => (HB.out.row.own.2.1.trans hW (fun _ _ h => h)).blk HB1.out.2 (fun h => h)
    unfold DoRPost at HST
    rcases hd : doF P s with k3 | P2
    ·rw [hd] at hrn HST
     have HRN := H_ (HRF.out _ hrn)
     have hk3 : (k3 != 0) = true := by have := doF_inl hd; simpa using this
     clear hSC hr hs hkr hfs hrn hd
     go_wp2_with (first
      | ((with_reducible show wpList _ _ _ (⟨some 23, _, _, _, _, _⟩ :: _) _ _); refine wpList_load_mid rfl 65 _ rfl _ _ rfl SC _ HRE.out Tryz.underlying65 rfl HSI.out ?_)
      | (go_at_call 54; refine HST.out.mono ?_; rintro e w2 ⟨rfl, hk2⟩; have HK2 := H_ hk2; have hbp := HB2.out _ hk2; have HBP := H_ hbp; have g0 := hbp.cell 0; have g1 := hbp.cell 1; have g2 := hbp.cell 2; have g3 := hbp.cell 3; have g4 := hbp.cell 4; have g5 := hbp.cell 5; have f0 := hbp.frozen 0; have f1 := hbp.frozen 1; have f2 := hbp.frozen 2; have f3 := hbp.frozen 3; have f4 := hbp.frozen 4; have f5 := hbp.frozen 5; clear hk2 hbp))
     refine bodyPost_ret (results_blk_tt rfl _ _ rfl (six_blk HBP.out _ _ _ _ _ _) Tryz.underlying31 rfl (by kernel_rfl)) rfl ⟨?_, ?_⟩
     ·exact (HKW.out.trans HK2.out (fun _ _ h => h)).trans (six_keeps w2 b _ _ _ _ _ _) (fun i hi e => by have := HBW.out; omega)
     rw [HRN.out]
     rfl
    rw [hd] at hrn HST
    have HRN := H_ hrn
    have HDD := H_ hd
    clear hSC hr hs hkr hfs hrn hd
    go_wp2_with (first
     | ((with_reducible show wpList _ _ _ (⟨some 23, _, _, _, _, _⟩ :: _) _ _); refine wpList_load_mid rfl 65 _ rfl _ _ rfl SC _ HRE.out Tryz.underlying65 rfl HSI.out ?_)
     | (go_at_call 54; refine HST.out.mono ?_; rintro e w2 ⟨A7, c7, css7, rfl, hr7⟩; have HR7 := H_ hr7; clear hr7))
    go_roundg (n - (k + 1))
    case measure => rw [HGK.out]; omega
    case rel => exact ⟨k + 1, A7, P2.length, c7, css7, P2, by omega, rfl, by go_num, rfl, H_ ⟨HR7.out, HRN.out, by have := doF_more HDD.out; have := HB.out.few; have := HB.out.row.len; omega, doF_ok HDD.out HB.out.ok⟩⟩
   obtain rfl : k = n := by omega
   have HRN := H_ (HRF.out _ (HB.out.run.trans (HDN.out P)))
   have HB2 : Hid (∀ W, Keeps (fun _ => False) wr W → Blk W b 31 [.int .i64 0, .bool false, .int .u64 0, .string .empty, .slice none 0 0, .slice none 0 0]) := H_ fun W hW => (HB.out.row.own.2.1.trans hW (fun _ _ h => h)).blk HB1.out.2 (fun h => h)
   have hbp := HB2.out _ (Keeps.refl _ wr)
   have HBP := H_ hbp
   have g0 := hbp.cell 0
   have g1 := hbp.cell 1
   have g2 := hbp.cell 2
   have g3 := hbp.cell 3
   have g4 := hbp.cell 4
   have g5 := hbp.cell 5
   have f0 := hbp.frozen 0
   have f1 := hbp.frozen 1
   have f2 := hbp.frozen 2
   have f3 := hbp.frozen 3
   have f4 := hbp.frozen 4
   have f5 := hbp.frozen 5
   clear hbp
   have HKE : Hid (∀ v0 v1 v2 v3 v4 v5, Keeps (fun _ => False) w (sixSet wr b v0 v1 v2 v3 v4 v5)) := H_ fun v0 v1 v2 v3 v4 v5 => (HB1.out.1.trans HB.out.row.own.2.1 (fun _ _ h => h)).trans (six_keeps wr b v0 v1 v2 v3 v4 v5) (fun i hi e => by have := HBW.out; omega)
   by_cases h1 : m = 1
   ·subst h1
    obtain ⟨j, hj⟩ : ∃ j, P = [j] := by
     match P, HB.out.row.len with
     | [j], _ => exact ⟨j, rfl⟩
    subst hj
    have hr := HB.out.row.lst
    obtain ⟨v, hv⟩ : ∃ v, css = [v] := by
     match css, hr.1 with
     | [v], _ => exact ⟨v, rfl⟩
    subst hv
    have hat := hr.2 0 v j rfl rfl
    obtain ⟨A9, c9, B9, d9, cs9, hv9, _⟩ := hat.form
    obtain ⟨g, o, hA2, hc2⟩ := (MineS.rdS HB.out.row.own).2 (by decide)
    subst hA2
    have HRE : Hid (wr.rangeAt g o v) := H_ fun q u hu => by
     have hl := hat.len
     have hq := (List.getElem?_eq_some_iff.1 hu).1
     rw [hc2 q (by omega)]
     simpa using hu
    have HSI : Hid ((Tryz.prog.info? 31).map (·.size) = some v.length) := H_ (by rw [hat.len]; kernel_rfl)
    have HAT : Hid (∀ v0 v1 v2 v3 v4 v5, RAt (fun i => w.heap.size ≤ i) (sixSet wr b v0 v1 v2 v3 v4 v5) v j) := H_ fun v0 v1 v2 v3 v4 v5 => by
     refine (hat.keep (six_keeps wr b v0 v1 v2 v3 v4 v5) (fun i hi e => ?_)).mono fun i hi _ => Nat.le_trans HB1.out.1.size hi.1
     have := hi.1
     have := HB1.out.2.lt
     omega
    have HV9 := H_ hv9
    unfold refC at HV9
    clear hr hat hv9 hc2
    go_wp2_with (first
     | ((with_reducible show wpList _ _ _ (⟨some 40, _, _, _, _, _⟩ :: _) _ _); refine wpList_load_mid rfl 31 _ rfl _ _ rfl v _ HRE.out Tryz.underlying31 rfl HSI.out ?_; rw [HV9.out]))
    refine bodyPost_ret (results_blk_tt rfl _ _ rfl (six_blk HBP.out _ _ _ _ _ _) Tryz.underlying31 rfl (by kernel_rfl)) rfl ⟨HKE.out _ _ _ _ _ _, ?_⟩
    rw [HRN.out]
    exact ⟨_, rfl, by rw [← HV9.out]; exact HAT.out _ _ _ _ _ _⟩
   have hne : ((m : Int) != 1) = true := by simp; omega
   have HRB : Hid (buildF l = .inl (103, some l.length)) := H_ (by
    rw [HRN.out]
    match P, HB.out.row.len with
    | [], _ => rfl
    | [_], hl => exact absurd hl.symm h1
    | _ :: _ :: _, _ => rfl)
   clear h1
   go_wp2
   refine bodyPost_ret (results_blk_tt rfl _ _ rfl (six_blk HBP.out _ _ _ _ _ _) Tryz.underlying31 rfl (by kernel_rfl)) rfl ⟨HKE.out _ _ _ _ _ _, ?_⟩
   rw [HRB.out, HLN.out]
   rfl
end Go.Proofs.YtdmcioghdindfaaGreatDoor
namespace Go.Json
theorem JV.by_items {P : JV → Prop} (h : ∀ j : JV, (∀ x, x ∈ j.items → P x) → P j) : ∀ j, P j :=
 JV.ind (h .null fun x hx => by cases hx) (fun b => h (.flag b) fun x hx => by cases hx) (fun b => h (.num b) fun x hx => by cases hx) (fun s => h (.text s) fun x hx => by cases hx) (fun l ih => h (.list l) ih) (fun ks l ih => h (.obj ks l) ih)
theorem item_nodes {j x : JV} (h : x ∈ j.items) : x.nodes ≤ j.nodes := by
 rw [JV.nodes_eq j]
 have := sumN_mem (List.mem_map.2 ⟨x, h, rfl⟩ : x.nodes ∈ j.items.map fun x => x.nodes)
 omega
end Go.Json
namespace Go.Proofs.YtdmcioghdindfaaGreatDoor
open Go Go.RowKit Go.Aff Go.Json
def SList (D : Nat → Prop) (w : World) (sss : List (List Value)) (l : List StepV) : Prop := sss.length = l.length ∧ ∀ (i : Nat) (cs : List Value) (s : StepV), sss[i]? = some cs → l[i]? = some s → ∃ B d, cs = stepV s B d ∧ Rd w B s.keys.length (s.keys.map .string) ∧ InB D B s.keys.length
section
variable {D C F : Nat → Prop} {w w' : World} {sss ttt : List (List Value)} {l m : List StepV}
theorem SList.nil (D : Nat → Prop) (w : World) : SList D w [] [] := ⟨rfl, fun i cs s h => by simp at h⟩
theorem SList.keep (h : SList D w sss l) (hk : Keeps F w w') (hF : ∀ i, D i → ¬ F i) : SList D w' sss l := ⟨h.1, fun i cs s h1 h2 => by
 obtain ⟨B, d, e, hr, hB⟩ := h.2 i cs s h1 h2
 exact ⟨B, d, e, hr.keep hk (hB.out hF), hB⟩⟩
theorem SList.stay (h : SList D w sss l) (hk : Keeps (fun _ => False) w w') : SList D w' sss l := h.keep hk (fun _ _ h => h)
theorem SList.mono (h : SList D w sss l) (hC : ∀ i, D i → C i) : SList C w sss l := ⟨h.1, fun i cs s h1 h2 => by
 obtain ⟨B, d, e, hr, hB⟩ := h.2 i cs s h1 h2
 exact ⟨B, d, e, hr, hB.mono hC⟩⟩
theorem SList.app (h : SList D w sss l) (h2 : SList D w ttt m) : SList D w (sss ++ ttt) (l ++ m) := by
 refine ⟨by rw [List.length_append, List.length_append, h.1, h2.1], fun i cs x h3 h4 => ?_⟩
 rcases Nat.lt_or_ge i sss.length with hi | hi
 ·rw [List.getElem?_append_left hi] at h3
  rw [List.getElem?_append_left (by rw [← h.1]; exact hi)] at h4
  exact h.2 i cs x h3 h4
 rw [List.getElem?_append_right hi] at h3
 rw [List.getElem?_append_right (by rw [← h.1]; exact hi), ← h.1] at h4
 exact h2.2 _ cs x h3 h4
theorem SList.one {s : StepV} {B : Option Addr} {d : Nat} (hr : Rd w B s.keys.length (s.keys.map .string)) (hB : InB D B s.keys.length) : SList D w [stepV s B d] [s] := ⟨rfl, fun i c x h1 h2 => by
 match i with
 | 0 => simp at h1 h2; subst h1 h2; exact ⟨B, d, rfl, hr, hB⟩
 | _ + 1 => simp at h1⟩
theorem SList.form (h : SList D w sss l) {c : List Value} (hc : c ∈ sss) : ∃ s B d, c = stepV s B d := by
 obtain ⟨i, hi⟩ := List.getElem?_of_mem hc
 have hlt := (List.getElem?_eq_some_iff.1 hi).1
 obtain ⟨B, d, e, _⟩ := h.2 i c _ hi (List.getElem?_eq_getElem (by rw [← h.1]; exact hlt))
 exact ⟨_, B, d, e⟩
theorem SList.six (h : SList D w sss l) : ∀ c ∈ sss, c.length = 6 := fun c hc => by
 obtain ⟨s, B, d, e⟩ := h.form hc
 rw [e]; rfl
theorem SList.cells (h : SList D w sss l) : ∀ u ∈ sss.flatten, u.oneCell' = true := fun u hu => by
 obtain ⟨c, hc, hu⟩ := List.mem_flatten.1 hu
 obtain ⟨s, B, d, e⟩ := h.form hc
 rw [e] at hu
 exact stepV_one _ _ _ u hu
end
theorem infoStep : (Tryz.prog.info? 65).map (fun i => (i.zero, i.size, i.bytes)) = some (some (.agg #[.int .i64 0, .bool false, .int .u64 0, .string .empty, .int .i64 0, .slice none 0 0]), 6, 72) := by kernel_rfl
theorem infoStep2 : (Tryz.prog.info? 65).map (fun i => (i.zero, i.size)) = some (some (.agg #[.int .i64 0, .bool false, .int .u64 0, .string .empty, .int .i64 0, .slice none 0 0]), 6) := by kernel_rfl
end Go.Proofs.YtdmcioghdindfaaGreatDoor
