/- Texts. -/
import Derived.Test.YtplleficmkfniaaGreatDoorQ35
import Derived.Shelf.Strings.Cut
import Derived.Shelf.Strings.Count
import Derived.Shelf.Strings.LastIndex
set_option linter.unusedSimpArgs false
set_option maxRecDepth 100000
set_option maxHeartbeats 4000000
namespace Go.Proofs.YtplleficmkfniaaGreatDoor
open Go Go.RowKit Go.Aff Go.Json Go.Sha Go.Dig Go.Book
attribute [local go_sem] Oper.semAt_some
theorem results_blk_tmp {P : Program} {w : World} {g : Nat} {t : TypeId} {cs : List Value} {fn : Func} {p u : Tmp} {ty : TypeId} (h : fn.results = #[.cell p ty, .tmp u]) (tmps : Array Value) (d : TypeDesc)
  (hp : tmps.getD p undef = .pointer (some ⟨g, 0, none⟩)) (hg : Blk w g t cs)
  (hu : P.underlying ty = some d) (hd : (match d with | .struct _ | .array _ _ => true | _ => false) = true) (hi : (P.info? ty).map (·.size) = some cs.length) :
  (results fn tmps).run P w = .ok (.tuple #[.agg cs.toArray, tmps.getD u undef]) w := by
 rw [results_cell_tmp h, hp]
 simp only [asAddr, Sem.run_pure, Result.andThen]
 rw [run_loadVar_row w g t ty cs.toArray (0, 0) d hg hu hd (by simpa using hi)]
def zeroD : List Int := List.replicate 32 0
theorem vb_zero : vb zeroD = List.replicate 32 (Value.int .u8 0) := rfl
theorem dOf_any {D : Nat → Prop} {w : World} {q : Nat} {v : Value} {j : JV} (hG : GW w) (ht : TreeAt D w q v j) (hok : JOk j) (hn : j.nodes ≤ 1048576) (hb : j.bytes ≤ 4194304) :
  Calls Tryz.prog 23 #[.pointer (some ⟨q, 0, none⟩)] w fun e w' => e = .returned (.tuple #[.agg (vb j.dg).toArray, .nilIface]) ∧ Keeps (fun _ => False) w w' := by
 obtain ⟨T, y, hv⟩ := ht.2.2.iface
 subst hv
 obtain ⟨N, hN⟩ : ∃ N, N = w.heap.size := ⟨_, rfl⟩
 obtain ⟨DV, hDV⟩ : ∃ DV, DV = vb j.dg := ⟨_, rfl⟩
 have HD1 : Hid (∀ u ∈ DV, u.oneCell' = true) := H_ (by rw [hDV]; exact vb_one _)
 have HDL : Hid (DV.length = 32) := H_ (by rw [hDV, vb_length]; exact dg_len _)
 have HIN : Hid ((Tryz.prog.info? 23).map (·.size) = some DV.length) := H_ (infoDg DV HDL.out)
 have HW1 : Hid (Keeps (fun _ => False) w (w.alloc (.cells (List.replicate 32 (Value.int .u8 0)).toArray 23)) ∧ Blk (w.alloc (.cells (List.replicate 32 (Value.int .u8 0)).toArray 23)) N 23 (List.replicate 32 (Value.int .u8 0))) := H_ ⟨(Keeps.refl _ w).alloc _, by rw [hN]; exact Blk.new _ _ _⟩
 have HRO : Hid (∀ W, Keeps (fun _ => False) w W → Calls Tryz.prog 40 #[.pointer (some ⟨q, 0, none⟩)] W fun e w' => e = .returned (.agg #[.iface T y]) ∧ Keeps (fun _ => False) W w') := H_ fun W hW => root_any W q T y (hW.blk ht.2.1 fun h => h)
 have HOF : Hid (∀ W, Keeps (fun _ => False) w W → Calls Tryz.prog 67 #[.nilFunc, .agg #[.iface T y]] W fun e w' => e = .returned (.agg DV.toArray) ∧ Keeps (fun _ => False) W w') := H_ fun W hW => by rw [hDV]; exact dof_plain (hG.stay hW) (ht.2.2.stay hW) hok hn hb
 have HNN := H_ hN
 rw [← hDV]
 clear hG ht hok hn hb hN hDV
 go_enter Tryz.func23, Tryz.ntmps23
 go_upto_region 1 with fail
 refine gen_codeF (fun W => Keeps (fun _ => False) w W ∧ Blk W N 23 (List.replicate 32 (Value.int .u8 0))) HW1.out ?_
 rintro w1 ⟨k1, z1⟩
 have hNN := HNN.out
 rw [← hNN]
 clear hNN
 have HK1 := H_ k1
 have HZ1 := H_ z1
 clear k1 z1
 go_wp2_with (first
  | (go_at_call 40; refine (HRO.out _ HK1.out).mono ?_; rintro e w2 ⟨rfl, hk2⟩; have HK2 := H_ (HK1.out.trans hk2 fun _ _ h => h); have HZ2 := H_ (hk2.blk HZ1.out fun h => h); clear hk2)
  | (go_at_call 67; refine (HOF.out _ HK2.out).mono ?_; rintro e w3 ⟨rfl, hk3⟩; have HK3 := H_ (HK2.out.trans hk3 fun _ _ h => h); have HZ3 := H_ (hk3.blk HZ2.out fun h => h); clear hk3)
  | ((with_reducible show wpList _ _ _ (⟨none, Op.store 23 _ _, _, _, _, _⟩ :: _) _ _); refine wpList_store_whole rfl 23 _ _ rfl DV rfl rfl HZ3.out (by rw [HDL.out]; simp) HIN.out HD1.out ?_))
 refine bodyPost_ret (results_blk_tmp rfl _ _ rfl (HZ3.out.setRow DV) Tryz.underlying23 rfl HIN.out) rfl ⟨rfl, ?_⟩
 exact HK3.out.setRow (.inr (by have := HNN.out; omega)) _
end Go.Proofs.YtplleficmkfniaaGreatDoor
namespace Go.Json
theorem doF_within {P P' : List JV} {s : StepV} (h : doF P s = .inr P') (hP : ∀ j ∈ P, j.within) : ∀ j ∈ P', j.within := by
 unfold doF at h
 repeat' split at h
 all_goals first | (cases h; done) | skip
 rename_i hw
 injection h with h
 subst h
 intro j hj
 rcases List.mem_append.1 hj with hj | hj
 ·exact hP j (List.mem_of_mem_take hj)
 ·rw [List.mem_singleton.1 hj]; exact Decidable.of_not_not hw
theorem doF_length {P P' : List JV} {s : StepV} (h : doF P s = .inr P') : P'.length ≤ P.length + 1 := by
 unfold doF at h
 repeat' split at h
 all_goals first | (cases h; done) | skip
 injection h with h
 subst h
 rw [List.length_append, List.length_take]
 simp
theorem rowF_cons (i : Nat) (P : List JV) (s : StepV) (l : List StepV) : rowF i P (s :: l) = match doF P s with
  | .inl e => .inl (e, i)
  | .inr P' => rowF (i + 1) P' l := rfl
end Go.Json
namespace Go.Proofs.YtplleficmkfniaaGreatDoor
open Go Go.RowKit Go.Aff Go.Json
def StepsAt (w : World) (A : Option Addr) (l : List StepV) : Prop := ∀ (k : Nat) (s : StepV), l[k]? = some s → ∃ g o B d, A = some ⟨g, o, none⟩ ∧ w.rangeAt g (o + k * 6) (stepV s B d) ∧ Rd w B s.keys.length (s.keys.map .string)
theorem StepsAt.keep {w w' : World} {A : Option Addr} {l : List StepV} (h : StepsAt w A l) (hk : Keeps (fun _ => False) w w') : StepsAt w' A l := fun k s hs => by
 obtain ⟨g, o, B, d, e, hr, hb⟩ := h k s hs
 exact ⟨g, o, B, d, e, fun j v hj => cell_keep hk (hr j v hj), hb.keep hk (fun _ _ _ h => h)⟩
def spotE (n a : Int) : Value := .iface 134 (.agg #[.int .i64 n, .int .i64 a])
theorem stepV_one (s : StepV) (B : Option Addr) (d : Nat) : ∀ u ∈ stepV s B d, u.oneCell' = true := by
 intro u hu
 simp only [stepV, List.mem_cons, List.not_mem_nil, or_false] at hu
 rcases hu with rfl | rfl | rfl | rfl | rfl | rfl <;> rfl
def stepZ : List Value := [.int .i64 0, .bool false, .int .u64 0, .string ⟨#[]⟩, .int .i64 0, .slice none 0 0]
def DoSpec (s : StepV) : Prop := ∀ (T : TypeId) (D : Nat → Prop) (w : World) (p : Nat) (A : Option Addr) (c : Nat) (vs : List Value) (P : List JV), RowAt T D w p A c vs P → P.length ≤ 1048576 → (∀ j ∈ P, j.within) →
 ∀ (B : Option Addr) (d : Nat), Rd w B s.keys.length (s.keys.map .string) → Calls Tryz.prog 55 #[.pointer (some ⟨p, 0, none⟩), .agg (stepV s B d).toArray] w (DoPost T D w p (.slice A P.length c) P s)
theorem do_null_spec (s : StepV) (hu : usedF s = true) (hs : s.sort = 1) : DoSpec s := fun T D w p A c vs P h hn _ B d _ => do_null T D w p A c vs P h hn s B d hu hs
def BuildPost (w : World) (l : List StepV) (e : Ending) (w' : World) : Prop := Keeps (fun _ => False) w w' ∧ match buildF l with
 | .inl (k, none) => e = .returned (.tuple #[.pointer none, errE k])
 | .inl (k, some i) => e = .returned (.tuple #[.pointer none, spotE k i])
 | .inr j => ∃ q v, e = .returned (.tuple #[.pointer (some ⟨q, 0, none⟩), .nilIface]) ∧ TreeAt (fun i => w.heap.size ≤ i) w' q v j ∧ j.within
structure Building (w wr : World) (l : List StepV) (k : Nat) (A : Option Addr) (c : Nat) (vs : List Value) (P : List JV) : Prop where
 row : RowAt 129 (fun i => w.heap.size ≤ i) wr w.heap.size A c vs P
 keep : Keeps (fun _ => False) w wr
 run : rowF 0 [] l = rowF k P (l.drop k)
 few : P.length ≤ k
 inn : ∀ j ∈ P, j.within
theorem keep_lo {w w' wr : World} {F : Nat → Prop} (h : Keeps (fun _ => False) w wr) (k : Keeps F wr w') (hF : ∀ i, F i → w.heap.size ≤ i) : Keeps (fun _ => False) w w' := h.trans k (fun i hi e => by have := hF i e; omega)
theorem Build_spec (w : World) (A : Option Addr) (n c : Nat) (l : List StepV) (hn : l.length = n) (hS : StepsAt w A l) (hdo : ∀ s ∈ l, DoSpec s) :
  Calls Tryz.prog 13 #[.slice A n c] w (BuildPost w l) := by
 by_cases hlong : 65536 < n
 ·have HB : Hid (buildF l = .inl (3, none)) := H_ (by unfold buildF; rw [hn, if_pos hlong])
  clear hS hn hdo
  go_enter Tryz.func13, Tryz.ntmps13
  go_wp2
  go_ret2
  refine ⟨Keeps.refl _ _, ?_⟩
  rw [HB.out]
  rfl
 ·have HRF : Hid (∀ r, rowF 0 [] l = r → buildF l = match r with | .inl (e, i) => .inl (e, some i) | .inr [v] => .inr v | .inr _ => .inl (103, some l.length)) := H_ fun r hr => by
   unfold buildF
   rw [if_neg (by rw [hn]; exact hlong), hr]
   rcases r with ⟨e, i⟩ | P
   ·rfl
   ·match P with
    | [] => rfl
    | [v] => rfl
    | _ :: _ :: _ => rfl
  have HSC : Hid (∀ k, k < n → ∃ s g o B d, l[k]? = some s ∧ A = some ⟨g, o, none⟩ ∧ w.rangeAt g (o + k * 6) (stepV s B d) ∧ Rd w B s.keys.length (s.keys.map .string) ∧ DoSpec s) := H_ fun k hk => by
   obtain ⟨s, hs⟩ : ∃ s, l[k]? = some s := ⟨_, List.getElem?_eq_getElem (by omega)⟩
   obtain ⟨g, o, B, d, h1, h2, h3⟩ := hS k s hs
   exact ⟨s, g, o, B, d, hs, h1, h2, h3, hdo s (List.mem_of_getElem? hs)⟩
  have HDN : Hid (∀ (P : List JV), rowF n P (l.drop n) = .inr P) := H_ fun P => by rw [List.drop_of_length_le (by omega)]; rfl
  have HLN := H_ hn
  have hB0 : Building w (w.alloc (.cells #[.slice none 0 0] 129)) l 0 none 0 [] [] := by
   refine ⟨⟨Blk.new w 129 [.slice none 0 0], World.ownsRow_nil _ _ _ _, fun i v j h => (by cases h), by decide, fun i hi => (by rw [World.size_alloc] at hi; omega), fun g h => (by cases h)⟩, (Keeps.refl _ w).alloc _, rfl, Nat.le_refl _, fun j h => (by cases h)⟩
  have HB0 := H_ hB0
  clear hS hn hB0 hdo
  go_enter Tryz.func13, Tryz.ntmps13
  go_upto_region 4 with fail
  refine gen_codeF (fun W => Building w W l 0 none 0 [] []) HB0.out ?_
  intro w1 hb1
  have HB1 := H_ hb1
  clear hb1
  go_wp2
  go_loopg [14] n (fun gk i wr => ∃ (k : Nat) (A2 : Option Addr) (c2 : Nat) (vs : List Value) (P : List JV), k ≤ n ∧ i = .int .i64 k ∧ gk = n - k ∧ Hid (Building w wr l k A2 c2 vs P))
  case atStart => exact ⟨0, _, _, _, _, by omega, rfl, by omega, HB1⟩
  case round =>
   obtain ⟨k, A2, c2, vs, P, hk, rfl, hgk, HB⟩ := hrel
   have HGK := H_ hgk
   clear hgk
   by_cases hlt : k < n
   ·obtain ⟨s, g, o, B, d, hs, hA, hr, hkr, hds⟩ := HSC.out k hlt
    subst hA
    obtain ⟨SC, hSC⟩ : ∃ SC, SC = stepV s B d := ⟨_, rfl⟩
    rw [← hSC] at hr
    have HRE : Hid (wr.rangeAt g (o + k * 6) SC) := H_ fun j y hj => cell_keep HB.out.keep (hr j y hj)
    have HSL : Hid (SC.length = 6) := H_ (by rw [hSC]; rfl)
    have HSO : Hid (∀ u ∈ SC, u.oneCell' = true) := H_ (by rw [hSC]; exact stepV_one _ _ _)
    have HSI : Hid ((Tryz.prog.info? 131).map (·.size) = some SC.length) := H_ (by rw [HSL.out]; kernel_rfl)
    have HZL : Hid (stepZ.length = 6) := H_ rfl
    have HST : Hid (∀ W, Keeps (fun _ => False) wr W → Calls Tryz.prog 55 #[.pointer (some ⟨w.heap.size, 0, none⟩), .agg SC.toArray] W (DoPost 129 (fun i => w.heap.size ≤ i) W w.heap.size (.slice A2 P.length c2) P s)) := H_ fun W hW => by
     rw [hSC]
     refine hds 129 _ W w.heap.size A2 c2 vs P (HB.out.row.stay hW) ?_ HB.out.inn B d ((hkr.keep HB.out.keep (fun _ _ _ h => h)).keep hW (fun _ _ _ h => h))
     have := HB.out.few
     omega
    have hrn : rowF 0 [] l = match doF P s with
      | .inl e => .inl (e, k)
      | .inr P' => rowF (k + 1) P' (l.drop (k + 1)) := by
     rw [HB.out.run, List.drop_eq_getElem_cons (by have := HLN.out; omega)]
     have e : l[k]'(by have := HLN.out; omega) = s := by
      have := List.getElem?_eq_getElem (l := l) (i := k) (by have := HLN.out; omega)
      rw [hs] at this
      injection this with this
      exact this.symm
     rw [e]
     rfl
    unfold DoPost errE at HST
    rcases hd : doF P s with k3 | P2
    ·rw [hd] at hrn HST
     have HRN := H_ (HRF.out _ hrn)
     clear hSC hr hs hkr hds hrn hd
     go_upto_region 9 with (first
      | ((with_reducible show wpList _ _ _ (⟨some 18, _, _, _, _, _⟩ :: _) _ _); refine wpList_load_mid rfl 131 _ rfl _ _ rfl SC _ HRE.out Tryz.underlying131 rfl HSI.out ?_)
      | ((with_reducible show wpList _ _ _ (⟨none, Op.store 131 _ _, _, _, _, _⟩ :: _) _ _); refine wpList_store_whole rfl 131 _ _ rfl SC rfl rfl (Blk.new wr 131 stepZ) (by rw [HSL.out, HZL.out]) HSI.out HSO.out ?_; refine gen_world (fun W => Blk W wr.heap.size 131 SC ∧ Keeps (fun _ => False) wr W) ⟨(Blk.new wr 131 stepZ).setRow SC, ((Keeps.refl _ wr).alloc _).setRow (.inr (Nat.le_refl _)) _⟩ ?_; rintro wa ⟨hba, hka⟩; have HBA := H_ hba; have HKA := H_ hka; clear hba hka)
      | ((with_reducible show wpList _ _ _ (⟨some 19, _, _, _, _, _⟩ :: _) _ _); refine wpList_load_whole rfl 131 _ rfl _ rfl HBA.out Tryz.underlying131 rfl HSI.out ?_)
      | (go_at_call 55; refine (HST.out wa HKA.out).mono ?_; rintro e w2 ⟨rfl, hk2⟩; have HK2 := H_ hk2; clear hk2))
     have hta := at_errno_errno
     refine wp_region_held_drew (S := Keeps (fun _ => False) w2) (by kernel_rfl) (Keeps.refl (fun _ => False) _).drew (fun h_ => ?_)
     refine tI 0 23 h_ ?_
     try simp only [pu]
     refine tI 1 24 h_ ?_ (hy := .inl ⟨by rfl, by intro w' hSw; have ta := hta; go_simp; first | done | rfl⟩)
     try simp only [pu]
     refine tI 2 25 h_ ?_
     try simp only [pu]
     refine tI 3 26 h_ ?_
     try simp only [pu]
     refine tI 4 27 h_ ?_
     try simp only [pu]
     refine tI 5 2 h_ ?_
     try simp only [pu]
     refine tI 6 3 h_ ?_
     try simp only [pu]
     refine wpAnyH_done (by kernel_rfl) ?_ _
     go_wp2
     go_ret2
     have hF : ∀ i, (i = w.heap.size ∨ (Value.slice A2 P.length c2).ownBlock = some i) → w.heap.size ≤ i := fun i hi => by
      rcases hi with rfl | hi
      ·exact Nat.le_refl _
      ·exact (HB.out.row.inn i hi).1
     refine ⟨keep_lo (HB.out.keep.trans HKA.out (fun _ _ h => h)) (HK2.out.drew) (fun _ h => h.elim), ?_⟩
     rw [HRN.out]
     rfl
    ·rw [hd] at hrn HST
     have HD3 := H_ (And.intro (doF_within hd HB.out.inn) (doF_length hd))
     have HRN := H_ hrn
     clear hSC hr hs hkr hds hrn hd
     go_wp2_with (first
      | ((with_reducible show wpList _ _ _ (⟨some 18, _, _, _, _, _⟩ :: _) _ _); refine wpList_load_mid rfl 131 _ rfl _ _ rfl SC _ HRE.out Tryz.underlying131 rfl HSI.out ?_)
      | ((with_reducible show wpList _ _ _ (⟨none, Op.store 131 _ _, _, _, _, _⟩ :: _) _ _); refine wpList_store_whole rfl 131 _ _ rfl SC rfl rfl (Blk.new wr 131 stepZ) (by rw [HSL.out, HZL.out]) HSI.out HSO.out ?_; refine gen_world (fun W => Blk W wr.heap.size 131 SC ∧ Keeps (fun _ => False) wr W) ⟨(Blk.new wr 131 stepZ).setRow SC, ((Keeps.refl _ wr).alloc _).setRow (.inr (Nat.le_refl _)) _⟩ ?_; rintro wa ⟨hba, hka⟩; have HBA := H_ hba; have HKA := H_ hka; clear hba hka)
      | ((with_reducible show wpList _ _ _ (⟨some 19, _, _, _, _, _⟩ :: _) _ _); refine wpList_load_whole rfl 131 _ rfl _ rfl HBA.out Tryz.underlying131 rfl HSI.out ?_)
      | (go_at_call 55; refine (HST.out wa HKA.out).mono ?_; rintro e w2 ⟨rfl, ⟨A3, c3, vs3, hrow⟩, hk2⟩; have HROW := H_ hrow; have HK2 := H_ hk2; clear hrow hk2))
     go_roundg (n - (k + 1))
     case measure => rw [HGK.out]; omega
     case rel =>
      have hF : ∀ i, (i = w.heap.size ∨ (Value.slice A2 P.length c2).ownBlock = some i) → w.heap.size ≤ i := fun i hi => by
       rcases hi with rfl | hi
       ·exact Nat.le_refl _
       ·exact (HB.out.row.inn i hi).1
      refine ⟨k + 1, A3, c3, vs3, P2, by omega, by go_num, rfl, H_ ⟨HROW.out, keep_lo (HB.out.keep.trans HKA.out (fun _ _ h => h)) HK2.out hF, HRN.out, by have := HB.out.few; have := HD3.out.2; omega, HD3.out.1⟩⟩
   ·obtain rfl : k = n := by omega
    have hrn := HB.out.run.trans (HDN.out P)
    have hbf := HRF.out _ hrn
    clear hrn
    have cb := HB.out.row.blk.cell 0
    by_cases h1 : P.length = 1
    ·obtain ⟨t, hP⟩ : ∃ t, P = [t] := List.length_eq_one_iff.1 h1
     subst hP
     have hv : ∃ v, vs = [v] := List.length_eq_one_iff.1 HB.out.row.len
     obtain ⟨v, rfl⟩ := hv
     obtain ⟨g1, o1, hA1, hc1⟩ := (Rd.of_own HB.out.row.own).2 (by simp)
     subst hA1
     have hj := HB.out.row.at_ 0 v t rfl rfl
     obtain ⟨T, x, rfl⟩ := hj.iface
     have ce : wr.cell? ⟨g1, o1, none⟩ = some (.iface T x) := hc1 0 (by simp)
     have HJ := H_ hj
     have HIN := H_ (HB.out.inn t (by simp))
     have HBF := H_ hbf
     have HKB := H_ HB.out.keep
     clear hbf h1 hj hc1
     have hl1 : ([t] : List JV).length = 1 := rfl
     rw [hl1] at cb
     go_wp2
     go_ret2
     refine ⟨HKB.out.alloc _, ?_⟩
     rw [HBF.out]
     exact ⟨wr.heap.size, .iface T x, rfl, ⟨HKB.out.size, Blk.new wr _ _, (HJ.out.mono fun i hi _ => hi.1).stay ((Keeps.refl _ wr).alloc _)⟩, HIN.out⟩
    ·obtain ⟨m, hm⟩ : ∃ m, m = P.length := ⟨_, rfl⟩
     rw [← hm] at cb h1
     have HBF : Hid (buildF l = .inl (103, some k)) := H_ (by
      rw [hbf, HLN.out]
      match P, hm with
      | [], _ => rfl
      | [t], hm => exact absurd hm h1
      | _ :: _ :: _, _ => rfl)
     have HMM := H_ hm
     clear hbf hm
     go_wp2
     go_ret2
     refine ⟨HB.out.keep, ?_⟩
     rw [HBF.out]
     rfl
theorem build_null : buildF [step0 1] = .inr .null := by
 have h : doF [] (step0 1) = .inr [JV.null] := do_scalar [] (step0 1) JV.null (by decide) (by decide) (by simp [mkV, step0]) trivial (by simp [JV.within, JV.nodes, JV.bytes, JV.deep])
 unfold buildF
 rw [if_neg (by decide), rowF_cons, h]
 rfl
theorem null_used : usedF (step0 1) = true := by decide
theorem build_one (w : World) : Calls Tryz.prog 13 #[.slice (some ⟨w.heap.size, 0, none⟩) 1 1] (w.alloc (.cells (stepV (step0 1) none 0).toArray 131)) fun e w' =>
  ∃ q v, e = .returned (.tuple #[.pointer (some ⟨q, 0, none⟩), .nilIface]) ∧ TreeAt (fun i => w.heap.size ≤ i) w' q v .null ∧ Keeps (fun _ => False) w w' := by
 have hb := Blk.new w 131 (stepV (step0 1) none 0)
 have h := Build_spec (w.alloc (.cells (stepV (step0 1) none 0).toArray 131)) (some ⟨w.heap.size, 0, none⟩) 1 1 [step0 1] rfl (fun k s hs => by
  match k, hs with
  | 0, hs =>
   injection hs with hs
   subst hs
   refine ⟨w.heap.size, 0, none, 0, rfl, fun j v hj => ?_, Rd.nil _ _⟩
   rw [show 0 + 0 * 6 + j = j by omega, hb.cell, hj]
  | k + 1, hs => cases hs) (fun s hs => by
  rw [List.mem_singleton.1 hs]
  exact do_null_spec _ null_used rfl)
 refine h.mono fun e w' hh => ?_
 unfold BuildPost at hh
 rw [build_null] at hh
 obtain ⟨hk, q, v, he, ht, _⟩ := hh
 have hk2 : Keeps (fun _ => False) w w' := ((Keeps.refl _ w).alloc _).trans hk (fun _ _ h => h)
 exact ⟨q, v, he, ht.mono (fun i hi _ => by rw [World.size_alloc] at hi; omega), hk2⟩
end Go.Proofs.YtplleficmkfniaaGreatDoor
namespace Go.Proofs
open Go.Shelf
def Tryz.lays138_ren : Go.Shelf.Ren := ⟨fun | 138 => 118 | 195 => 172 | 218 => 173 | 143 => 174 | 219 => 208 | 217 => 241 | 225 => 242 | 224 => 243 | 267 => 244 | 266 => 261 | 314 => 262 | n => n, fun | 9 => 9 | 3 => 3 | 4 => 4 | 5 => 5 | 0 => 0 | 46 => 291 | 146 => 390 | 51 => 253 | n => n, fun | 1 => 2 | n => n⟩
theorem Tryz.lays138 : Go.Proofs.Lays.n138 Tryz.prog Tryz.lays138_ren := {
 mixed := by kernel_rfl
 f138 := Tryz.func118.trans (congrArg some (by kernel_rfl))
 f143 := Tryz.func174.trans (congrArg some (by kernel_rfl))
 f195 := Tryz.func172.trans (congrArg some (by kernel_rfl))
 f217 := Tryz.func241.trans (congrArg some (by kernel_rfl))
 f218 := Tryz.func173.trans (congrArg some (by kernel_rfl))
 f219 := Tryz.func208.trans (congrArg some (by kernel_rfl))
 f224 := Tryz.func243.trans (congrArg some (by kernel_rfl))
 f225 := Tryz.func242.trans (congrArg some (by kernel_rfl))
 f266 := Tryz.func261.trans (congrArg some (by kernel_rfl))
 f267 := Tryz.func244.trans (congrArg some (by kernel_rfl))
 f314 := Tryz.func262.trans (congrArg some (by kernel_rfl))
 t0 := Tryz.underlying0
 a0 := Tryz.isAgg0
 z0 := Tryz.sizeOf0
 v0 := Tryz.zeroValue0
 t3 := Tryz.underlying3
 a3 := Tryz.isAgg3
 z3 := Tryz.sizeOf3
 v3 := Tryz.zeroValue3
 t4 := Tryz.underlying4
 a4 := Tryz.isAgg4
 z4 := Tryz.sizeOf4
 v4 := Tryz.zeroValue4
 t5 := Tryz.underlying5
 a5 := Tryz.isAgg5
 z5 := Tryz.sizeOf5
 v5 := Tryz.zeroValue5
 t9 := Tryz.underlying9
 a9 := Tryz.isAgg9
 z9 := Tryz.sizeOf9
 v9 := Tryz.zeroValue9
 t46 := Tryz.underlying291
 a46 := Tryz.isAgg291
 z46 := Tryz.sizeOf291
 v46 := Tryz.zeroValue291
 t51 := Tryz.underlying253
 a51 := Tryz.isAgg253
 z51 := Tryz.sizeOf253
 v51 := Tryz.zeroValue253
 t146 := Tryz.underlying390
 a146 := Tryz.isAgg390
 z146 := Tryz.sizeOf390
 v146 := Tryz.zeroValue390
 g1 := by kernel_rfl }
open Go.RowKit Go.Lib in
theorem Tryz.strings_Count_one (s : ByteArray) (c : UInt8) (w : World) :
  Calls Tryz.prog 118 #[.string s, .string ⟨#[c]⟩] w fun e w' => e = .returned (.int .i64 (Lib.countByte s.data.toList c)) ∧ w' = w := Any.strings_Count_one Tryz.lays138 s c w
end Go.Proofs
