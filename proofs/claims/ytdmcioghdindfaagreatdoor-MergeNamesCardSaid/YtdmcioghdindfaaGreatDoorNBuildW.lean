/-
  WALK: node.Build, by what do does for each step.
-/
import Derived.Test.YtdmcioghdindfaaGreatDoorNDoW
set_option linter.unusedSimpArgs false
namespace Go.Json
theorem JV.within_null : JV.null.within := by simp [JV.within, JV.nodes, JV.bytes, JV.deep]
/-- What a step leaves is within the limits. -/
theorem doF_within {P P' : List JV} {s : StepV} (h : doF P s = .inr P') (hP : ∀ j ∈ P, j.within) : ∀ j ∈ P', j.within := by
  unfold doF at h
  repeat' split at h
  all_goals first | (cases h; done) | skip
  rename_i hw
  injection h with h
  subst h
  intro j hj
  rcases List.mem_append.1 hj with hj | hj
  · exact hP j (List.mem_of_mem_take hj)
  · rw [List.mem_singleton.1 hj]; exact Decidable.of_not_not hw
theorem doF_length {P P' : List JV} {s : StepV} (h : doF P s = .inr P') : P'.length ≤ P.length + 1 := by
  unfold doF at h
  repeat' split at h
  all_goals first | (cases h; done) | skip
  injection h with h
  subst h
  rw [List.length_append, List.length_take]
  simp
def keysFit (s : StepV) : Prop := sumN (s.keys.map fun k => k.size) ≤ 1099511627776
theorem rowF_cons (i : Nat) (P : List JV) (s : StepV) (l : List StepV) : rowF i P (s :: l) = match doF P s with
    | .inl e => .inl (e, i)
    | .inr P' => rowF (i + 1) P' l := rfl
end Go.Json
namespace Go.Proofs.YtdmcioghdindfaaGreatDoor
open Go Go.RowKit Go.Aff Go.Json
/-- Steps, as they come in. -/
def StepsAt (w : World) (A : Option Addr) (l : List StepV) : Prop := ∀ (k : Nat) (s : StepV), l[k]? = some s → ∃ g o B d, A = some ⟨g, o, none⟩ ∧ w.rangeAt g (o + k * 6) (stepV s B d) ∧ Rd w B s.keys.length (s.keys.map .string)
theorem StepsAt.keep {w w' : World} {A : Option Addr} {l : List StepV} (h : StepsAt w A l) (hk : Keeps (fun _ => False) w w') : StepsAt w' A l := fun k s hs => by
  obtain ⟨g, o, B, d, e, hr, hb⟩ := h k s hs
  exact ⟨g, o, B, d, e, fun j v hj => cell_keep hk (hr j v hj), hb.keep hk (fun _ _ _ h => h)⟩
def spotE (n a : Int) : Value := .iface 103 (.agg #[.int .i64 n, .int .i64 a])
theorem stepV_length (s : StepV) (B : Option Addr) (d : Nat) : (stepV s B d).length = 6 := rfl
theorem stepV_one (s : StepV) (B : Option Addr) (d : Nat) : ∀ u ∈ stepV s B d, u.oneCell' = true := by
  intro u hu
  simp only [stepV, List.mem_cons, List.not_mem_nil, or_false] at hu
  rcases hu with rfl | rfl | rfl | rfl | rfl | rfl <;> rfl
def stepZ : List Value := [.int .i64 0, .bool false, .int .u64 0, .string ⟨#[]⟩, .int .i64 0, .slice none 0 0]
/-- That do does what a step asks. -/
def DoSpec (s : StepV) : Prop := ∀ (T : TypeId) (D : Nat → Prop) (w : World) (p : Nat) (A : Option Addr) (c : Nat) (vs : List Value) (P : List JV), RowAt T D w p A c vs P → P.length ≤ 1048576 → (∀ j ∈ P, j.within) →
  ∀ (B : Option Addr) (d : Nat), Rd w B s.keys.length (s.keys.map .string) → Calls Tryz.prog 48 #[.pointer (some ⟨p, 0, none⟩), .agg (stepV s B d).toArray] w (DoPost T D w p (.slice A P.length c) P s)
theorem do_null_spec (s : StepV) (hu : usedF s = true) (hs : s.sort = 1) : DoSpec s := fun T D w p A c vs P h hn _ B d _ => do_null T D w p A c vs P h hn s B d hu hs
/-- What Build answers. -/
def BuildPost (w : World) (l : List StepV) (e : Ending) (w' : World) : Prop := Keeps (fun _ => False) w w' ∧ match buildF l with
  | .inl (k, none) => e = .returned (.tuple #[.pointer none, errE k])
  | .inl (k, some i) => e = .returned (.tuple #[.pointer none, spotE k i])
  | .inr j => ∃ q v, e = .returned (.tuple #[.pointer (some ⟨q, 0, none⟩), .nilIface]) ∧ TreeAt (fun i => w.heap.size ≤ i) w' q v j ∧ j.within
/-- While it is built. -/
structure Building (w wr : World) (l : List StepV) (k : Nat) (A : Option Addr) (c : Nat) (vs : List Value) (P : List JV) : Prop where
  row : RowAt 108 (fun i => w.heap.size ≤ i) wr w.heap.size A c vs P
  keep : Keeps (fun _ => False) w wr
  run : rowF 0 [] l = rowF k P (l.drop k)
  few : P.length ≤ k
  inn : ∀ j ∈ P, j.within
theorem keep_lo {w w' wr : World} {F : Nat → Prop} (h : Keeps (fun _ => False) w wr) (k : Keeps F wr w') (hF : ∀ i, F i → w.heap.size ≤ i) : Keeps (fun _ => False) w w' := h.trans k (fun i hi e => by have := hF i e; omega)
set_option maxHeartbeats 4000000 in
set_option maxRecDepth 100000 in
theorem Build_spec (w : World) (A : Option Addr) (n c : Nat) (l : List StepV) (hn : l.length = n) (hS : StepsAt w A l) (hdo : ∀ s ∈ l, DoSpec s) :
    Calls Tryz.prog 17 #[.slice A n c] w (BuildPost w l) := by
  by_cases hlong : 65536 < n
  · have HB : Hid (buildF l = .inl (3, none)) := Lib.hid (by unfold buildF; rw [hn, if_pos hlong])
    clear hS hn hdo
    go_enter Tryz.func17, Tryz.ntmps17
    go_wp2
    go_ret2
    refine ⟨Keeps.refl _ _, ?_⟩
    rw [HB.out]
    rfl
  · have HRF : Hid (∀ r, rowF 0 [] l = r → buildF l = match r with | .inl (e, i) => .inl (e, some i) | .inr [v] => .inr v | .inr _ => .inl (103, some l.length)) := Lib.hid fun r hr => by
      unfold buildF
      rw [if_neg (by rw [hn]; exact hlong), hr]
      rcases r with ⟨e, i⟩ | P
      · rfl
      · match P with
        | [] => rfl
        | [v] => rfl
        | _ :: _ :: _ => rfl
    have HSC : Hid (∀ k, k < n → ∃ s g o B d, l[k]? = some s ∧ A = some ⟨g, o, none⟩ ∧ w.rangeAt g (o + k * 6) (stepV s B d) ∧ Rd w B s.keys.length (s.keys.map .string) ∧ DoSpec s) := Lib.hid fun k hk => by
      obtain ⟨s, hs⟩ : ∃ s, l[k]? = some s := ⟨_, List.getElem?_eq_getElem (by omega)⟩
      obtain ⟨g, o, B, d, h1, h2, h3⟩ := hS k s hs
      exact ⟨s, g, o, B, d, hs, h1, h2, h3, hdo s (List.mem_of_getElem? hs)⟩
    have HDN : Hid (∀ (P : List JV), rowF n P (l.drop n) = .inr P) := Lib.hid fun P => by rw [List.drop_of_length_le (by omega)]; rfl
    have HLN := Lib.hid hn
    have hB0 : Building w (w.alloc (.cells #[.slice none 0 0] 108)) l 0 none 0 [] [] := by
      refine ⟨⟨Blk.new w 108 [.slice none 0 0], World.ownsRow_nil _ _ _ _, fun i v j h => (by cases h), by decide, fun i hi => (by rw [World.size_alloc] at hi; omega), fun g h => (by cases h)⟩, (Keeps.refl _ w).alloc _, rfl, Nat.le_refl _, fun j h => (by cases h)⟩
    have HB0 := Lib.hid hB0
    clear hS hn hB0 hdo
    go_enter Tryz.func17, Tryz.ntmps17
    go_upto_region 4 with fail
    refine gen_codeF (fun W => Building w W l 0 none 0 [] []) HB0.out ?_
    intro w1 hb1
    have HB1 := Lib.hid hb1
    clear hb1
    go_wp2
    go_loopg [14] n (fun gk i wr => ∃ (k : Nat) (A2 : Option Addr) (c2 : Nat) (vs : List Value) (P : List JV), k ≤ n ∧ i = .int .i64 k ∧ gk = n - k ∧ Hid (Building w wr l k A2 c2 vs P))
    case atStart => exact ⟨0, _, _, _, _, by omega, rfl, by omega, HB1⟩
    case round =>
      obtain ⟨k, A2, c2, vs, P, hk, rfl, hgk, HB⟩ := hrel
      have HGK := Lib.hid hgk
      clear hgk
      by_cases hlt : k < n
      · obtain ⟨s, g, o, B, d, hs, hA, hr, hkr, hds⟩ := HSC.out k hlt
        subst hA
        obtain ⟨SC, hSC⟩ : ∃ SC, SC = stepV s B d := ⟨_, rfl⟩
        rw [← hSC] at hr
        have HRE : Hid (wr.rangeAt g (o + k * 6) SC) := Lib.hid fun j y hj => cell_keep HB.out.keep (hr j y hj)
        have HSL : Hid (SC.length = 6) := Lib.hid (by rw [hSC]; rfl)
        have HSO : Hid (∀ u ∈ SC, u.oneCell' = true) := Lib.hid (by rw [hSC]; exact stepV_one _ _ _)
        have HSI : Hid ((Tryz.prog.info? 53).map (·.size) = some SC.length) := Lib.hid (by rw [HSL.out]; kernel_rfl)
        have HZL : Hid (stepZ.length = 6) := Lib.hid rfl
        have HST : Hid (∀ W, Keeps (fun _ => False) wr W → Calls Tryz.prog 48 #[.pointer (some ⟨w.heap.size, 0, none⟩), .agg SC.toArray] W (DoPost 108 (fun i => w.heap.size ≤ i) W w.heap.size (.slice A2 P.length c2) P s)) := Lib.hid fun W hW => by
          rw [hSC]
          refine hds 108 _ W w.heap.size A2 c2 vs P (HB.out.row.stay hW) ?_ HB.out.inn B d ((hkr.keep HB.out.keep (fun _ _ _ h => h)).keep hW (fun _ _ _ h => h))
          have := HB.out.few
          omega
        have hrn : rowF 0 [] l = match doF P s with
            | .inl e => .inl (e, k)
            | .inr P' => rowF (k + 1) P' (l.drop (k + 1)) := by
          rw [HB.out.run, List.drop_eq_getElem_cons (by have := HLN.out; omega)]
          have e : l[k]'(by have := HLN.out; omega) = s := by
            have := List.getElem?_eq_getElem (l := l) (i := k) (by have := HLN.out; omega)
            rw [hs] at this
            injection this with this
            exact this.symm
          rw [e]
          rfl
        unfold DoPost errE at HST
        rcases hd : doF P s with k3 | P2
        · rw [hd] at hrn HST
          have HRN := Lib.hid (HRF.out _ hrn)
          clear hSC hr hs hkr hds hrn hd
          go_upto_region 9 with (first
            | ((with_reducible show wpList _ _ _ (⟨some 18, _, _, _, _, _⟩ :: _) _ _); refine wpList_load_mid rfl 53 _ rfl _ _ rfl SC _ HRE.out Tryz.underlying53 rfl HSI.out ?_)
            | ((with_reducible show wpList _ _ _ (⟨none, Op.store 53 _ _, _, _, _, _⟩ :: _) _ _); refine wpList_store_whole rfl 53 _ _ rfl SC rfl rfl (Blk.new wr 53 stepZ) (by rw [HSL.out, HZL.out]) HSI.out HSO.out ?_; refine gen_world (fun W => Blk W wr.heap.size 53 SC ∧ Keeps (fun _ => False) wr W) ⟨(Blk.new wr 53 stepZ).setRow SC, ((Keeps.refl _ wr).alloc _).setRow (.inr (Nat.le_refl _)) _⟩ ?_; rintro wa ⟨hba, hka⟩; have HBA := Lib.hid hba; have HKA := Lib.hid hka; clear hba hka)
            | ((with_reducible show wpList _ _ _ (⟨some 19, _, _, _, _, _⟩ :: _) _ _); refine wpList_load_whole rfl 53 _ rfl _ rfl HBA.out Tryz.underlying53 rfl HSI.out ?_)
            | (go_at_call 48; refine (HST.out wa HKA.out).mono ?_; rintro e w2 ⟨rfl, hk2⟩; have HK2 := Lib.hid hk2; clear hk2))
          have hta := at_errno_errno
          refine wp_region_held_drew (S := Keeps (fun _ => False) w2) (by kernel_rfl) (Keeps.refl (fun _ => False) _).drew (fun hHeld => ?_)
          refine wpAnyH_take (i := 0) (oi := ⟨some 23, _, _, _, _, _⟩) (v := ?_) rfl (by kernel_rfl) (by kernel_rfl) (by kernel_rfl) (fun _ _ _ h => h) (Or.inl ⟨by rfl, ?_⟩) hHeld ?_
          rotate_left
          · intro w' hSw
            go_simp
            first | done | rfl
          try simp only [Act.put, List.setIfInBounds_toArray, List.set_cons_zero, List.set_cons_succ]
          refine wpAnyH_take (i := 1) (oi := ⟨some 24, _, _, _, _, _⟩) (v := ?_) rfl (by kernel_rfl) (by kernel_rfl) (by kernel_rfl) (fun _ _ _ h => h) (Or.inl ⟨by rfl, ?_⟩) hHeld ?_
          rotate_left
          · intro w' hSw
            have ta := hta
            go_simp
            first | done | rfl
          try simp only [Act.put, List.setIfInBounds_toArray, List.set_cons_zero, List.set_cons_succ]
          refine wpAnyH_take (i := 2) (oi := ⟨some 25, _, _, _, _, _⟩) (v := ?_) rfl (by kernel_rfl) (by kernel_rfl) (by kernel_rfl) (fun _ _ _ h => h) (Or.inl ⟨by rfl, ?_⟩) hHeld ?_
          rotate_left
          · intro w' hSw
            go_simp
            first | done | rfl
          try simp only [Act.put, List.setIfInBounds_toArray, List.set_cons_zero, List.set_cons_succ]
          refine wpAnyH_take (i := 3) (oi := ⟨some 26, _, _, _, _, _⟩) (v := ?_) rfl (by kernel_rfl) (by kernel_rfl) (by kernel_rfl) (fun _ _ _ h => h) (Or.inl ⟨by rfl, ?_⟩) hHeld ?_
          rotate_left
          · intro w' hSw
            go_simp
            first | done | rfl
          try simp only [Act.put, List.setIfInBounds_toArray, List.set_cons_zero, List.set_cons_succ]
          refine wpAnyH_take (i := 4) (oi := ⟨some 27, _, _, _, _, _⟩) (v := ?_) rfl (by kernel_rfl) (by kernel_rfl) (by kernel_rfl) (fun _ _ _ h => h) (Or.inl ⟨by rfl, ?_⟩) hHeld ?_
          rotate_left
          · intro w' hSw
            go_simp
            first | done | rfl
          try simp only [Act.put, List.setIfInBounds_toArray, List.set_cons_zero, List.set_cons_succ]
          refine wpAnyH_take (i := 5) (oi := ⟨some 2, _, _, _, _, _⟩) (v := ?_) rfl (by kernel_rfl) (by kernel_rfl) (by kernel_rfl) (fun _ _ _ h => h) (Or.inl ⟨by rfl, ?_⟩) hHeld ?_
          rotate_left
          · intro w' hSw
            go_simp
            first | done | rfl
          try simp only [Act.put, List.setIfInBounds_toArray, List.set_cons_zero, List.set_cons_succ]
          refine wpAnyH_take (i := 6) (oi := ⟨some 3, _, _, _, _, _⟩) (v := ?_) rfl (by kernel_rfl) (by kernel_rfl) (by kernel_rfl) (fun _ _ _ h => h) (Or.inl ⟨by rfl, ?_⟩) hHeld ?_
          rotate_left
          · intro w' hSw
            go_simp
            first | done | rfl
          try simp only [Act.put, List.setIfInBounds_toArray, List.set_cons_zero, List.set_cons_succ]
          refine wpAnyH_done (by kernel_rfl) ?_ _
          go_wp2
          go_ret2
          have hF : ∀ i, (i = w.heap.size ∨ (Value.slice A2 P.length c2).ownBlock = some i) → w.heap.size ≤ i := fun i hi => by
            rcases hi with rfl | hi
            · exact Nat.le_refl _
            · exact HB.out.row.inn i hi
          refine ⟨keep_lo (HB.out.keep.trans HKA.out (fun _ _ h => h)) (HK2.out.drew) (fun _ h => h.elim), ?_⟩
          rw [HRN.out]
          rfl
        · rw [hd] at hrn HST
          have HD3 := Lib.hid (And.intro (doF_within hd HB.out.inn) (doF_length hd))
          have HRN := Lib.hid hrn
          clear hSC hr hs hkr hds hrn hd
          go_wp2_with (first
            | ((with_reducible show wpList _ _ _ (⟨some 18, _, _, _, _, _⟩ :: _) _ _); refine wpList_load_mid rfl 53 _ rfl _ _ rfl SC _ HRE.out Tryz.underlying53 rfl HSI.out ?_)
            | ((with_reducible show wpList _ _ _ (⟨none, Op.store 53 _ _, _, _, _, _⟩ :: _) _ _); refine wpList_store_whole rfl 53 _ _ rfl SC rfl rfl (Blk.new wr 53 stepZ) (by rw [HSL.out, HZL.out]) HSI.out HSO.out ?_; refine gen_world (fun W => Blk W wr.heap.size 53 SC ∧ Keeps (fun _ => False) wr W) ⟨(Blk.new wr 53 stepZ).setRow SC, ((Keeps.refl _ wr).alloc _).setRow (.inr (Nat.le_refl _)) _⟩ ?_; rintro wa ⟨hba, hka⟩; have HBA := Lib.hid hba; have HKA := Lib.hid hka; clear hba hka)
            | ((with_reducible show wpList _ _ _ (⟨some 19, _, _, _, _, _⟩ :: _) _ _); refine wpList_load_whole rfl 53 _ rfl _ rfl HBA.out Tryz.underlying53 rfl HSI.out ?_)
            | (go_at_call 48; refine (HST.out wa HKA.out).mono ?_; rintro e w2 ⟨rfl, ⟨A3, c3, vs3, hrow⟩, hk2⟩; have HROW := Lib.hid hrow; have HK2 := Lib.hid hk2; clear hrow hk2))
          go_roundg (n - (k + 1))
          case measure => rw [HGK.out]; omega
          case rel =>
            have hF : ∀ i, (i = w.heap.size ∨ (Value.slice A2 P.length c2).ownBlock = some i) → w.heap.size ≤ i := fun i hi => by
              rcases hi with rfl | hi
              · exact Nat.le_refl _
              · exact HB.out.row.inn i hi
            refine ⟨k + 1, A3, c3, vs3, P2, by omega, by go_num, rfl, Lib.hid ⟨HROW.out, keep_lo (HB.out.keep.trans HKA.out (fun _ _ h => h)) HK2.out hF, HRN.out, by have := HB.out.few; have := HD3.out.2; omega, HD3.out.1⟩⟩
      · obtain rfl : k = n := by omega
        have hrn := HB.out.run.trans (HDN.out P)
        have hbf := HRF.out _ hrn
        clear hrn
        have cb := HB.out.row.blk.cell 0
        by_cases h1 : P.length = 1
        · obtain ⟨t, hP⟩ : ∃ t, P = [t] := List.length_eq_one_iff.1 h1
          subst hP
          have hv : ∃ v, vs = [v] := List.length_eq_one_iff.1 HB.out.row.len
          obtain ⟨v, rfl⟩ := hv
          obtain ⟨g1, o1, hA1, hc1⟩ := (Rd.of_own HB.out.row.own).2 (by simp)
          subst hA1
          have hj := HB.out.row.at_ 0 v t rfl rfl
          obtain ⟨T, x, rfl⟩ := hj.iface
          have ce : wr.cell? ⟨g1, o1, none⟩ = some (.iface T x) := hc1 0 (by simp)
          have HJ := Lib.hid hj
          have HIN := Lib.hid (HB.out.inn t (by simp))
          have HBF := Lib.hid hbf
          have HKB := Lib.hid HB.out.keep
          clear hbf h1 hj hc1
          have hl1 : ([t] : List JV).length = 1 := rfl
          rw [hl1] at cb
          go_wp2
          go_ret2
          refine ⟨HKB.out.alloc _, ?_⟩
          rw [HBF.out]
          exact ⟨wr.heap.size, .iface T x, rfl, ⟨HKB.out.size, Blk.new wr _ _, (HJ.out.mono fun i hi _ => hi.1).stay ((Keeps.refl _ wr).alloc _)⟩, HIN.out⟩
        · obtain ⟨m, hm⟩ : ∃ m, m = P.length := ⟨_, rfl⟩
          rw [← hm] at cb h1
          have HBF : Hid (buildF l = .inl (103, some k)) := Lib.hid (by
            rw [hbf, HLN.out]
            match P, hm with
            | [], _ => rfl
            | [t], hm => exact absurd hm h1
            | _ :: _ :: _, _ => rfl)
          have HMM := Lib.hid hm
          clear hbf hm
          go_wp2
          go_ret2
          refine ⟨HB.out.keep, ?_⟩
          rw [HBF.out]
          rfl
end Go.Proofs.YtdmcioghdindfaaGreatDoor
