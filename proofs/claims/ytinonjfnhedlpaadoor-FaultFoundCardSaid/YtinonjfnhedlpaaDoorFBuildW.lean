/-
  WALK: Build (an error made step by step).
-/
import Derived.Test.YtinonjfnhedlpaaDoorFStepW
import Derived.Deep.LoopGhost
set_option linter.unusedSimpArgs false
namespace Go.Proofs.YtinonjfnhedlpaaDoor
open Go Go.RowKit Go.Aff Go.Fault
/-- The steps, as they come in. -/
def CausesAt (w : World) (A : Option Addr) (cs : List CauseV) : Prop := ∀ (k : Nat) (c : CauseV), cs[k]? = some c → ∃ g o, A = some ⟨g, o, none⟩ ∧ w.rangeAt g (o + k * 5) (causeCells c)
theorem CausesAt.keep {w w' : World} {A : Option Addr} {cs : List CauseV} (h : CausesAt w A cs) (hk : Keeps (fun _ => False) w w') : CausesAt w' A cs := fun k c hc => by
  obtain ⟨g, o, e, hr⟩ := h k c hc
  exact ⟨g, o, e, fun j v hj => cell_keep hk (hr j v hj)⟩
def spotE (n a : Int) : Value := .iface 40 (.agg #[.int .i64 n, .int .i64 a])
def BuildPost (w : World) (cs : List CauseV) (e : Ending) (w' : World) : Prop := Keeps (fun _ => False) w w' ∧ (∀ er, buildF cs = .inl er → e = .returned (.tuple #[.nilIface, spotE er.1 er.2])) ∧
  ∀ t, buildF cs = .inr t → ∃ vt, vt.erase = t ∧ e = .returned (.tuple #[vv vt, .nilIface]) ∧ At (fun i => w.heap.size ≤ i) w' vt ∧ vt.deep ≤ 512
theorem causeCells_length (c : CauseV) : (causeCells c).length = 5 := rfl
theorem causeCells_one (c : CauseV) : ∀ u ∈ causeCells c, u.oneCell' = true := by
  intro u hu
  simp only [causeCells, List.mem_cons, List.not_mem_nil, or_false] at hu
  rcases hu with rfl | rfl | rfl | rfl | rfl <;> rfl
def causeZ : List Value := [.int .i64 0, .int .i64 0, .int .i64 0, .string ⟨#[]⟩, .int .i64 0]
/-- While it is built. -/
structure Building (w wr : World) (cs : List CauseV) (k : Nat) (u v : Value) (P : List VT) : Prop where
  pile : PileAt w.heap.size wr w.heap.size u v P
  keep : Keeps (fun _ => False) w wr
  run : runF [] 0 cs = runF (P.map VT.erase) k (cs.drop k)
  few : P.length ≤ k
  deep : ∀ t, t ∈ P → t.deep ≤ 512
theorem keep_lo {w w' wr : World} (h : Keeps (fun _ => False) w wr) (k : Keeps (fun i => w.heap.size ≤ i) wr w') : Keeps (fun _ => False) w w' := h.trans k (fun i hi e => by omega)
set_option maxHeartbeats 4000000 in
set_option maxRecDepth 100000 in
theorem Build_any (w : World) (A : Option Addr) (n c : Nat) (cs : List CauseV) (hn : cs.length = n) (hS : CausesAt w A cs) :
    Calls Tryd.prog 4 #[.slice A n c] w (BuildPost w cs) := by
  by_cases hlong : 65536 < n
  · have HB : Hid (buildF cs = .inl (3, 65536)) := Lib.hid (by unfold buildF; rw [hn, if_pos hlong])
    clear hS hn
    go_enter Tryd.func4, Tryd.ntmps4
    go_wp2
    go_ret2
    exact ⟨Keeps.refl _ _, fun er h => by rw [HB.out] at h; injection h with h; subst h; rfl, fun t h => by rw [HB.out] at h; cases h⟩
  · have HRF : Hid (∀ r, runF [] 0 cs = r → buildF cs = match r with | .inl e => .inl e | .inr [t] => .inr t | .inr _ => .inl (81, cs.length)) := Lib.hid fun r hr => by
      unfold buildF
      rw [if_neg (by rw [hn]; exact hlong), hr]
      rfl
    have HSC : Hid (∀ k, k < n → ∃ cz g o, cs[k]? = some cz ∧ A = some ⟨g, o, none⟩ ∧ w.rangeAt g (o + k * 5) (causeCells cz)) := Lib.hid fun k hk => by
      obtain ⟨cz, hcz⟩ : ∃ cz, cs[k]? = some cz := ⟨_, List.getElem?_eq_getElem (by omega)⟩
      obtain ⟨g, o, h1, h2⟩ := hS k cz hcz
      exact ⟨cz, g, o, hcz, h1, h2⟩
    have HDN : Hid (∀ (P : List VT), runF (P.map VT.erase) n (cs.drop n) = .inr (P.map VT.erase)) := Lib.hid fun P => by rw [List.drop_of_length_le (by omega)]; rfl
    have HLN := Lib.hid hn
    have hB0 : Building w (w.alloc (.cells #[.slice none 0 0, .slice none 0 0] 63)) cs 0 (.slice none 0 0) (.slice none 0 0) [] := by
      refine ⟨⟨Blk.new w 63 [.slice none 0 0, .slice none 0 0], World.ownsRow_nil _ _ _ _, World.ownsRow_nil _ _ _ _, Nat.le_refl _, fun g h => (by cases h), fun g h => (by cases h), fun t h => (by cases h)⟩, (Keeps.refl _ w).alloc _, rfl, Nat.le_refl _, fun t h => by cases h⟩
    have HB0 := Lib.hid hB0
    clear hS hn hB0
    go_enter Tryd.func4, Tryd.ntmps4
    go_upto_region 4 with fail
    refine gen_codeF (fun W => Building w W cs 0 (.slice none 0 0) (.slice none 0 0) []) HB0.out ?_
    intro w1 hb1
    have HB1 := Lib.hid hb1
    clear hb1
    go_wp2
    go_loopg [17] n (fun gk i wr => ∃ (k : Nat) (u v : Value) (P : List VT), k ≤ n ∧ i = .int .i64 k ∧ gk = n - k ∧ Hid (Building w wr cs k u v P))
    case atStart => exact ⟨0, _, _, _, by omega, rfl, by omega, HB1⟩
    case round =>
      obtain ⟨k, u, v, P, hk, rfl, hgk, HB⟩ := hrel
      have HGK := Lib.hid hgk
      clear hgk
      by_cases hlt : k < n
      · obtain ⟨cz, g, o, hcz, hA, hr⟩ := HSC.out k hlt
        subst hA
        obtain ⟨SC, hSC⟩ : ∃ SC, SC = causeCells cz := ⟨_, rfl⟩
        rw [← hSC] at hr
        have HRE : Hid (wr.rangeAt g (o + k * 5) SC) := Lib.hid fun j y hj => cell_keep HB.out.keep (hr j y hj)
        have HSL : Hid (SC.length = 5) := Lib.hid (by rw [hSC]; rfl)
        have HSO : Hid (∀ u ∈ SC, u.oneCell' = true) := Lib.hid (by rw [hSC]; exact causeCells_one _)
        have HSI : Hid ((Tryd.prog.info? 65).map (·.size) = some SC.length) := Lib.hid (by rw [HSL.out]; kernel_rfl)
        have HZL : Hid (causeZ.length = 5) := Lib.hid rfl
        have HST : Hid (∀ W, Keeps (fun _ => False) wr W → Calls Tryd.prog 15 #[.pointer (some ⟨w.heap.size, 0, none⟩), .agg SC.toArray] W (StepPost w.heap.size W w.heap.size P cz)) := Lib.hid fun W hW => by
          rw [hSC]
          exact step_any w.heap.size W w.heap.size u v P (HB.out.pile.read hW (fun _ _ h => h)) cz (by have := HB.out.few; omega) HB.out.deep
        obtain ⟨cd, hcd⟩ : ∃ cd, cd = (stepF (P.map VT.erase) cz).1 := ⟨_, rfl⟩
        have HCD := Lib.hid hcd
        have HRN : Hid (runF [] 0 cs = if cd = 0 then runF (stepF (P.map VT.erase) cz).2 (k + 1) (cs.drop (k + 1)) else .inl (cd, k)) := Lib.hid (by
          rw [HB.out.run, List.drop_eq_getElem_cons (by have := HLN.out; omega)]
          have e : cs[k]'(by have := HLN.out; omega) = cz := by
            have := List.getElem?_eq_getElem (l := cs) (i := k) (by have := HLN.out; omega)
            rw [hcz] at this
            injection this with this
            exact this.symm
          rw [e, hcd]
          rfl)
        clear hSC hr hcz hcd
        go_upto_region 8 with (first
          | ((with_reducible show wpList _ _ _ (⟨some 21, _, _, _, _, _⟩ :: _) _ _); refine wpList_load_mid rfl 65 _ rfl _ _ rfl SC _ HRE.out Tryd.underlying65 rfl HSI.out ?_)
          | ((with_reducible show wpList _ _ _ (⟨none, Op.store 65 _ _, _, _, _, _⟩ :: _) _ _); refine wpList_store_whole rfl 65 _ _ rfl SC rfl rfl (Blk.new wr 65 causeZ) (by rw [HSL.out, HZL.out]) HSI.out HSO.out ?_; refine gen_world (fun W => Blk W wr.heap.size 65 SC ∧ Keeps (fun _ => False) wr W) ⟨(Blk.new wr 65 causeZ).setRow SC, ((Keeps.refl _ wr).alloc _).setRow (.inr (Nat.le_refl _)) _⟩ ?_; rintro wa ⟨hba, hka⟩; have HBA := Lib.hid hba; have HKA := Lib.hid hka; clear hba hka)
          | ((with_reducible show wpList _ _ _ (⟨some 23, _, _, _, _, _⟩ :: _) _ _); refine wpList_load_whole rfl 65 _ rfl _ rfl HBA.out Tryd.underlying65 rfl HSI.out ?_)
          | (go_at_call 15; refine (HST.out wa HKA.out).mono ?_; rintro e w2 ⟨u2, v2, P2, rfl, h2, hk2⟩; rw [← HCD.out] at h2 ⊢; have H2 := Lib.hid h2; have HK2 := Lib.hid hk2; clear h2 hk2))
        have hkw : Keeps (fun _ => False) w w2 := keep_lo (HB.out.keep.trans HKA.out (fun _ _ h => h)) HK2.out
        have HKW := Lib.hid hkw
        clear hkw
        by_cases hz : cd = 0
        · have hrn := HRN.out
          rw [if_pos hz] at hrn
          obtain ⟨q1, q2, q3, q4⟩ := H2.out hz
          have HBN : Hid (Building w w2 cs (k + 1) u2 v2 P2) := Lib.hid ⟨q1, HKW.out, by rw [hrn, q2], by have := HB.out.few; omega, q3⟩
          clear hrn q1 q2 q3 q4 HRN HCD
          subst hz
          go_wp2
          go_roundg (n - (k + 1))
          case measure => rw [HGK.out]; omega
          case rel => exact ⟨k + 1, u2, v2, P2, by omega, by go_num, rfl, HBN⟩
        · have hrn := HRN.out
          rw [if_neg hz] at hrn
          have hb := HRF.out _ hrn
          have HBF := Lib.hid hb
          clear hrn hb HRN HCD
          go_wp2
          go_ret2
          exact ⟨HKW.out, fun er h => by rw [HBF.out] at h; injection h with h; subst h; rfl, fun t h => by rw [HBF.out] at h; cases h⟩
      · obtain rfl : k = n := by omega
        have hrn := HB.out.run.trans (HDN.out P)
        have hbf := HRF.out _ hrn
        clear hrn
        obtain ⟨A1, c1, rfl⟩ := own_shape HB.out.pile.errs
        have cb := HB.out.pile.blk.cell 0
        by_cases h1 : P.length = 1
        · obtain ⟨t, hP⟩ : ∃ t, P = [t] := List.length_eq_one_iff.1 h1
          subst hP
          obtain ⟨g1, hA1⟩ := own_headF HB.out.pile.errs (by simp)
          subst hA1
          have ce : wr.cell? ⟨g1, 0, none⟩ = some (vv t) := by
            obtain ⟨g, o, e, hc⟩ := (Rd.of_own HB.out.pile.errs).2 (by simp)
            injection e with e
            injection e with e1 e2
            subst e1 e2
            exact hc 0 (by simp)
          have HBF := Lib.hid hbf
          clear hbf h1
          have hl1 : ([t] : List VT).length = 1 := rfl
          rw [hl1] at cb
          go_wp2
          go_ret2
          refine ⟨HB.out.keep, fun er h => (by rw [HBF.out] at h; cases h), fun t' h => ?_⟩
          rw [HBF.out] at h
          injection h with h
          exact ⟨t, h, rfl, (HB.out.pile.at_ t (by simp)).mono (fun i hi _ => hi.1), HB.out.deep t (by simp)⟩
        · obtain ⟨m, hm⟩ : ∃ m, m = P.length := ⟨_, rfl⟩
          rw [← hm] at cb h1
          have HBF : Hid (buildF cs = .inl (81, k)) := Lib.hid (by
            rw [hbf, HLN.out]
            match P, hm with
            | [], _ => rfl
            | [t], hm => exact absurd hm h1
            | _ :: _ :: _, _ => rfl)
          have HMM := Lib.hid hm
          clear hbf hm
          go_wp2
          go_ret2
          exact ⟨HB.out.keep, fun er h => by rw [HBF.out] at h; injection h with h; subst h; rfl, fun t h => by rw [HBF.out] at h; cases h⟩
end Go.Proofs.YtinonjfnhedlpaaDoor
