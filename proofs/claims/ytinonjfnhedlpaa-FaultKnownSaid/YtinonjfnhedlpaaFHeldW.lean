/-
  WALKS: held (two errors by ==, a panic recovered), Same, Self.
-/
import Derived.Test.YtinonjfnhedlpaaFEqlW
import Derived.Test.YtinonjfnhedlpaaFBuildW
import Derived.Recover
import Derived.Laws.Pointers
set_option linter.unusedSimpArgs false
namespace Go.Proofs.Ytinonjfnhedlpaa
open Go Go.RowKit Go.Aff Go.Fault
theorem catch_panicking (r : Nat) (x y : Bool) (u : TypeId) (pv : Value) (older : List PanicEntry) (w : World) (hb : Blk w r 51 [.bool x, .bool y]) :
    CallsD Try.prog 38 #[.pointer (some ⟨r, 0, none⟩)] (.panicking ({ v := .iface u pv, recovered := false } :: older)) w fun e u' w' =>
      e = .returned (.tuple #[]) ∧ u' = .panicking ({ v := .iface u pv, recovered := true } :: older) ∧ Blk w' r 51 [.bool false, .bool true] ∧ Keeps (fun i => i = r) w w' := by
  have c0 := hb.cell 0
  have c1 := hb.cell 1
  have f0 := hb.frozen 0
  have f1 := hb.frozen 1
  refine callsD_of_wpS Try.func38 rfl fun c₀ cs hu => ?_
  apply wpS_seq
  apply wpS_region
  simp [wpOpsS, go_sem, recoverD, hu, Try.ntmps38, Exit.thenS]
  refine wpS_cond (t := true) (by simp [Act.eval, Array.replicate]) ?_
  simp only [if_true]
  apply wpS_region
  simp [wpOpsS, go_sem, c0, c1, f0, f1, bodyPostS, results, Try.results38]
  exact ⟨(hb.set_ 0 _).set_ 1 _, ((Keeps.refl (fun i => i = r) w).setCell (p := ⟨r, 0, none⟩) (.inl rfl) _).setCell (p := ⟨r, 1, none⟩) (.inl rfl) _⟩
theorem catch_idle (p : Addr) (w : World) :
    CallsD Try.prog 38 #[.pointer (some p)] .returning w fun e u' w' => e = .returned (.tuple #[]) ∧ u' = .returning ∧ w' = w := by
  refine callsD_of_wpS Try.func38 rfl fun c₀ cs hu => ?_
  apply wpS_seq
  apply wpS_region
  simp [wpOpsS, go_sem, recoverD, hu, Try.ntmps38, Exit.thenS]
  refine wpS_cond (t := false) (by simp [Act.eval, Array.replicate]) ?_
  simp only [Bool.false_eq_true, if_false]
  refine wpS_of_wp (wp_skip ?_)
  cases c₀
  simp_all [bodyPostS, results, Try.results38]
/-- What comes of holding two errors against one another. -/
def alikeF (t u : VT) : Bool × Bool := if t.isAll && u.isAll then (false, true) else (eqV t u, false)
/-- '==' has an answer in the model unless both are nil. -/
theorem eq_guard (x y : Operand) (t u : VT) (h0 : (t.isNil && u.isNil) = false) (w : World) : (eqGuard .eql 25 x y (vv t) (vv u)).run Try.prog w = .ok () w := by
  cases t <;> cases u <;> first | (simp [VT.isNil] at h0; done) | rfl
set_option maxHeartbeats 4000000 in
set_option maxRecDepth 100000 in
theorem held_any {D E : Nat → Prop} (w : World) (t u : VT) (h0 : (t.isNil && u.isNil) = false) (ht : At D w t) (hu : At E w u) :
    Calls Try.prog 27 #[vv t, vv u] w fun e w' => e = .returned (.agg #[.bool (alikeF t u).1, .bool (alikeF t u).2]) ∧ Keeps (fun _ => False) w w' := by
  have hmf : ∀ (fn : Fn) (first cap : Array Value) (w : World), (Instr.makeFunc fn first cap).run Try.prog w = .ok (.func fn first cap) w := fun _ _ _ _ => rfl
  obtain ⟨wa, hwa⟩ : ∃ wa, wa = w.alloc (.cells #[.bool false, .bool false] 51) := ⟨_, rfl⟩
  have ka : Keeps (fun _ => False) w wa := by rw [hwa]; exact (Keeps.refl _ w).alloc _
  have ba : Blk wa w.heap.size 51 [.bool false, .bool false] := by rw [hwa]; exact Blk.new w _ _
  have ht2 := ht.keep ka (fun _ _ h => h)
  have hu2 := hu.keep ka (fun _ _ h => h)
  have hg := fun x y => eq_guard x y t u h0 wa
  have BA := Lib.hid ba
  have KA := Lib.hid ka
  cases hq : t.isAll && u.isAll with
  | true =>
    obtain ⟨p, pv, hp⟩ := eq_both wa t u hq
    rw [hwa] at hp hg BA KA
    obtain ⟨vx, hvx⟩ : ∃ vx, vx = vv t := ⟨_, rfl⟩
    obtain ⟨vy, hvy⟩ : ∃ vy, vy = vv u := ⟨_, rfl⟩
    rw [← hvx, ← hvy] at hp hg ⊢
    have HQ : Hid (alikeF t u = (false, true)) := Lib.hid (by simp [alikeF, hq])
    clear hwa ht2 hu2 hvx hvy hq ht hu ba ka h0
    go_enter_defers Try.func27, Try.ntmps27
    go_wp2
    refine leaves_cons (f := 38) (args := #[.pointer (some ⟨w.heap.size, 0, none⟩)]) (by simp) (by simp [go_sem]) ?_
    refine (catch_panicking w.heap.size false false p _ [] _ BA.out).mono ?_
    rintro e u' w'' ⟨rfl, rfl, hb, hk⟩
    have hk2 : Keeps (fun _ => False) w w'' := KA.out.trans hk (fun i hi e => by omega)
    refine ⟨_, results_blk rfl _ _ rfl hb Try.underlying51 rfl (by kernel_rfl), ?_, hk2⟩
    rw [HQ.out]
  | false =>
    have hp := eq_any wa t u ht2 hu2 hq
    rw [hwa] at hp hg BA KA
    obtain ⟨vx, hvx⟩ : ∃ vx, vx = vv t := ⟨_, rfl⟩
    obtain ⟨vy, hvy⟩ : ∃ vy, vy = vv u := ⟨_, rfl⟩
    obtain ⟨q, hqq⟩ : ∃ q, q = eqV t u := ⟨_, rfl⟩
    rw [← hqq] at hp
    rw [← hvx, ← hvy] at hp hg ⊢
    have HQ : Hid (alikeF t u = (q, false)) := Lib.hid (by simp [alikeF, hq, hqq])
    have c0 := BA.out.cell 0
    have c1 := BA.out.cell 1
    have f0 := BA.out.frozen 0
    have f1 := BA.out.frozen 1
    have HB2 : Hid (Blk (w.alloc (.cells #[.bool q, .bool false] 51)) w.heap.size 51 [.bool q, .bool false] ∧ Keeps (fun _ => False) w (w.alloc (.cells #[.bool q, .bool false] 51))) :=
      Lib.hid ⟨Blk.new w _ _, (Keeps.refl _ w).alloc _⟩
    clear hwa ht2 hu2 hvx hvy hq ht hu ba ka h0 hqq
    go_enter_defers Try.func27, Try.ntmps27
    go_wp2
    refine leaves_cons (f := 38) (args := #[.pointer (some ⟨w.heap.size, 0, none⟩)]) (by simp) (by simp [go_sem]) ?_
    refine (catch_idle ⟨w.heap.size, 0, none⟩ _).mono ?_
    rintro e u' w'' ⟨rfl, rfl, rfl⟩
    refine ⟨_, results_blk rfl _ _ rfl HB2.out.1 Try.underlying51 rfl (by kernel_rfl), ?_, HB2.out.2⟩
    rw [HQ.out]
/-- The pair's cells, and its end. -/
theorem results_alike {fn : Func} {p u : Tmp} (h : fn.results = #[.cell p 51, .tmp u]) (tmps : Array Value) (w : World) (g : Nat) (x y : Bool) (v : Value) (hp : tmps.getD p undef = .pointer (some ⟨g, 0, none⟩)) (hv : tmps.getD u undef = v)
    (hb : Blk w g 51 [.bool x, .bool y]) : (results fn tmps).run Try.prog w = .ok (.tuple #[.agg #[.bool x, .bool y], v]) w := by
  rw [results_cell_tmp h, hp, hv]
  simp only [asAddr, Sem.run_pure, Result.andThen]
  rw [run_loadVar_row w g 51 51 #[.bool x, .bool y] (0, 0) _ hb Try.underlying51 rfl (by kernel_rfl)]
def AlikePost (w : World) (R : (Int × Nat) ⊕ (Bool × Bool)) (e : Ending) (w' : World) : Prop := Keeps (fun _ => False) w w' ∧
  match R with
  | .inl er => e = .returned (.tuple #[.agg #[.bool false, .bool false], spotE er.1 er.2])
  | .inr q => e = .returned (.tuple #[.agg #[.bool q.1, .bool q.2], .nilIface])
/-- Two errors, made one behind the other, held against one another. -/
def sameF : VT → VT → Bool
  | .nil, .nil => true
  | .num n, .num m => n == m
  | .spot n a, .spot m b => n == m && a == b
  | .trail n s, .trail m u => n == m && s == u
  | .gone, .gone => true
  | _, _ => false
theorem eqV_self (t : VT) (h : t.isAll = false) : eqV t t = true := by
  cases t with
  | trail n s =>
    have h2 : (s == s) = true := by rw [beq_toListBytes]; simp
    simp [eqV, h2]
  | all A c l => simp [VT.isAll] at h
  | _ => simp [eqV]
theorem alikeF_self (t : VT) : alikeF t t = (!t.isAll, t.isAll) := by
  unfold alikeF
  rw [Bool.and_self]
  cases h : t.isAll with
  | true => rfl
  | false => rw [eqV_self t h]; rfl
theorem eqV_apart {D E : Nat → Prop} {w : World} {t u : VT} (ht : At D w t) (hu : At E w u) (hDE : ∀ i, D i → E i → False) : eqV t u = sameF t.erase u.erase := by
  cases t with
  | note b wd e => cases u with
    | note c wd2 e2 =>
      simp only [At] at ht hu
      simp only [eqV, VT.erase, sameF, beq_eq_false_iff_ne]
      rintro rfl
      exact hDE _ ht.1 hu.1
    | _ => simp [eqV, VT.erase, sameF]
  | _ => cases u <;> simp [eqV, VT.erase, sameF]
theorem alikeF_apart {D E : Nat → Prop} {w : World} {t u : VT} (ht : At D w t) (hu : At E w u) (hDE : ∀ i, D i → E i → False) : alikeF t u = if t.erase.isAll && u.erase.isAll then (false, true) else (sameF t.erase u.erase, false) := by
  rw [VT.isAll_erase, VT.isAll_erase]
  unfold alikeF
  rw [eqV_apart ht hu hDE]
def selfF (cs : List CauseV) : (Int × Nat) ⊕ (Bool × Bool) := match buildF cs with
  | .inl er => .inl er
  | .inr t => .inr (!t.isAll, t.isAll)
def sameR (cs ds : List CauseV) : (Int × Nat) ⊕ (Bool × Bool) := match buildF cs, buildF ds with
  | .inl er, _ => .inl er
  | _, .inl er => .inl er
  | .inr t, .inr u => .inr (if t.isAll && u.isAll then (false, true) else (sameF t u, false))
set_option maxHeartbeats 4000000 in
set_option maxRecDepth 100000 in
theorem Self_any (w : World) (A : Option Addr) (n c : Nat) (cs : List CauseV) (hn : cs.length = n) (hS : CausesAt w A cs) (h0 : buildF cs ≠ .inr .nil) :
    Calls Try.prog 14 #[.slice A n c] w (AlikePost w (selfF cs)) := by
  obtain ⟨wa, hwa⟩ : ∃ wa, wa = w.alloc (.cells #[.bool false, .bool false] 51) := ⟨_, rfl⟩
  have KA : Hid (Keeps (fun _ => False) w wa ∧ Blk wa w.heap.size 51 [.bool false, .bool false]) := Lib.hid (by rw [hwa]; exact ⟨(Keeps.refl _ w).alloc _, Blk.new w _ _⟩)
  have HB := Lib.hid (Build_any wa A n c cs hn (hS.keep KA.out.1))
  clear hS hn
  cases hb : buildF cs with
  | inl er =>
    have HBR : Hid (∀ e w', BuildPost wa cs e w' → e = .returned (.tuple #[.nilIface, .iface 62 (.agg #[.int .i64 er.1, .int .i64 er.2])]) ∧ Hid (Keeps (fun _ => False) w w' ∧ Blk w' w.heap.size 51 [.bool false, .bool false])) := Lib.hid fun e w' h => ⟨h.2.1 er hb, Lib.hid ⟨KA.out.1.trans h.1 (fun _ _ h => h), h.1.blk KA.out.2 (fun h => h)⟩⟩
    have HR : Hid (selfF cs = .inl er) := Lib.hid (by simp [selfF, hb])
    clear hb KA
    rw [hwa] at HB HBR
    clear hwa h0
    go_enter Try.func14, Try.ntmps14
    go_wp2_with (first
      | (go_at_call 15; refine HB.out.mono ?_; intro e w1 hp; obtain ⟨rfl, HK⟩ := HBR.out e w1 hp; have c0 := HK.out.2.cell 0; have c1 := HK.out.2.cell 1; have f0 := HK.out.2.frozen 0; have f1 := HK.out.2.frozen 1; clear hp))
    exact bodyPost_ret (results_alike rfl _ _ w.heap.size false false (spotE er.1 er.2) rfl rfl ((HK.out.2.set_ 0 _).set_ 1 _)) rfl ⟨(HK.out.1.setCell (.inr (Nat.le_refl _)) _).setCell (.inr (Nat.le_refl _)) _, by rw [HR.out]⟩
  | inr t =>
    have HBR : Hid (∀ e w', BuildPost wa cs e w' → ∃ x, e = .returned (.tuple #[x, .nilIface]) ∧ Hid (Keeps (fun _ => False) w w' ∧ Blk w' w.heap.size 51 [.bool false, .bool false] ∧ Calls Try.prog 27 #[x, x] w' fun e w2 => e = .returned (.agg #[.bool (!t.isAll), .bool t.isAll]) ∧ Keeps (fun _ => False) w' w2)) := Lib.hid fun e w' h => by
      obtain ⟨vt, h1, h2, h3, h4⟩ := h.2.2 t hb
      refine ⟨_, h2, Lib.hid ⟨KA.out.1.trans h.1 (fun _ _ h => h), h.1.blk KA.out.2 (fun h => h), ?_⟩⟩
      have hnil : (vt.isNil && vt.isNil) = false := by
        rw [Bool.and_self, ← VT.isNil_erase, h1]
        cases t <;> first | rfl | exact absurd hb h0
      have h5 := held_any w' vt vt hnil h3 h3
      rw [alikeF_self, ← VT.isAll_erase, h1] at h5
      exact h5
    have HR : Hid (selfF cs = .inr (!t.isAll, t.isAll)) := Lib.hid (by simp [selfF, hb])
    clear hb KA
    rw [hwa] at HB HBR
    clear hwa h0
    obtain ⟨q1, hq1⟩ : ∃ q, q = !t.isAll := ⟨_, rfl⟩
    obtain ⟨q2, hq2⟩ : ∃ q, q = t.isAll := ⟨_, rfl⟩
    rw [← hq1, ← hq2] at HBR HR
    clear hq1 hq2
    go_enter Try.func14, Try.ntmps14
    go_wp2_with (first
      | (go_at_call 15; refine HB.out.mono ?_; intro e w1 hp; obtain ⟨x, rfl, HK⟩ := HBR.out e w1 hp; clear hp)
      | (go_at_call 27; refine HK.out.2.2.mono ?_; rintro e w2 ⟨rfl, hk2⟩; have HK2 := Lib.hid hk2; have hb2 := hk2.blk HK.out.2.1 (fun h => h); have HB2 := Lib.hid hb2; have c0 := hb2.cell 0; have c1 := hb2.cell 1; have f0 := hb2.frozen 0; have f1 := hb2.frozen 1; clear hk2 hb2))
    exact bodyPost_ret (results_alike rfl _ _ w.heap.size q1 q2 .nilIface rfl rfl ((HB2.out.set_ 0 _).set_ 1 _)) rfl ⟨((HK.out.1.trans HK2.out (fun _ _ h => h)).setCell (.inr (Nat.le_refl _)) _).setCell (.inr (Nat.le_refl _)) _, by rw [HR.out]⟩
set_option maxHeartbeats 4000000 in
set_option maxRecDepth 100000 in
theorem Same_any (w : World) (A B : Option Addr) (n c m d : Nat) (cs ds : List CauseV) (hn : cs.length = n) (hS : CausesAt w A cs) (hm : ds.length = m) (hT : CausesAt w B ds) (h0 : ¬ (buildF cs = .inr .nil ∧ buildF ds = .inr .nil)) :
    Calls Try.prog 12 #[.slice A n c, .slice B m d] w (AlikePost w (sameR cs ds)) := by
  obtain ⟨wa, hwa⟩ : ∃ wa, wa = w.alloc (.cells #[.bool false, .bool false] 51) := ⟨_, rfl⟩
  have KA : Hid (Keeps (fun _ => False) w wa ∧ Blk wa w.heap.size 51 [.bool false, .bool false]) := Lib.hid (by rw [hwa]; exact ⟨(Keeps.refl _ w).alloc _, Blk.new w _ _⟩)
  have HB := Lib.hid (Build_any wa A n c cs hn (hS.keep KA.out.1))
  have HD : Hid (∀ W, Keeps (fun _ => False) wa W → Calls Try.prog 15 #[.slice B m d] W (BuildPost W ds)) := Lib.hid fun W hW => Build_any W B m d ds hm ((hT.keep KA.out.1).keep hW)
  clear hS hn hT hm
  cases hb : buildF cs with
  | inl er =>
    have HBR : Hid (∀ e w', BuildPost wa cs e w' → e = .returned (.tuple #[.nilIface, .iface 62 (.agg #[.int .i64 er.1, .int .i64 er.2])]) ∧ Hid (Keeps (fun _ => False) w w' ∧ Blk w' w.heap.size 51 [.bool false, .bool false])) := Lib.hid fun e w' h => ⟨h.2.1 er hb, Lib.hid ⟨KA.out.1.trans h.1 (fun _ _ h => h), h.1.blk KA.out.2 (fun h => h)⟩⟩
    have HR : Hid (sameR cs ds = .inl er) := Lib.hid (by simp [sameR, hb])
    clear hb KA HD
    rw [hwa] at HB HBR
    clear hwa h0
    go_enter Try.func12, Try.ntmps12
    go_wp2_with (first
      | (go_at_call 15; refine HB.out.mono ?_; intro e w1 hp; obtain ⟨rfl, HK⟩ := HBR.out e w1 hp; have c0 := HK.out.2.cell 0; have c1 := HK.out.2.cell 1; have f0 := HK.out.2.frozen 0; have f1 := HK.out.2.frozen 1; clear hp))
    exact bodyPost_ret (results_alike rfl _ _ w.heap.size false false (spotE er.1 er.2) rfl rfl ((HK.out.2.set_ 0 _).set_ 1 _)) rfl ⟨(HK.out.1.setCell (.inr (Nat.le_refl _)) _).setCell (.inr (Nat.le_refl _)) _, by rw [HR.out]⟩
  | inr t =>
    have HBR : Hid (∀ e w', BuildPost wa cs e w' → ∃ vt x, x = vv vt ∧ e = .returned (.tuple #[x, .nilIface]) ∧ Hid (Keeps (fun _ => False) wa w' ∧ Keeps (fun _ => False) w w' ∧ Blk w' w.heap.size 51 [.bool false, .bool false] ∧ At (fun i => i < w'.heap.size) w' vt ∧ vt.erase = t)) := Lib.hid fun e w' h => by
      obtain ⟨vt, h1, h2, h3, h4⟩ := h.2.2 t hb
      exact ⟨vt, _, rfl, h2, Lib.hid ⟨h.1, KA.out.1.trans h.1 (fun _ _ h => h), h.1.blk KA.out.2 (fun h => h), h3.mono fun i _ hl => hl, h1⟩⟩
    cases hb2 : buildF ds with
    | inl er =>
      have HDR : Hid (∀ W, Keeps (fun _ => False) wa W → Calls Try.prog 15 #[.slice B m d] W fun e w' => e = .returned (.tuple #[.nilIface, .iface 62 (.agg #[.int .i64 er.1, .int .i64 er.2])]) ∧ Hid (Keeps (fun _ => False) W w')) := Lib.hid fun W hW => (HD.out W hW).mono fun e w' h => ⟨h.2.1 er hb2, Lib.hid h.1⟩
      have HR : Hid (sameR cs ds = .inl er) := Lib.hid (by simp [sameR, hb, hb2])
      clear hb hb2 KA HD
      rw [hwa] at HB HBR HDR
      clear hwa h0
      have tk : True := trivial
      go_enter Try.func12, Try.ntmps12
      go_wp2_with (first
        | (go_at_call 15; have _t := tk; clear tk; refine HB.out.mono ?_; intro e w1 hp; obtain ⟨vt, x, hx, rfl, HK⟩ := HBR.out e w1 hp; clear hp)
        | (go_at_call 15; refine (HDR.out w1 HK.out.1).mono ?_; rintro e w2 ⟨rfl, HK2⟩; have hb2 := HK2.out.blk HK.out.2.2.1 (fun h => h); have HB2 := Lib.hid hb2; have c0 := hb2.cell 0; have c1 := hb2.cell 1; have f0 := hb2.frozen 0; have f1 := hb2.frozen 1; clear hb2))
      exact bodyPost_ret (results_alike rfl _ _ w.heap.size false false (spotE er.1 er.2) rfl rfl ((HB2.out.set_ 0 _).set_ 1 _)) rfl ⟨((HK.out.2.1.trans HK2.out (fun _ _ h => h)).setCell (.inr (Nat.le_refl _)) _).setCell (.inr (Nat.le_refl _)) _, by rw [HR.out]⟩
    | inr u =>
      obtain ⟨q1, hq1⟩ : ∃ q, q = (if t.isAll && u.isAll then (false, true) else (sameF t u, false)).1 := ⟨_, rfl⟩
      obtain ⟨q2, hq2⟩ : ∃ q, q = (if t.isAll && u.isAll then (false, true) else (sameF t u, false)).2 := ⟨_, rfl⟩
      have HDR : Hid (∀ W vt x, Keeps (fun _ => False) wa W → At (fun i => i < W.heap.size) W vt → vt.erase = t → x = vv vt → Calls Try.prog 15 #[.slice B m d] W fun e w' => ∃ y, e = .returned (.tuple #[y, .nilIface]) ∧ Hid (Keeps (fun _ => False) W w' ∧ Calls Try.prog 27 #[x, y] w' fun e w2 => e = .returned (.agg #[.bool q1, .bool q2]) ∧ Keeps (fun _ => False) w' w2)) := Lib.hid fun W vt x hW hat he hx => (HD.out W hW).mono fun e w' h => by
        obtain ⟨ut, h1, h2, h3, h4⟩ := h.2.2 u hb2
        refine ⟨_, h2, Lib.hid ⟨h.1, ?_⟩⟩
        have hat2 := hat.keep h.1 (fun _ _ h => h)
        have hnil : (vt.isNil && ut.isNil) = false := by
          cases e1 : vt.isNil && ut.isNil with
          | false => rfl
          | true =>
            exfalso
            rw [Bool.and_eq_true, ← VT.isNil_erase vt, ← VT.isNil_erase ut, he, h1] at e1
            refine h0 ⟨?_, ?_⟩
            · rw [hb]
              cases t <;> first | rfl | simp [VT.isNil] at e1
            · rw [hb2]
              cases u <;> first | rfl | simp [VT.isNil] at e1
        have h5 := held_any w' vt ut hnil hat2 h3
        rw [alikeF_apart hat2 h3 (fun i h1 h2 => by omega), he, h1, ← hq1, ← hq2] at h5
        rw [hx]
        exact h5
      have HR : Hid (sameR cs ds = .inr (q1, q2)) := Lib.hid (by simp [sameR, hb, hb2, hq1, hq2])
      clear hb hb2 KA HD
      rw [hwa] at HB HBR HDR
      clear hwa h0 hq1 hq2
      have tk : True := trivial
      go_enter Try.func12, Try.ntmps12
      go_wp2_with (first
        | (go_at_call 15; have _t := tk; clear tk; refine HB.out.mono ?_; intro e w1 hp; obtain ⟨vt, x, hx, rfl, HK⟩ := HBR.out e w1 hp; have HX := Lib.hid hx; clear hp hx)
        | (go_at_call 15; refine (HDR.out w1 vt x HK.out.1 HK.out.2.2.2.1 HK.out.2.2.2.2 HX.out).mono ?_; rintro e w2 ⟨y, rfl, HK2⟩)
        | (go_at_call 27; refine HK2.out.2.mono ?_; rintro e w3 ⟨rfl, hk3⟩; have HK3 := Lib.hid hk3; have hb2 := hk3.blk (HK2.out.1.blk HK.out.2.2.1 (fun h => h)) (fun h => h); have HB2 := Lib.hid hb2; have c0 := hb2.cell 0; have c1 := hb2.cell 1; have f0 := hb2.frozen 0; have f1 := hb2.frozen 1; clear hk3 hb2))
      exact bodyPost_ret (results_alike rfl _ _ w.heap.size q1 q2 .nilIface rfl rfl ((HB2.out.set_ 0 _).set_ 1 _)) rfl ⟨(((HK.out.2.1.trans HK2.out.1 (fun _ _ h => h)).trans HK3.out (fun _ _ h => h)).setCell (.inr (Nat.le_refl _)) _).setCell (.inr (Nat.le_refl _)) _, by rw [HR.out]⟩
end Go.Proofs.Ytinonjfnhedlpaa
