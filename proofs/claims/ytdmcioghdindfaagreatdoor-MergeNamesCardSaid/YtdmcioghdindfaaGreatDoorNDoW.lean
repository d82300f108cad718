/-
  WALKS: node: what do defers; do, a null.
-/
import Derived.Test.YtdmcioghdindfaaGreatDoorNPutW
set_option linter.unusedSimpArgs false
namespace Go.Proofs.YtdmcioghdindfaaGreatDoor
open Go Go.RowKit Go.Aff Go.Json
theorem do_catch (r : Nat) (k : Int) (older : List PanicEntry) (w : World) (hb : Blk w r 35 [.nilIface]) :
    CallsD Tryz.prog 75 #[.pointer (some ⟨r, 0, none⟩)] (.panicking ({ v := .iface 42 (.int .i64 k), recovered := false } :: older)) w fun e u' w' =>
      e = .returned (.tuple #[]) ∧ u' = .panicking ({ v := .iface 42 (.int .i64 k), recovered := true } :: older) ∧ Blk w' r 35 [.iface 42 (.int .i64 k)] ∧ Keeps (fun i => i = r) w w' := by
  have c0 := hb.cell 0
  have f0 := hb.frozen 0
  have ht := rec_errno (.int .i64 k)
  refine callsD_of_wpS Tryz.func75 rfl fun c₀ cs hu => ?_
  apply wpS_seq
  apply wpS_region
  simp [wpOpsS, go_sem, recoverD, hu, Tryz.ntmps75, Exit.thenS]
  apply wpS_seq
  apply wpS_region
  simp [wpOpsS, go_sem, recoverD, hu, Exit.thenS]
  refine wpS_cond (t := true) (by simp [Act.eval, Array.replicate]) ?_
  simp only [if_true]
  apply wpS_region
  simp [wpOpsS, go_sem, ht, c0, f0, bodyPostS, results, Tryz.results75]
  exact ⟨hb.set_ 0 _, (Keeps.refl (fun i => i = r) w).setCell (p := ⟨r, 0, none⟩) (.inl rfl) _⟩
theorem do_idle (p : Addr) (w : World) :
    CallsD Tryz.prog 75 #[.pointer (some p)] .returning w fun e u' w' => e = .returned (.tuple #[]) ∧ u' = .returning ∧ w' = w := by
  refine callsD_of_wpS Tryz.func75 rfl fun c₀ cs hu => ?_
  apply wpS_seq
  apply wpS_region
  simp [wpOpsS, go_sem, recoverD, hu, Tryz.ntmps75, Exit.thenS]
  apply wpS_seq
  apply wpS_region
  simp [wpOpsS, go_sem, recoverD, hu, Exit.thenS]
  refine wpS_cond (t := false) (by simp [Act.eval, Array.replicate]) ?_
  simp only [Bool.false_eq_true, if_false]
  refine wpS_of_wp (wp_skip ?_)
  cases c₀
  simp_all [bodyPostS, results, Tryz.results75]
theorem set_same {w : World} {g : Nat} {t : TypeId} {v : Value} (h : Blk w g t [v]) : w.setCell ⟨g, 0, none⟩ v = w := by
  have hh : (w.setCell ⟨g, 0, none⟩ v).heap = w.heap := by
    apply Array.ext_getElem?
    intro i
    by_cases e : i = g
    · subst e
      have h1 : (w.setCell ⟨i, 0, none⟩ v).heap[i]? = _ := h.set_ 0 v
      have h2 : w.heap[i]? = _ := h
      rw [h1, h2]
      rfl
    · exact Below.heap_setCell w ⟨g, 0, none⟩ v i e
  have e : w.setCell ⟨g, 0, none⟩ v = { w with heap := (w.setCell ⟨g, 0, none⟩ v).heap } := rfl
  rw [e, hh]
theorem results_err {fn : Func} {p : Tmp} (h : fn.results = #[.cell p 35]) (tmps : Array Value) (w : World) (g : Nat) (v : Value) (hp : tmps.getD p undef = .pointer (some ⟨g, 0, none⟩)) (hb : Blk w g 35 [v]) : (results fn tmps).run Tryz.prog w = .ok v w := by
  have c0 := hb.cell 0
  have hp' : tmps[p]?.getD undef = .pointer (some ⟨g, 0, none⟩) := by simpa using hp
  simp [results, h, hp', asAddr, go_sem, c0]
/-- What comes of a step. -/
def DoPost (T : TypeId) (D : Nat → Prop) (w : World) (p : Nat) (v : Value) (P : List JV) (s : StepV) (e : Ending) (w' : World) : Prop := match doF P s with
  | .inl k => e = .returned (errE k) ∧ Keeps (fun _ => False) w w'
  | .inr P' => e = .returned .nilIface ∧ RowPost T D w p v P' w'
theorem used_parts {s : StepV} (h : usedF s = true) : (s.sort ≠ 4 → s.text.size = 0) ∧ (s.sort ≠ 5 → s.count = 0) ∧ (s.sort ≠ 6 → s.keys = []) ∧ 1 ≤ s.sort ∧ s.sort ≤ 6 ∧ 0 ≤ s.count := by
  simp only [usedF, Bool.and_eq_true, Bool.or_eq_true, decide_eq_true_eq] at h
  obtain ⟨⟨⟨⟨⟨⟨⟨h1, h2⟩, h3⟩, h4⟩, h5⟩, h6⟩, h7⟩, h8⟩ := h
  exact ⟨fun e => h6.resolve_right e, fun e => h7.resolve_right e, fun e => List.length_eq_zero_iff.1 (h8.resolve_right e), h1, h2, h3⟩
theorem right_empty {s : ByteArray} (h : s.size = 0) : rightS s = true := by
  have h1 : sb s = [] := List.length_eq_zero_iff.1 (by rw [sb_len]; exact h)
  unfold rightS
  rw [h1]
  rfl
/-- A step of a value without values within. -/
theorem do_scalar (P : List JV) (s : StepV) (j : JV) (hu : usedF s = true) (h5 : s.sort ≠ 3 ∧ s.sort ≠ 4 ∧ s.sort ≠ 5 ∧ s.sort ≠ 6) (hj : mkV s [] = j) (_ : True) (hw : j.within) : doF P s = .inr (P ++ [j]) := by
  obtain ⟨u1, u2, u3, _, _, _⟩ := used_parts hu
  have k := u3 h5.2.2.2
  have ct := u2 h5.2.2.1
  unfold doF
  rw [if_neg (by rw [hu]; decide), if_neg (fun h => h5.1 h.1), if_neg (by rw [right_empty (u1 h5.2.1), k]; simp), if_neg (by rw [k]; simp), if_neg (by rw [k, ct]; simp)]
  have hz : s.count.toNat + s.keys.length = 0 := by rw [k, ct]; rfl
  rw [hz, Nat.sub_zero, List.drop_length, List.take_length, hj, if_neg (by simpa using hw)]
set_option maxHeartbeats 4000000 in
set_option maxRecDepth 100000 in
theorem do_unused (T : TypeId) (D : Nat → Prop) (w : World) (p : Nat) (A : Option Addr) (c : Nat) (vs : List Value) (P : List JV) (h : RowAt T D w p A c vs P) (hn : P.length ≤ 1048576) (s : StepV) (B : Option Addr) (d : Nat) (hu : usedF s = false) :
    Calls Tryz.prog 48 #[.pointer (some ⟨p, 0, none⟩), .agg (stepV s B d).toArray] w (DoPost T D w p (.slice A P.length c) P s) := by
  obtain ⟨SV, hSV⟩ : ∃ SV, SV = stepV s B d := ⟨_, rfl⟩
  have HC0 : Hid (SV[0]? = some (.int .i64 s.sort)) := Lib.hid (by rw [hSV]; rfl)
  have HC1 : Hid (SV[1]? = some (.bool s.flag)) := Lib.hid (by rw [hSV]; rfl)
  have HU : Hid (∀ W, Calls Tryz.prog 77 #[.agg SV.toArray] W fun e w' => e = .returned (.bool false) ∧ Keeps (fun _ => False) W w') := Lib.hid fun W => by
    have := used_any W s B d
    rw [hu, ← hSV] at this
    exact this
  have HSL : Hid (SV.length = 6) := Lib.hid (by rw [hSV]; rfl)
  have HSI : Hid ((Tryz.prog.info? 53).map (·.size) = some SV.length) := Lib.hid (by rw [HSL.out]; kernel_rfl)
  have HR := Lib.hid h
  have hb1 := (Blk.new w 53 SV).alloc (.cells #[.nilIface] 35)
  have hb2 := Blk.new (w.alloc (.cells SV.toArray 53)) 35 [.nilIface]
  rw [World.size_alloc] at hb2
  have HB := Lib.hid (And.intro (And.intro hb1 hb2) (((Keeps.refl (fun _ => False) w).alloc (.cells SV.toArray 53)).alloc (.cells #[.nilIface] 35)))
  have hmf : ∀ (fn : Fn) (first cap : Array Value) (w : World), (Instr.makeFunc fn first cap).run Tryz.prog w = .ok (.func fn first cap) w := fun _ _ _ _ => rfl
  have hlt := h.blk.lt
  rw [← hSV]
  clear h hb1 hb2 hSV
  have _ := hn
  go_enter_defers Tryz.func48, Tryz.ntmps48
  go_wp2_with (first
    | ((with_reducible show wpList _ _ _ (⟨some 8, _, _, _, _, _⟩ :: _) _ _); refine wpList_load_whole rfl 53 _ rfl _ rfl HB.out.1.1 Tryz.underlying53 rfl HSI.out ?_)
    | (go_at_call 77; refine (HU.out _).mono ?_; rintro e w2 ⟨rfl, hk2⟩; have HK2 := Lib.hid hk2; have hbs := hk2.blk HB.out.1.1 (fun h => h); have s0 := (hbs.cell 0).trans HC0.out; have s1 := (hbs.cell 1).trans HC1.out; clear hk2 hbs)
    | (go_at_call 76; refine (refuse_no _ _).mono ?_; rintro e w3 ⟨he, rfl⟩; unfold errP at he; subst he))
  have hbe := HK2.out.blk HB.out.1.2 (fun h => h)
  refine leaves_cons (f := 75) (args := #[.pointer (some ⟨w.heap.size + 1, 0, none⟩)]) (by simp) (by simp [go_sem]) ?_
  refine (do_catch (w.heap.size + 1) 2 [] _ hbe).mono ?_
  rintro e u' w'' ⟨rfl, rfl, hb, hk⟩
  refine ⟨_, results_err rfl _ _ _ _ rfl hb, ?_⟩
  have hd : doF P s = .inl 2 := by simp [doF, hu]
  unfold DoPost
  rw [hd]
  exact ⟨rfl, (HB.out.2.trans HK2.out (fun _ _ h => h)).trans hk (fun i hi e => by omega)⟩
set_option maxHeartbeats 4000000 in
set_option maxRecDepth 100000 in
theorem do_null (T : TypeId) (D : Nat → Prop) (w : World) (p : Nat) (A : Option Addr) (c : Nat) (vs : List Value) (P : List JV) (h : RowAt T D w p A c vs P) (hn : P.length ≤ 1048576) (s : StepV) (B : Option Addr) (d : Nat) (hu : usedF s = true) (hs : s.sort = 1) :
    Calls Tryz.prog 48 #[.pointer (some ⟨p, 0, none⟩), .agg (stepV s B d).toArray] w (DoPost T D w p (.slice A P.length c) P s) := by
  obtain ⟨SV, hSV⟩ : ∃ SV, SV = stepV s B d := ⟨_, rfl⟩
  have HC0 : Hid (SV[0]? = some (.int .i64 1)) := Lib.hid (by rw [hSV, ← hs]; rfl)
  have HC1 : Hid (SV[1]? = some (.bool s.flag)) := Lib.hid (by rw [hSV]; rfl)
  have HU : Hid (∀ W, Calls Tryz.prog 77 #[.agg SV.toArray] W fun e w' => e = .returned (.bool true) ∧ Keeps (fun _ => False) W w') := Lib.hid fun W => by
    have := used_any W s B d
    rw [hu, ← hSV] at this
    exact this
  have HSL : Hid (SV.length = 6) := Lib.hid (by rw [hSV]; rfl)
  have HSI : Hid ((Tryz.prog.info? 53).map (·.size) = some SV.length) := Lib.hid (by rw [HSL.out]; kernel_rfl)
  have HR := Lib.hid h
  have hb1 := (Blk.new w 53 SV).alloc (.cells #[.nilIface] 35)
  have hb2 := Blk.new (w.alloc (.cells SV.toArray 53)) 35 [.nilIface]
  rw [World.size_alloc] at hb2
  have HB := Lib.hid (And.intro (And.intro hb1 hb2) (((Keeps.refl (fun _ => False) w).alloc (.cells SV.toArray 53)).alloc (.cells #[.nilIface] 35)))
  have hmf : ∀ (fn : Fn) (first cap : Array Value) (w : World), (Instr.makeFunc fn first cap).run Tryz.prog w = .ok (.func fn first cap) w := fun _ _ _ _ => rfl
  have hlt := h.blk.lt
  rw [← hSV]
  clear h hb1 hb2 hSV
  have HP : Hid (∀ W, Keeps (fun _ => False) w W → Calls Tryz.prog 78 #[.pointer (some ⟨p, 0, none⟩), .iface 166 (.agg #[])] W fun e w' => e = .returned (.tuple #[]) ∧ RowPost T D W p (.slice A P.length c) (P ++ [JV.null]) w') := Lib.hid fun W hW =>
    put_null T D W p A c vs P (HR.out.stay hW) hn .null true (by decide)
  have hrow := HR.out.ne_own
  have hol : ∀ g, (Value.slice A P.length c).ownBlock = some g → g < w.heap.size := fun g hg => (HR.out.own.lt g hg).2
  have HEB : Hid (∀ W w', Keeps (fun _ => False) ((w.alloc (.cells SV.toArray 53)).alloc (.cells #[.nilIface] 35)) W → Keeps (fun i => i = p ∨ (Value.slice A P.length c).ownBlock = some i) W w' → Blk w' (w.heap.size + 1) 35 [.nilIface]) := Lib.hid fun W w' hW hk =>
    hk.blk (hW.blk HB.out.1.2 (fun h => h)) (fun e => by
      rcases e with e | e
      · omega
      · have := hol _ e; omega)
  clear hrow hol
  go_enter_defers Tryz.func48, Tryz.ntmps48
  go_wp2_with (first
    | ((with_reducible show wpList _ _ _ (⟨some 8, _, _, _, _, _⟩ :: _) _ _); refine wpList_load_whole rfl 53 _ rfl _ rfl HB.out.1.1 Tryz.underlying53 rfl HSI.out ?_)
    | (go_at_call 77; refine (HU.out _).mono ?_; rintro e w2 ⟨rfl, hk2⟩; have HK2 := Lib.hid hk2; have hbs := hk2.blk HB.out.1.1 (fun h => h); have s0 := (hbs.cell 0).trans HC0.out; have s1 := (hbs.cell 1).trans HC1.out; clear hk2 hbs)
    | (go_at_call 76; refine (refuse_ok _ _).mono ?_; rintro e w3 ⟨he, rfl⟩; subst he)
    | (go_at_call 78; refine (HP.out _ (HB.out.2.trans HK2.out (fun _ _ h => h))).mono ?_; rintro e w4 ⟨rfl, hr4⟩; have hbe := HEB.out _ _ HK2.out hr4.2; have HR4 := Lib.hid hr4; have HBE := Lib.hid hbe; have c0 := hbe.cell 0; have f0 := hbe.frozen 0; clear hr4 hbe))
  rw [set_same HBE.out]
  refine leaves_cons (f := 75) (args := #[.pointer (some ⟨w.heap.size + 1, 0, none⟩)]) (by simp) (by simp [go_sem]) ?_
  refine (do_idle ⟨w.heap.size + 1, 0, none⟩ _).mono ?_
  rintro e u' w'' ⟨rfl, rfl, rfl⟩
  refine ⟨_, results_err rfl _ _ _ _ rfl HBE.out, ?_⟩
  have hd : doF P s = .inr (P ++ [JV.null]) := do_scalar P s (JV.null) hu (by omega) (by simp [mkV, hs]) trivial (by simp [JV.within, JV.nodes, JV.bytes, JV.deep])
  unfold DoPost
  rw [hd]
  exact ⟨rfl, HR4.out.1, ((HB.out.2.trans HK2.out (fun _ _ h => h)).mono (fun _ _ h => h.elim)).trans HR4.out.2 (fun _ _ h => h)⟩
set_option maxHeartbeats 4000000 in
set_option maxRecDepth 100000 in
theorem do_flag (T : TypeId) (D : Nat → Prop) (w : World) (p : Nat) (A : Option Addr) (c : Nat) (vs : List Value) (P : List JV) (h : RowAt T D w p A c vs P) (hn : P.length ≤ 1048576) (s : StepV) (B : Option Addr) (d : Nat) (hu : usedF s = true) (hs : s.sort = 2) :
    Calls Tryz.prog 48 #[.pointer (some ⟨p, 0, none⟩), .agg (stepV s B d).toArray] w (DoPost T D w p (.slice A P.length c) P s) := by
  obtain ⟨SV, hSV⟩ : ∃ SV, SV = stepV s B d := ⟨_, rfl⟩
  have HC0 : Hid (SV[0]? = some (.int .i64 2)) := Lib.hid (by rw [hSV, ← hs]; rfl)
  have HC1 : Hid (SV[1]? = some (.bool s.flag)) := Lib.hid (by rw [hSV]; rfl)
  have HU : Hid (∀ W, Calls Tryz.prog 77 #[.agg SV.toArray] W fun e w' => e = .returned (.bool true) ∧ Keeps (fun _ => False) W w') := Lib.hid fun W => by
    have := used_any W s B d
    rw [hu, ← hSV] at this
    exact this
  have HSL : Hid (SV.length = 6) := Lib.hid (by rw [hSV]; rfl)
  have HSI : Hid ((Tryz.prog.info? 53).map (·.size) = some SV.length) := Lib.hid (by rw [HSL.out]; kernel_rfl)
  have HR := Lib.hid h
  have hb1 := (Blk.new w 53 SV).alloc (.cells #[.nilIface] 35)
  have hb2 := Blk.new (w.alloc (.cells SV.toArray 53)) 35 [.nilIface]
  rw [World.size_alloc] at hb2
  have HB := Lib.hid (And.intro (And.intro hb1 hb2) (((Keeps.refl (fun _ => False) w).alloc (.cells SV.toArray 53)).alloc (.cells #[.nilIface] 35)))
  have hmf : ∀ (fn : Fn) (first cap : Array Value) (w : World), (Instr.makeFunc fn first cap).run Tryz.prog w = .ok (.func fn first cap) w := fun _ _ _ _ => rfl
  have hlt := h.blk.lt
  rw [← hSV]
  clear h hb1 hb2 hSV
  have HP : Hid (∀ W, Keeps (fun _ => False) w W → Calls Tryz.prog 78 #[.pointer (some ⟨p, 0, none⟩), .iface 167 (.bool s.flag)] W fun e w' => e = .returned (.tuple #[]) ∧ RowPost T D W p (.slice A P.length c) (P ++ [JV.flag s.flag]) w') := Lib.hid fun W hW =>
    put_flag T D W p A c vs P (HR.out.stay hW) hn s.flag (.flag _) true (by decide)
  have hrow := HR.out.ne_own
  have hol : ∀ g, (Value.slice A P.length c).ownBlock = some g → g < w.heap.size := fun g hg => (HR.out.own.lt g hg).2
  have HEB : Hid (∀ W w', Keeps (fun _ => False) ((w.alloc (.cells SV.toArray 53)).alloc (.cells #[.nilIface] 35)) W → Keeps (fun i => i = p ∨ (Value.slice A P.length c).ownBlock = some i) W w' → Blk w' (w.heap.size + 1) 35 [.nilIface]) := Lib.hid fun W w' hW hk =>
    hk.blk (hW.blk HB.out.1.2 (fun h => h)) (fun e => by
      rcases e with e | e
      · omega
      · have := hol _ e; omega)
  clear hrow hol
  go_enter_defers Tryz.func48, Tryz.ntmps48
  go_wp2_with (first
    | ((with_reducible show wpList _ _ _ (⟨some 8, _, _, _, _, _⟩ :: _) _ _); refine wpList_load_whole rfl 53 _ rfl _ rfl HB.out.1.1 Tryz.underlying53 rfl HSI.out ?_)
    | (go_at_call 77; refine (HU.out _).mono ?_; rintro e w2 ⟨rfl, hk2⟩; have HK2 := Lib.hid hk2; have hbs := hk2.blk HB.out.1.1 (fun h => h); have s0 := (hbs.cell 0).trans HC0.out; have s1 := (hbs.cell 1).trans HC1.out; clear hk2 hbs)
    | (go_at_call 76; refine (refuse_ok _ _).mono ?_; rintro e w3 ⟨he, rfl⟩; subst he)
    | (go_at_call 78; refine (HP.out _ (HB.out.2.trans HK2.out (fun _ _ h => h))).mono ?_; rintro e w4 ⟨rfl, hr4⟩; have hbe := HEB.out _ _ HK2.out hr4.2; have HR4 := Lib.hid hr4; have HBE := Lib.hid hbe; have c0 := hbe.cell 0; have f0 := hbe.frozen 0; clear hr4 hbe))
  rw [set_same HBE.out]
  refine leaves_cons (f := 75) (args := #[.pointer (some ⟨w.heap.size + 1, 0, none⟩)]) (by simp) (by simp [go_sem]) ?_
  refine (do_idle ⟨w.heap.size + 1, 0, none⟩ _).mono ?_
  rintro e u' w'' ⟨rfl, rfl, rfl⟩
  refine ⟨_, results_err rfl _ _ _ _ rfl HBE.out, ?_⟩
  have hd : doF P s = .inr (P ++ [JV.flag s.flag]) := do_scalar P s (JV.flag s.flag) hu (by omega) (by simp [mkV, hs]) trivial (by simp [JV.within, JV.nodes, JV.bytes, JV.deep])
  unfold DoPost
  rw [hd]
  exact ⟨rfl, HR4.out.1, ((HB.out.2.trans HK2.out (fun _ _ h => h)).mono (fun _ _ h => h.elim)).trans HR4.out.2 (fun _ _ h => h)⟩
end Go.Proofs.YtdmcioghdindfaaGreatDoor
