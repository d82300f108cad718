/-
  Texts put together: NDoW; NRefW; NCloneW.
-/
import Derived.Test.YtdmcioghdindfaaGreatQ06
import Derived.Shelf.Abstract
import Derived.Lib.SliceRun
set_option linter.unusedSimpArgs false
namespace Go.Proofs.YtdmcioghdindfaaGreat
open Go Go.RowKit Go.Aff Go.Json
theorem do_catch (r : Nat) (k : Int) (older : List PanicEntry) (w : World) (hb : Blk w r 33 [.nilIface]) :
    CallsD Tryz.prog 48 #[.pointer (some ⟨r, 0, none⟩)] (.panicking ({ v := .iface 69 (.int .i64 k), recovered := false } :: older)) w fun e u' w' =>
      e = .returned (.tuple #[]) ∧ u' = .panicking ({ v := .iface 69 (.int .i64 k), recovered := true } :: older) ∧ Blk w' r 33 [.iface 69 (.int .i64 k)] ∧ Keeps (fun i => i = r) w w' := by
  have c0 := hb.cell 0
  have f0 := hb.frozen 0
  have ht := rec_errno (.int .i64 k)
  refine callsD_of_wpS Tryz.func48 rfl fun c₀ cs hu => ?_
  apply wpS_seq
  apply wpS_region
  simp [wpOpsS, go_sem, recoverD, hu, Tryz.ntmps48, Exit.thenS]
  apply wpS_seq
  apply wpS_region
  simp [wpOpsS, go_sem, recoverD, hu, Exit.thenS]
  refine wpS_cond (t := true) (by simp [Act.eval, Array.replicate]) ?_
  simp only [if_true]
  apply wpS_region
  simp [wpOpsS, go_sem, ht, c0, f0, bodyPostS, results, Tryz.results48]
  exact ⟨hb.set_ 0 _, (Keeps.refl (fun i => i = r) w).setCell (p := ⟨r, 0, none⟩) (.inl rfl) _⟩
theorem do_idle (p : Addr) (w : World) :
    CallsD Tryz.prog 48 #[.pointer (some p)] .returning w fun e u' w' => e = .returned (.tuple #[]) ∧ u' = .returning ∧ w' = w := by
  refine callsD_of_wpS Tryz.func48 rfl fun c₀ cs hu => ?_
  apply wpS_seq
  apply wpS_region
  simp [wpOpsS, go_sem, recoverD, hu, Tryz.ntmps48, Exit.thenS]
  apply wpS_seq
  apply wpS_region
  simp [wpOpsS, go_sem, recoverD, hu, Exit.thenS]
  refine wpS_cond (t := false) (by simp [Act.eval, Array.replicate]) ?_
  simp only [Bool.false_eq_true, if_false]
  refine wpS_of_wp (wp_skip ?_)
  cases c₀
  simp_all [bodyPostS, results, Tryz.results48]
theorem set_same {w : World} {g : Nat} {t : TypeId} {v : Value} (h : Blk w g t [v]) : w.setCell ⟨g, 0, none⟩ v = w := by
  have hh : (w.setCell ⟨g, 0, none⟩ v).heap = w.heap := by
    apply Array.ext_getElem?
    intro i
    by_cases e : i = g
    · subst e
      have h1 : (w.setCell ⟨i, 0, none⟩ v).heap[i]? = _ := h.set_ 0 v
      have h2 : w.heap[i]? = _ := h
      rw [h1, h2]
      rfl
    · exact Below.heap_setCell w ⟨g, 0, none⟩ v i e
  have e : w.setCell ⟨g, 0, none⟩ v = { w with heap := (w.setCell ⟨g, 0, none⟩ v).heap } := rfl
  rw [e, hh]
theorem results_err {fn : Func} {p : Tmp} (h : fn.results = #[.cell p 33]) (tmps : Array Value) (w : World) (g : Nat) (v : Value) (hp : tmps.getD p undef = .pointer (some ⟨g, 0, none⟩)) (hb : Blk w g 33 [v]) : (results fn tmps).run Tryz.prog w = .ok v w := by
  have c0 := hb.cell 0
  have hp' : tmps[p]?.getD undef = .pointer (some ⟨g, 0, none⟩) := by simpa using hp
  simp [results, h, hp', asAddr, go_sem, c0]
/-- What comes of a step. -/
def DoPost (T : TypeId) (D : Nat → Prop) (w : World) (p : Nat) (v : Value) (P : List JV) (s : StepV) (e : Ending) (w' : World) : Prop := match doF P s with
  | .inl k => e = .returned (errE k) ∧ Keeps (fun _ => False) w w'
  | .inr P' => e = .returned .nilIface ∧ RowPost T D w p v P' w'
theorem used_parts {s : StepV} (h : usedF s = true) : (s.sort ≠ 4 → s.text.size = 0) ∧ (s.sort ≠ 5 → s.count = 0) ∧ (s.sort ≠ 6 → s.keys = []) ∧ 1 ≤ s.sort ∧ s.sort ≤ 6 ∧ 0 ≤ s.count := by
  simp only [usedF, Bool.and_eq_true, Bool.or_eq_true, decide_eq_true_eq] at h
  obtain ⟨⟨⟨⟨⟨⟨⟨h1, h2⟩, h3⟩, h4⟩, h5⟩, h6⟩, h7⟩, h8⟩ := h
  exact ⟨fun e => h6.resolve_right e, fun e => h7.resolve_right e, fun e => List.length_eq_zero_iff.1 (h8.resolve_right e), h1, h2, h3⟩
theorem right_empty {s : ByteArray} (h : s.size = 0) : rightS s = true := by
  have h1 : sb s = [] := List.length_eq_zero_iff.1 (by rw [sb_len]; exact h)
  unfold rightS
  rw [h1]
  rfl
/-- A step of a value without values within. -/
theorem do_scalar (P : List JV) (s : StepV) (j : JV) (hu : usedF s = true) (h5 : s.sort ≠ 3 ∧ s.sort ≠ 4 ∧ s.sort ≠ 5 ∧ s.sort ≠ 6) (hj : mkV s [] = j) (_ : True) (hw : j.within) : doF P s = .inr (P ++ [j]) := by
  obtain ⟨u1, u2, u3, _, _, _⟩ := used_parts hu
  have k := u3 h5.2.2.2
  have ct := u2 h5.2.2.1
  unfold doF
  rw [if_neg (by rw [hu]; decide), if_neg (fun h => h5.1 h.1), if_neg (by rw [right_empty (u1 h5.2.1), k]; simp), if_neg (by rw [k]; simp), if_neg (by rw [k, ct]; simp)]
  have hz : s.count.toNat + s.keys.length = 0 := by rw [k, ct]; rfl
  rw [hz, Nat.sub_zero, List.drop_length, List.take_length, hj, if_neg (by simpa using hw)]
set_option maxHeartbeats 4000000 in
set_option maxRecDepth 100000 in
theorem do_unused (T : TypeId) (D : Nat → Prop) (w : World) (p : Nat) (A : Option Addr) (c : Nat) (vs : List Value) (P : List JV) (h : RowAt T D w p A c vs P) (hn : P.length ≤ 1048576) (s : StepV) (B : Option Addr) (d : Nat) (hu : usedF s = false) :
    Calls Tryz.prog 28 #[.pointer (some ⟨p, 0, none⟩), .agg (stepV s B d).toArray] w (DoPost T D w p (.slice A P.length c) P s) := by
  obtain ⟨SV, hSV⟩ : ∃ SV, SV = stepV s B d := ⟨_, rfl⟩
  have HC0 : Hid (SV[0]? = some (.int .i64 s.sort)) := Lib.hid (by rw [hSV]; rfl)
  have HC1 : Hid (SV[1]? = some (.bool s.flag)) := Lib.hid (by rw [hSV]; rfl)
  have HU : Hid (∀ W, Calls Tryz.prog 50 #[.agg SV.toArray] W fun e w' => e = .returned (.bool false) ∧ Keeps (fun _ => False) W w') := Lib.hid fun W => by
    have := used_any W s B d
    rw [hu, ← hSV] at this
    exact this
  have HSL : Hid (SV.length = 6) := Lib.hid (by rw [hSV]; rfl)
  have HSI : Hid ((Tryz.prog.info? 44).map (·.size) = some SV.length) := Lib.hid (by rw [HSL.out]; kernel_rfl)
  have HR := Lib.hid h
  have hb1 := (Blk.new w 44 SV).alloc (.cells #[.nilIface] 33)
  have hb2 := Blk.new (w.alloc (.cells SV.toArray 44)) 33 [.nilIface]
  rw [World.size_alloc] at hb2
  have HB := Lib.hid (And.intro (And.intro hb1 hb2) (((Keeps.refl (fun _ => False) w).alloc (.cells SV.toArray 44)).alloc (.cells #[.nilIface] 33)))
  have hmf : ∀ (fn : Fn) (first cap : Array Value) (w : World), (Instr.makeFunc fn first cap).run Tryz.prog w = .ok (.func fn first cap) w := fun _ _ _ _ => rfl
  have hlt := h.blk.lt
  rw [← hSV]
  clear h hb1 hb2 hSV
  have _ := hn
  go_enter_defers Tryz.func28, Tryz.ntmps28
  go_wp2_with (first
    | ((with_reducible show wpList _ _ _ (⟨some 8, _, _, _, _, _⟩ :: _) _ _); refine wpList_load_whole rfl 44 _ rfl _ rfl HB.out.1.1 Tryz.underlying44 rfl HSI.out ?_)
    | (go_at_call 50; refine (HU.out _).mono ?_; rintro e w2 ⟨rfl, hk2⟩; have HK2 := Lib.hid hk2; have hbs := hk2.blk HB.out.1.1 (fun h => h); have s0 := (hbs.cell 0).trans HC0.out; have s1 := (hbs.cell 1).trans HC1.out; clear hk2 hbs)
    | (go_at_call 49; refine (refuse_no _ _).mono ?_; rintro e w3 ⟨he, rfl⟩; unfold errP at he; subst he))
  have hbe := HK2.out.blk HB.out.1.2 (fun h => h)
  refine leaves_cons (f := 48) (args := #[.pointer (some ⟨w.heap.size + 1, 0, none⟩)]) (by simp) (by simp [go_sem]) ?_
  refine (do_catch (w.heap.size + 1) 2 [] _ hbe).mono ?_
  rintro e u' w'' ⟨rfl, rfl, hb, hk⟩
  refine ⟨_, results_err rfl _ _ _ _ rfl hb, ?_⟩
  have hd : doF P s = .inl 2 := by simp [doF, hu]
  unfold DoPost
  rw [hd]
  exact ⟨rfl, (HB.out.2.trans HK2.out (fun _ _ h => h)).trans hk (fun i hi e => by omega)⟩
set_option maxHeartbeats 4000000 in
set_option maxRecDepth 100000 in
theorem do_null (T : TypeId) (D : Nat → Prop) (w : World) (p : Nat) (A : Option Addr) (c : Nat) (vs : List Value) (P : List JV) (h : RowAt T D w p A c vs P) (hn : P.length ≤ 1048576) (s : StepV) (B : Option Addr) (d : Nat) (hu : usedF s = true) (hs : s.sort = 1) :
    Calls Tryz.prog 28 #[.pointer (some ⟨p, 0, none⟩), .agg (stepV s B d).toArray] w (DoPost T D w p (.slice A P.length c) P s) := by
  obtain ⟨SV, hSV⟩ : ∃ SV, SV = stepV s B d := ⟨_, rfl⟩
  have HC0 : Hid (SV[0]? = some (.int .i64 1)) := Lib.hid (by rw [hSV, ← hs]; rfl)
  have HC1 : Hid (SV[1]? = some (.bool s.flag)) := Lib.hid (by rw [hSV]; rfl)
  have HU : Hid (∀ W, Calls Tryz.prog 50 #[.agg SV.toArray] W fun e w' => e = .returned (.bool true) ∧ Keeps (fun _ => False) W w') := Lib.hid fun W => by
    have := used_any W s B d
    rw [hu, ← hSV] at this
    exact this
  have HSL : Hid (SV.length = 6) := Lib.hid (by rw [hSV]; rfl)
  have HSI : Hid ((Tryz.prog.info? 44).map (·.size) = some SV.length) := Lib.hid (by rw [HSL.out]; kernel_rfl)
  have HR := Lib.hid h
  have hb1 := (Blk.new w 44 SV).alloc (.cells #[.nilIface] 33)
  have hb2 := Blk.new (w.alloc (.cells SV.toArray 44)) 33 [.nilIface]
  rw [World.size_alloc] at hb2
  have HB := Lib.hid (And.intro (And.intro hb1 hb2) (((Keeps.refl (fun _ => False) w).alloc (.cells SV.toArray 44)).alloc (.cells #[.nilIface] 33)))
  have hmf : ∀ (fn : Fn) (first cap : Array Value) (w : World), (Instr.makeFunc fn first cap).run Tryz.prog w = .ok (.func fn first cap) w := fun _ _ _ _ => rfl
  have hlt := h.blk.lt
  rw [← hSV]
  clear h hb1 hb2 hSV
  have HP : Hid (∀ W, Keeps (fun _ => False) w W → Calls Tryz.prog 51 #[.pointer (some ⟨p, 0, none⟩), .iface 116 (.agg #[])] W fun e w' => e = .returned (.tuple #[]) ∧ RowPost T D W p (.slice A P.length c) (P ++ [JV.null]) w') := Lib.hid fun W hW =>
    put_null T D W p A c vs P (HR.out.stay hW) hn .null true (by decide)
  have hrow := HR.out.ne_own
  have hol : ∀ g, (Value.slice A P.length c).ownBlock = some g → g < w.heap.size := fun g hg => (HR.out.own.lt g hg).2
  have HEB : Hid (∀ W w', Keeps (fun _ => False) ((w.alloc (.cells SV.toArray 44)).alloc (.cells #[.nilIface] 33)) W → Keeps (fun i => i = p ∨ (Value.slice A P.length c).ownBlock = some i) W w' → Blk w' (w.heap.size + 1) 33 [.nilIface]) := Lib.hid fun W w' hW hk =>
    hk.blk (hW.blk HB.out.1.2 (fun h => h)) (fun e => by
      rcases e with e | e
      · omega
      · have := hol _ e; omega)
  clear hrow hol
  go_enter_defers Tryz.func28, Tryz.ntmps28
  go_wp2_with (first
    | ((with_reducible show wpList _ _ _ (⟨some 8, _, _, _, _, _⟩ :: _) _ _); refine wpList_load_whole rfl 44 _ rfl _ rfl HB.out.1.1 Tryz.underlying44 rfl HSI.out ?_)
    | (go_at_call 50; refine (HU.out _).mono ?_; rintro e w2 ⟨rfl, hk2⟩; have HK2 := Lib.hid hk2; have hbs := hk2.blk HB.out.1.1 (fun h => h); have s0 := (hbs.cell 0).trans HC0.out; have s1 := (hbs.cell 1).trans HC1.out; clear hk2 hbs)
    | (go_at_call 49; refine (refuse_ok _ _).mono ?_; rintro e w3 ⟨he, rfl⟩; subst he)
    | (go_at_call 51; refine (HP.out _ (HB.out.2.trans HK2.out (fun _ _ h => h))).mono ?_; rintro e w4 ⟨rfl, hr4⟩; have hbe := HEB.out _ _ HK2.out hr4.2; have HR4 := Lib.hid hr4; have HBE := Lib.hid hbe; have c0 := hbe.cell 0; have f0 := hbe.frozen 0; clear hr4 hbe))
  rw [set_same HBE.out]
  refine leaves_cons (f := 48) (args := #[.pointer (some ⟨w.heap.size + 1, 0, none⟩)]) (by simp) (by simp [go_sem]) ?_
  refine (do_idle ⟨w.heap.size + 1, 0, none⟩ _).mono ?_
  rintro e u' w'' ⟨rfl, rfl, rfl⟩
  refine ⟨_, results_err rfl _ _ _ _ rfl HBE.out, ?_⟩
  have hd : doF P s = .inr (P ++ [JV.null]) := do_scalar P s (JV.null) hu (by omega) (by simp [mkV, hs]) trivial (by simp [JV.within, JV.nodes, JV.bytes, JV.deep])
  unfold DoPost
  rw [hd]
  exact ⟨rfl, HR4.out.1, ((HB.out.2.trans HK2.out (fun _ _ h => h)).mono (fun _ _ h => h.elim)).trans HR4.out.2 (fun _ _ h => h)⟩
set_option maxHeartbeats 4000000 in
set_option maxRecDepth 100000 in
theorem do_flag (T : TypeId) (D : Nat → Prop) (w : World) (p : Nat) (A : Option Addr) (c : Nat) (vs : List Value) (P : List JV) (h : RowAt T D w p A c vs P) (hn : P.length ≤ 1048576) (s : StepV) (B : Option Addr) (d : Nat) (hu : usedF s = true) (hs : s.sort = 2) :
    Calls Tryz.prog 28 #[.pointer (some ⟨p, 0, none⟩), .agg (stepV s B d).toArray] w (DoPost T D w p (.slice A P.length c) P s) := by
  obtain ⟨SV, hSV⟩ : ∃ SV, SV = stepV s B d := ⟨_, rfl⟩
  have HC0 : Hid (SV[0]? = some (.int .i64 2)) := Lib.hid (by rw [hSV, ← hs]; rfl)
  have HC1 : Hid (SV[1]? = some (.bool s.flag)) := Lib.hid (by rw [hSV]; rfl)
  have HU : Hid (∀ W, Calls Tryz.prog 50 #[.agg SV.toArray] W fun e w' => e = .returned (.bool true) ∧ Keeps (fun _ => False) W w') := Lib.hid fun W => by
    have := used_any W s B d
    rw [hu, ← hSV] at this
    exact this
  have HSL : Hid (SV.length = 6) := Lib.hid (by rw [hSV]; rfl)
  have HSI : Hid ((Tryz.prog.info? 44).map (·.size) = some SV.length) := Lib.hid (by rw [HSL.out]; kernel_rfl)
  have HR := Lib.hid h
  have hb1 := (Blk.new w 44 SV).alloc (.cells #[.nilIface] 33)
  have hb2 := Blk.new (w.alloc (.cells SV.toArray 44)) 33 [.nilIface]
  rw [World.size_alloc] at hb2
  have HB := Lib.hid (And.intro (And.intro hb1 hb2) (((Keeps.refl (fun _ => False) w).alloc (.cells SV.toArray 44)).alloc (.cells #[.nilIface] 33)))
  have hmf : ∀ (fn : Fn) (first cap : Array Value) (w : World), (Instr.makeFunc fn first cap).run Tryz.prog w = .ok (.func fn first cap) w := fun _ _ _ _ => rfl
  have hlt := h.blk.lt
  rw [← hSV]
  clear h hb1 hb2 hSV
  have HP : Hid (∀ W, Keeps (fun _ => False) w W → Calls Tryz.prog 51 #[.pointer (some ⟨p, 0, none⟩), .iface 117 (.bool s.flag)] W fun e w' => e = .returned (.tuple #[]) ∧ RowPost T D W p (.slice A P.length c) (P ++ [JV.flag s.flag]) w') := Lib.hid fun W hW =>
    put_flag T D W p A c vs P (HR.out.stay hW) hn s.flag (.flag _) true (by decide)
  have hrow := HR.out.ne_own
  have hol : ∀ g, (Value.slice A P.length c).ownBlock = some g → g < w.heap.size := fun g hg => (HR.out.own.lt g hg).2
  have HEB : Hid (∀ W w', Keeps (fun _ => False) ((w.alloc (.cells SV.toArray 44)).alloc (.cells #[.nilIface] 33)) W → Keeps (fun i => i = p ∨ (Value.slice A P.length c).ownBlock = some i) W w' → Blk w' (w.heap.size + 1) 33 [.nilIface]) := Lib.hid fun W w' hW hk =>
    hk.blk (hW.blk HB.out.1.2 (fun h => h)) (fun e => by
      rcases e with e | e
      · omega
      · have := hol _ e; omega)
  clear hrow hol
  go_enter_defers Tryz.func28, Tryz.ntmps28
  go_wp2_with (first
    | ((with_reducible show wpList _ _ _ (⟨some 8, _, _, _, _, _⟩ :: _) _ _); refine wpList_load_whole rfl 44 _ rfl _ rfl HB.out.1.1 Tryz.underlying44 rfl HSI.out ?_)
    | (go_at_call 50; refine (HU.out _).mono ?_; rintro e w2 ⟨rfl, hk2⟩; have HK2 := Lib.hid hk2; have hbs := hk2.blk HB.out.1.1 (fun h => h); have s0 := (hbs.cell 0).trans HC0.out; have s1 := (hbs.cell 1).trans HC1.out; clear hk2 hbs)
    | (go_at_call 49; refine (refuse_ok _ _).mono ?_; rintro e w3 ⟨he, rfl⟩; subst he)
    | (go_at_call 51; refine (HP.out _ (HB.out.2.trans HK2.out (fun _ _ h => h))).mono ?_; rintro e w4 ⟨rfl, hr4⟩; have hbe := HEB.out _ _ HK2.out hr4.2; have HR4 := Lib.hid hr4; have HBE := Lib.hid hbe; have c0 := hbe.cell 0; have f0 := hbe.frozen 0; clear hr4 hbe))
  rw [set_same HBE.out]
  refine leaves_cons (f := 48) (args := #[.pointer (some ⟨w.heap.size + 1, 0, none⟩)]) (by simp) (by simp [go_sem]) ?_
  refine (do_idle ⟨w.heap.size + 1, 0, none⟩ _).mono ?_
  rintro e u' w'' ⟨rfl, rfl, rfl⟩
  refine ⟨_, results_err rfl _ _ _ _ rfl HBE.out, ?_⟩
  have hd : doF P s = .inr (P ++ [JV.flag s.flag]) := do_scalar P s (JV.flag s.flag) hu (by omega) (by simp [mkV, hs]) trivial (by simp [JV.within, JV.nodes, JV.bytes, JV.deep])
  unfold DoPost
  rw [hd]
  exact ⟨rfl, HR4.out.1, ((HB.out.2.trans HK2.out (fun _ _ h => h)).mono (fun _ _ h => h.elim)).trans HR4.out.2 (fun _ _ h => h)⟩
end Go.Proofs.YtdmcioghdindfaaGreat

set_option linter.unusedSimpArgs false
namespace Go.Proofs.YtdmcioghdindfaaGreat
open Go Go.RowKit Go.Aff Go.Json Go.Shelf
/-- A function that can be called. -/
def Ent (f : FuncId) : Prop := ∀ args w, (callFunc f args).run Tryz.prog w = .ok (.enter f args) w
theorem method_list (b : Nat) (w : World) : (Go.method 332 126 (.pointer (some ⟨b, 0, none⟩)) "affidavit/node.sized").run Tryz.prog w = ((do let v ← loadVar 128 ⟨b, 0, none⟩; pure (151, v)) : Sem (FuncId × Value)).run Tryz.prog w := by kernel_rfl
theorem methodS_list (b : Nat) (w : World) : (Go.method 332 126 (.pointer (some ⟨b, 0, none⟩)) "affidavit/node.sort").run Tryz.prog w = .ok (152, .pointer (some ⟨b, 0, none⟩)) w := by kernel_rfl
theorem method_object (b : Nat) (w : World) : (Go.method 332 160 (.pointer (some ⟨b, 0, none⟩)) "affidavit/node.sized").run Tryz.prog w = ((do let v ← loadVar 128 ⟨b, 0, none⟩; pure (151, v)) : Sem (FuncId × Value)).run Tryz.prog w := by kernel_rfl
theorem methodS_object (b : Nat) (w : World) : (Go.method 332 160 (.pointer (some ⟨b, 0, none⟩)) "affidavit/node.sort").run Tryz.prog w = .ok (153, .pointer (some ⟨b, 0, none⟩)) w := by kernel_rfl
theorem run_bound {P : Program} {w : World} {m : Sem Value} {v : Value} (f : FuncId) (h : m.run P w = .ok v w) : ((do let v ← m; pure (f, v)) : Sem (FuncId × Value)).run P w = .ok (f, v) w := by simp [go_sem, h]
theorem load_size (w : World) (b : Nat) (t : TypeId) (cs : List Value) (x y z : Value) (h : Blk w b t ([x, y, z] ++ cs)) : (loadVar 128 ⟨b, 0, none⟩).run Tryz.prog w = .ok (.agg #[x, y, z]) w := by
  have h1 := run_loadVar_at (P := Tryz.prog) 128 0 3 _ h (by simp) Tryz.underlying128 rfl (by kernel_rfl)
  exact h1
set_option maxRecDepth 100000 in
theorem sized_size (w : World) (n b d : Int) : Calls Tryz.prog 151 #[.agg #[.int .i64 n, .int .i64 b, .int .i64 d]] w fun e w' => e = .returned (.agg #[.int .i64 n, .int .i64 b, .int .i64 d]) ∧ Keeps (fun _ => False) w w' := by
  have hb0 := Blk.new w 128 [.int .i64 n, .int .i64 b, .int .i64 d]
  have hl := load_size (w.alloc (.cells #[.int .i64 n, .int .i64 b, .int .i64 d] 128) |>.alloc (.cells #[.int .i64 0, .int .i64 0, .int .i64 0] 128)) w.heap.size 128 [] (.int .i64 n) (.int .i64 b) (.int .i64 d) (hb0.alloc _)
  have hb := Blk.new (w.alloc (.cells #[.int .i64 n, .int .i64 b, .int .i64 d] 128)) 128 [.int .i64 0, .int .i64 0, .int .i64 0]
  rw [World.size_alloc] at hb
  have f0 := hb.frozen 0
  have f1 := hb.frozen 1
  have f2 := hb.frozen 2
  have c0 := (hb0.alloc (.cells #[.int .i64 0, .int .i64 0, .int .i64 0] 128)).cell 0
  have c1 := (hb0.alloc (.cells #[.int .i64 0, .int .i64 0, .int .i64 0] 128)).cell 1
  have c2 := (hb0.alloc (.cells #[.int .i64 0, .int .i64 0, .int .i64 0] 128)).cell 2
  have HR := Blk.new (w.alloc (.cells #[.int .i64 n, .int .i64 b, .int .i64 d] 128)) 128 [.int .i64 n, .int .i64 b, .int .i64 d]
  rw [World.size_alloc] at HR
  replace HR := Lib.hid HR
  have HK := Lib.hid (((Keeps.refl (fun _ => False) w).alloc (.cells #[.int .i64 n, .int .i64 b, .int .i64 d] 128)).alloc (.cells #[.int .i64 n, .int .i64 b, .int .i64 d] 128))
  clear hb hb0
  go_enter Tryz.func151, Tryz.ntmps151
  go_wp2
  exact bodyPost_ret (results_blk rfl _ _ rfl HR.out Tryz.underlying128 rfl (by kernel_rfl)) rfl ⟨rfl, HK.out⟩
set_option maxRecDepth 100000 in
theorem sort_list (w : World) (p : Value) : Calls Tryz.prog 152 #[p] w fun e w' => e = .returned (.int .i64 5) ∧ Keeps (fun _ => False) w w' := by
  go_enter Tryz.func152, Tryz.ntmps152
  go_wp2
  go_ret
  exact ⟨rfl, Keeps.refl _ _⟩
set_option maxRecDepth 100000 in
theorem sort_object (w : World) (p : Value) : Calls Tryz.prog 153 #[p] w fun e w' => e = .returned (.int .i64 6) ∧ Keeps (fun _ => False) w w' := by
  go_enter Tryz.func153, Tryz.ntmps153
  go_wp2
  go_ret
  exact ⟨rfl, Keeps.refl _ _⟩
/-- The sizes that a value bears: the method that tells them. -/
theorem sized_inv {D : Nat → Prop} {w : World} {v : Value} {j : JV} (h : JAt D w v j) : ∃ T x f u, v = .iface T x ∧ (∀ W, Keeps (fun _ => False) w W → (Go.method 332 T x "affidavit/node.sized").run Tryz.prog W = .ok (f, u) W) ∧ Ent f ∧
    ∀ W, Calls Tryz.prog f #[u] W fun e w' => e = .returned (.agg (sizeV j).toArray) ∧ Keeps (fun _ => False) W w' := by
  cases h with
  | null => exact ⟨_, _, _, _, rfl, fun W _ => method_null _ W, enters_of Tryz.func143 (by kernel_rfl) rfl, fun W => by
      simpa [sizeV, JV.nodes, JV.bytes, JV.deep] using sized_null W⟩
  | flag b => exact ⟨_, _, _, _, rfl, fun W _ => method_flag _ W, enters_of Tryz.func145 (by kernel_rfl) rfl, fun W => by
      simpa [sizeV, JV.nodes, JV.bytes, JV.deep] using sized_flag W b⟩
  | num b => exact ⟨_, _, _, _, rfl, fun W _ => method_number _ W, enters_of Tryz.func147 (by kernel_rfl) rfl, fun W => by
      simpa [sizeV, JV.nodes, JV.bytes, JV.deep] using sized_number W b⟩
  | text s => exact ⟨_, _, _, _, rfl, fun W _ => method_text _ W, enters_of Tryz.func149 (by kernel_rfl) rfl, fun W => by
      simpa [sizeV, JV.nodes, JV.bytes, JV.deep] using sized_text W s⟩
  | list hD hb hr ho hl => exact ⟨_, _, _, _, rfl, fun W hW => (method_list _ W).trans (run_bound _ (load_size W _ _ _ _ _ _ (hW.blk hb (fun h => h)))), enters_of Tryz.func151 (by kernel_rfl) rfl, fun W => sized_size W _ _ _⟩
  | obj hD hb hk hok hr ho hl => exact ⟨_, _, _, _, rfl, fun W hW => (method_object _ W).trans (run_bound _ (load_size W _ _ _ _ _ _ (hW.blk hb (fun h => h)))), enters_of Tryz.func151 (by kernel_rfl) rfl, fun W => sized_size W _ _ _⟩
/-- The sort: the method that tells it. -/
theorem sort_inv {D : Nat → Prop} {w : World} {v : Value} {j : JV} (h : JAt D w v j) : ∃ T x f u, v = .iface T x ∧ (∀ W, (Go.method 332 T x "affidavit/node.sort").run Tryz.prog W = .ok (f, u) W) ∧ Ent f ∧
    ∀ W, Calls Tryz.prog f #[u] W fun e w' => e = .returned (.int .i64 j.sort) ∧ Keeps (fun _ => False) W w' := by
  cases h with
  | null => exact ⟨_, _, _, _, rfl, fun W => methodS_null _ W, enters_of Tryz.func144 (by kernel_rfl) rfl, fun W => sort_null W⟩
  | flag b => exact ⟨_, _, _, _, rfl, fun W => methodS_flag _ W, enters_of Tryz.func146 (by kernel_rfl) rfl, fun W => sort_flag W b⟩
  | num b => exact ⟨_, _, _, _, rfl, fun W => methodS_number _ W, enters_of Tryz.func148 (by kernel_rfl) rfl, fun W => sort_number W b⟩
  | text s => exact ⟨_, _, _, _, rfl, fun W => methodS_text _ W, enters_of Tryz.func150 (by kernel_rfl) rfl, fun W => sort_text W s⟩
  | list => exact ⟨_, _, _, _, rfl, fun W => methodS_list _ W, enters_of Tryz.func152 (by kernel_rfl) rfl, fun W => sort_list W _⟩
  | obj => exact ⟨_, _, _, _, rfl, fun W => methodS_object _ W, enters_of Tryz.func153 (by kernel_rfl) rfl, fun W => sort_object W _⟩
set_option maxRecDepth 100000 in
theorem refsort_any {D : Nat → Prop} {w : World} {v : Value} {j : JV} (h : JAt D w v j) (W : World) : Calls Tryz.prog 33 #[.agg #[v]] W fun e w' => e = .returned (.int .i64 j.sort) ∧ Keeps (fun _ => False) W w' := by
  obtain ⟨T, x, f, u, rfl, hm, he, hc⟩ := sort_inv h
  have c0 := (Blk.new W 60 [.iface T x]).cell 0
  have HC := Lib.hid (hc (W.alloc (.cells #[.iface T x] 60)))
  have HK := Lib.hid ((Keeps.refl (fun _ => False) W).alloc (.cells #[.iface T x] 60))
  unfold Ent at he
  clear hc h
  go_enter Tryz.func33, Tryz.ntmps33
  go_wp2_with (go_at_fn f; refine HC.out.mono ?_; rintro e w2 ⟨rfl, hk2⟩; have HK2 := Lib.hid hk2; clear hk2)
  go_ret
  exact ⟨rfl, HK.out.trans HK2.out (fun _ _ h => h)⟩
set_option maxRecDepth 100000 in
theorem refsort_nil (W : World) : Calls Tryz.prog 33 #[.agg #[.nilIface]] W fun e w' => e = .returned (.int .i64 0) ∧ Keeps (fun _ => False) W w' := by
  have c0 := (Blk.new W 60 [.nilIface]).cell 0
  have HK := Lib.hid ((Keeps.refl (fun _ => False) W).alloc (.cells #[.nilIface] 60))
  go_enter Tryz.func33, Tryz.ntmps33
  go_wp2
  go_ret
  exact ⟨rfl, HK.out⟩
/-- The values within. -/
structure Items (D : Nat → Prop) (w : World) (j : JV) (A : Option Addr) (vs : List Value) : Prop where
  rd : Rd w A j.items.length vs
  inb : InB D A j.items.length
  at_ : ∀ (i : Nat) (v : Value) (x : JV), vs[i]? = some v → j.items[i]? = some x → JAt D w v x
theorem Items.none (D : Nat → Prop) (w : World) (j : JV) (h : j.items = []) : Items D w j none [] := ⟨by rw [h]; exact Rd.nil _ _, by rw [h]; exact InB.zero _ _, fun i v x hv => by cases hv⟩
set_option maxRecDepth 100000 in
set_option maxHeartbeats 1000000 in
theorem items_inv {D : Nat → Prop} {w : World} {v : Value} {j : JV} (h : JAt D w v j) : ∃ A c vs, Items D w j A vs ∧ ∀ W, Keeps (fun _ => False) w W → Calls Tryz.prog 61 #[.agg #[v]] W fun e w' => e = .returned (.slice A j.items.length c) ∧ Keeps (fun _ => False) W w' := by
  cases h with
  | null =>
    refine ⟨none, 0, [], Items.none _ _ _ rfl, fun W _ => ?_⟩
    show Calls _ _ _ _ fun e w' => e = .returned (.slice none 0 0) ∧ _
    have c0 := (Blk.new W 60 [.iface 116 (.agg #[])]).cell 0
    have HK := Lib.hid ((Keeps.refl (fun _ => False) W).alloc (.cells #[.iface 116 (.agg #[])] 60))
    have as1 := as_null_list
    have as2 := as_null_obj
    go_enter Tryz.func61, Tryz.ntmps61
    go_wp2
    go_ret
    exact ⟨rfl, HK.out⟩
  | flag b =>
    refine ⟨none, 0, [], Items.none _ _ _ rfl, fun W _ => ?_⟩
    show Calls _ _ _ _ fun e w' => e = .returned (.slice none 0 0) ∧ _
    have c0 := (Blk.new W 60 [.iface 117 (.bool b)]).cell 0
    have HK := Lib.hid ((Keeps.refl (fun _ => False) W).alloc (.cells #[.iface 117 (.bool b)] 60))
    have as1 := as_flag_list
    have as2 := as_flag_obj
    go_enter Tryz.func61, Tryz.ntmps61
    go_wp2
    go_ret
    exact ⟨rfl, HK.out⟩
  | num b hf hz hlt =>
    refine ⟨none, 0, [], Items.none _ _ _ rfl, fun W _ => ?_⟩
    show Calls _ _ _ _ fun e w' => e = .returned (.slice none 0 0) ∧ _
    have c0 := (Blk.new W 60 [.iface 122 (.float .f64 b)]).cell 0
    have HK := Lib.hid ((Keeps.refl (fun _ => False) W).alloc (.cells #[.iface 122 (.float .f64 b)] 60))
    have as1 := as_num_list
    have as2 := as_num_obj
    go_enter Tryz.func61, Tryz.ntmps61
    go_wp2
    go_ret
    exact ⟨rfl, HK.out⟩
  | text s =>
    refine ⟨none, 0, [], Items.none _ _ _ rfl, fun W _ => ?_⟩
    show Calls _ _ _ _ fun e w' => e = .returned (.slice none 0 0) ∧ _
    have c0 := (Blk.new W 60 [.iface 123 (.string s)]).cell 0
    have HK := Lib.hid ((Keeps.refl (fun _ => False) W).alloc (.cells #[.iface 123 (.string s)] 60))
    have as1 := as_text_list
    have as2 := as_text_obj
    go_enter Tryz.func61, Tryz.ntmps61
    go_wp2
    go_ret
    exact ⟨rfl, HK.out⟩
  | @list b A c vs l hD hb hr ho hl =>
    obtain ⟨n, hn⟩ : ∃ n, n = l.length := ⟨_, rfl⟩
    refine ⟨A, c, vs, ⟨hr, ho, hl⟩, fun W hW => ?_⟩
    have hbW := hW.blk hb (fun h => h)
    have d3 : (W.alloc (.cells #[.iface 126 (.pointer (some ⟨b, 0, none⟩))] 60)).cell? ⟨b, 3, none⟩ = some (.slice A l.length c) := (hbW.alloc _).cell 3
    show Calls _ _ _ _ fun e w' => e = .returned (.slice A l.length c) ∧ _
    rw [← hn] at d3 ⊢
    clear hb hr ho hl hbW hn
    have c0 := (Blk.new W 60 [.iface 126 (.pointer (some ⟨b, 0, none⟩))]).cell 0
    have HK := Lib.hid ((Keeps.refl (fun _ => False) W).alloc (.cells #[.iface 126 (.pointer (some ⟨b, 0, none⟩))] 60))
    have as1 := as_list_list
    go_enter Tryz.func61, Tryz.ntmps61
    go_wp2
    go_ret
    exact ⟨rfl, HK.out⟩
  | @obj b A B c d vs ks l hD hb hk hok hr ho hl =>
    obtain ⟨n, hn⟩ : ∃ n, n = l.length := ⟨_, rfl⟩
    refine ⟨A, c, vs, ⟨hr, ho, hl⟩, fun W hW => ?_⟩
    have hbW := hW.blk hb (fun h => h)
    have d4 : (W.alloc (.cells #[.iface 160 (.pointer (some ⟨b, 0, none⟩))] 60)).cell? ⟨b, 4, none⟩ = some (.slice A l.length c) := (hbW.alloc _).cell 4
    show Calls _ _ _ _ fun e w' => e = .returned (.slice A l.length c) ∧ _
    rw [← hn] at d4 ⊢
    clear hb hk hok hr ho hl hbW hn
    have c0 := (Blk.new W 60 [.iface 160 (.pointer (some ⟨b, 0, none⟩))]).cell 0
    have HK := Lib.hid ((Keeps.refl (fun _ => False) W).alloc (.cells #[.iface 160 (.pointer (some ⟨b, 0, none⟩))] 60))
    have as1 := as_obj_list
    have as2 := as_obj_obj
    go_enter Tryz.func61, Tryz.ntmps61
    go_wp2
    go_ret
    exact ⟨rfl, HK.out⟩
set_option maxRecDepth 100000 in
set_option maxHeartbeats 1000000 in
theorem keys_inv {D : Nat → Prop} {w : World} {v : Value} {j : JV} (h : JAt D w v j) : ∃ A c, Rd w A j.keys.length (j.keys.map .string) ∧ InB D A j.keys.length ∧ ∀ W, Keeps (fun _ => False) w W → Calls Tryz.prog 76 #[.agg #[v]] W fun e w' => e = .returned (.slice A j.keys.length c) ∧ Keeps (fun _ => False) W w' := by
  cases h with
  | null =>
    refine ⟨none, 0, Rd.nil _ _, InB.zero _ _, fun W _ => ?_⟩
    show Calls _ _ _ _ fun e w' => e = .returned (.slice none 0 0) ∧ _
    have c0 := (Blk.new W 60 [.iface 116 (.agg #[])]).cell 0
    have HK := Lib.hid ((Keeps.refl (fun _ => False) W).alloc (.cells #[.iface 116 (.agg #[])] 60))
    have as2 := as_null_obj
    go_enter Tryz.func76, Tryz.ntmps76
    go_wp2
    go_ret
    exact ⟨rfl, HK.out⟩
  | flag b =>
    refine ⟨none, 0, Rd.nil _ _, InB.zero _ _, fun W _ => ?_⟩
    show Calls _ _ _ _ fun e w' => e = .returned (.slice none 0 0) ∧ _
    have c0 := (Blk.new W 60 [.iface 117 (.bool b)]).cell 0
    have HK := Lib.hid ((Keeps.refl (fun _ => False) W).alloc (.cells #[.iface 117 (.bool b)] 60))
    have as2 := as_flag_obj
    go_enter Tryz.func76, Tryz.ntmps76
    go_wp2
    go_ret
    exact ⟨rfl, HK.out⟩
  | num b hf hz hlt =>
    refine ⟨none, 0, Rd.nil _ _, InB.zero _ _, fun W _ => ?_⟩
    show Calls _ _ _ _ fun e w' => e = .returned (.slice none 0 0) ∧ _
    have c0 := (Blk.new W 60 [.iface 122 (.float .f64 b)]).cell 0
    have HK := Lib.hid ((Keeps.refl (fun _ => False) W).alloc (.cells #[.iface 122 (.float .f64 b)] 60))
    have as2 := as_num_obj
    go_enter Tryz.func76, Tryz.ntmps76
    go_wp2
    go_ret
    exact ⟨rfl, HK.out⟩
  | text s =>
    refine ⟨none, 0, Rd.nil _ _, InB.zero _ _, fun W _ => ?_⟩
    show Calls _ _ _ _ fun e w' => e = .returned (.slice none 0 0) ∧ _
    have c0 := (Blk.new W 60 [.iface 123 (.string s)]).cell 0
    have HK := Lib.hid ((Keeps.refl (fun _ => False) W).alloc (.cells #[.iface 123 (.string s)] 60))
    have as2 := as_text_obj
    go_enter Tryz.func76, Tryz.ntmps76
    go_wp2
    go_ret
    exact ⟨rfl, HK.out⟩
  | @list b A c vs l hD hb hr ho hl =>
    refine ⟨none, 0, Rd.nil _ _, InB.zero _ _, fun W _ => ?_⟩
    show Calls _ _ _ _ fun e w' => e = .returned (.slice none 0 0) ∧ _
    clear hb hr ho hl
    have c0 := (Blk.new W 60 [.iface 126 (.pointer (some ⟨b, 0, none⟩))]).cell 0
    have HK := Lib.hid ((Keeps.refl (fun _ => False) W).alloc (.cells #[.iface 126 (.pointer (some ⟨b, 0, none⟩))] 60))
    have as2 := as_list_obj
    go_enter Tryz.func76, Tryz.ntmps76
    go_wp2
    go_ret
    exact ⟨rfl, HK.out⟩
  | @obj b A B c d vs ks l hD hb hk hok hr ho hl =>
    obtain ⟨n, hn⟩ : ∃ n, n = ks.length := ⟨_, rfl⟩
    refine ⟨B, d, hk, hok, fun W hW => ?_⟩
    have hbW := hW.blk hb (fun h => h)
    have d3 : (W.alloc (.cells #[.iface 160 (.pointer (some ⟨b, 0, none⟩))] 60)).cell? ⟨b, 3, none⟩ = some (.slice B ks.length d) := (hbW.alloc _).cell 3
    show Calls _ _ _ _ fun e w' => e = .returned (.slice B ks.length d) ∧ _
    rw [← hn] at d3 ⊢
    clear hb hk hok hr ho hl hbW hn
    have c0 := (Blk.new W 60 [.iface 160 (.pointer (some ⟨b, 0, none⟩))]).cell 0
    have HK := Lib.hid ((Keeps.refl (fun _ => False) W).alloc (.cells #[.iface 160 (.pointer (some ⟨b, 0, none⟩))] 60))
    have as2 := as_obj_obj
    go_enter Tryz.func76, Tryz.ntmps76
    go_wp2
    go_ret
    exact ⟨rfl, HK.out⟩
end Go.Proofs.YtdmcioghdindfaaGreat

set_option linter.unusedSimpArgs false
namespace Go.Proofs.YtdmcioghdindfaaGreat
open Go Go.RowKit Go.Aff Go.Json Go.Shelf
theorem infoStr : (Tryz.prog.info? 9).map (fun i => (i.zero, i.size, i.bytes)) = some (some (.string ⟨#[]⟩), 1, 16) := by kernel_rfl
theorem mine_none (w : World) (e : TypeId) : Mine w w e none 0 0 [] := ⟨World.ownsRow_nil _ _ _ _, Keeps.refl _ _, fun g h => by cases h⟩
set_option maxHeartbeats 1000000 in
set_option maxRecDepth 100000 in
theorem iclone_any (w : World) (A : Option Addr) (n c : Nat) (vs : List Value) (hr : Rd w A n vs) (h1 : ∀ u ∈ vs, u.oneCell' = true) (hn : n ≤ 1099511627776) :
    Calls Tryz.prog 74 #[.slice A n c] w fun e w' => ∃ A' c', e = .returned (.slice A' n c') ∧ Mine w w' 58 A' n c' vs := by
  cases A with
  | none =>
    have hz : n = 0 := by
      rcases Nat.eq_zero_or_pos n with h | h
      · exact h
      · obtain ⟨g, o, e, _⟩ := hr.2 h
        cases e
    subst hz
    have hv : vs = [] := List.length_eq_zero_iff.1 hr.1
    subst hv
    clear hr h1
    have hnil := fun wx => Lib.run_eql_slice_nil (P := Tryz.prog) wx 72 58 none 0 c 0 0 Tryz.underlying72
    go_enter Tryz.func74, Tryz.ntmps74
    go_wp2
    go_ret
    exact ⟨none, 0, rfl, mine_none w _⟩
  | some a =>
    have HM := Lib.hid (Mine.built w w 58 0 [] (Keeps.refl _ w) rfl (by unfold maxLen; omega))
    have HR := Lib.hid (hr.alloc (.cells #[] 58))
    have H1 := Lib.hid h1
    clear hr h1
    have hnil := fun wx => Lib.run_eql_slice_nil (P := Tryz.prog) wx 72 58 (some a) n c 0 0 Tryz.underlying72
    go_enter Tryz.func74, Tryz.ntmps74
    go_wp2_with (at_builtin; refine wpList_append_rd _ rfl (.tmp 5) (.tmp 6) 72 rfl 58 .nilIface 16 Tryz.underlying72 infoIt rfl _ 0 [] rfl HM.out.1 (some a) n c vs rfl HR.out H1.out (by unfold maxLen; omega) (by omega) ?_; intro A' c' w' hown hg hb; have HM2 := Lib.hid (HM.out.app0 hown hg hb); clear hown hg hb)
    go_ret
    have hm := HM2.out
    rw [List.nil_append, Nat.zero_add] at hm
    exact ⟨A', c', rfl, hm⟩
set_option maxHeartbeats 1000000 in
set_option maxRecDepth 100000 in
theorem sclone_any (w : World) (A : Option Addr) (n c : Nat) (vs : List Value) (hr : Rd w A n vs) (h1 : ∀ u ∈ vs, u.oneCell' = true) (hn : n ≤ 1099511627776) :
    Calls Tryz.prog 75 #[.slice A n c] w fun e w' => ∃ A' c', e = .returned (.slice A' n c') ∧ Mine w w' 9 A' n c' vs := by
  cases A with
  | none =>
    have hz : n = 0 := by
      rcases Nat.eq_zero_or_pos n with h | h
      · exact h
      · obtain ⟨g, o, e, _⟩ := hr.2 h
        cases e
    subst hz
    have hv : vs = [] := List.length_eq_zero_iff.1 hr.1
    subst hv
    clear hr h1
    have hnil := fun wx => Lib.run_eql_slice_nil (P := Tryz.prog) wx 27 9 none 0 c 0 0 Tryz.underlying27
    go_enter Tryz.func75, Tryz.ntmps75
    go_wp2
    go_ret
    exact ⟨none, 0, rfl, mine_none w _⟩
  | some a =>
    have HM := Lib.hid (Mine.built w w 9 0 [] (Keeps.refl _ w) rfl (by unfold maxLen; omega))
    have HR := Lib.hid (hr.alloc (.cells #[] 9))
    have H1 := Lib.hid h1
    clear hr h1
    have hnil := fun wx => Lib.run_eql_slice_nil (P := Tryz.prog) wx 27 9 (some a) n c 0 0 Tryz.underlying27
    go_enter Tryz.func75, Tryz.ntmps75
    go_wp2_with (at_builtin; refine wpList_append_rd _ rfl (.tmp 5) (.tmp 6) 27 rfl 9 (.string ⟨#[]⟩) 16 Tryz.underlying27 infoStr rfl _ 0 [] rfl HM.out.1 (some a) n c vs rfl HR.out H1.out (by unfold maxLen; omega) (by omega) ?_; intro A' c' w' hown hg hb; have HM2 := Lib.hid (HM.out.app0 hown hg hb); clear hown hg hb)
    go_ret
    have hm := HM2.out
    rw [List.nil_append, Nat.zero_add] at hm
    exact ⟨A', c', rfl, hm⟩
end Go.Proofs.YtdmcioghdindfaaGreat
