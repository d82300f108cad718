/- Texts. -/
import Derived.Test.YtdmcioghdindfaaGreatDoorL05
import Derived.Shelf.Abstract
set_option linter.unusedSimpArgs false
set_option maxRecDepth 100000
set_option maxHeartbeats 4000000
namespace Go.Proofs.YtdmcioghdindfaaGreatDoor
open Go Go.RowKit Go.Aff Go.Json
theorem do_catch (r : Nat) (k : Int) (older : List PanicEntry) (w : World) (hb : Blk w r 35 [.nilIface]) :
  CallsD Tryz.prog 75 #[.pointer (some ⟨r, 0, none⟩)] (.panicking ({ v := .iface 42 (.int .i64 k), recovered := false } :: older)) w fun e u' w' =>
   e = .returned (.tuple #[]) ∧ u' = .panicking ({ v := .iface 42 (.int .i64 k), recovered := true } :: older) ∧ Blk w' r 35 [.iface 42 (.int .i64 k)] ∧ Keeps (fun i => i = r) w w' := by
 have c0 := hb.cell 0
 have f0 := hb.frozen 0
 have ht := rec_errno (.int .i64 k)
 refine callsD_of_wpS Tryz.func75 rfl fun c₀ cs hu => ?_
 apply wpS_seq
 apply wpS_region
 simp [wpOpsS, go_sem, recoverD, hu, Tryz.ntmps75, Exit.thenS]
 apply wpS_seq
 apply wpS_region
 simp [wpOpsS, go_sem, recoverD, hu, Exit.thenS]
 refine wpS_cond (t := true) (by simp [Act.eval, Array.replicate]) ?_
 simp only [if_true]
 apply wpS_region
 simp [wpOpsS, go_sem, ht, c0, f0, bodyPostS, results, Tryz.results75]
 exact ⟨hb.set_ 0 _, (Keeps.refl (fun i => i = r) w).setCell (p := ⟨r, 0, none⟩) (.inl rfl) _⟩
theorem do_idle (p : Addr) (w : World) :
  CallsD Tryz.prog 75 #[.pointer (some p)] .returning w fun e u' w' => e = .returned (.tuple #[]) ∧ u' = .returning ∧ w' = w := by
 refine callsD_of_wpS Tryz.func75 rfl fun c₀ cs hu => ?_
 apply wpS_seq
 apply wpS_region
 simp [wpOpsS, go_sem, recoverD, hu, Tryz.ntmps75, Exit.thenS]
 apply wpS_seq
 apply wpS_region
 simp [wpOpsS, go_sem, recoverD, hu, Exit.thenS]
 refine wpS_cond (t := false) (by simp [Act.eval, Array.replicate]) ?_
 simp only [Bool.false_eq_true, if_false]
 refine wpS_of_wp (wp_skip ?_)
 cases c₀
 simp_all [bodyPostS, results, Tryz.results75]
theorem set_same {w : World} {g : Nat} {t : TypeId} {v : Value} (h : Blk w g t [v]) : w.setCell ⟨g, 0, none⟩ v = w := by
 have hh : (w.setCell ⟨g, 0, none⟩ v).heap = w.heap := by
  apply Array.ext_getElem?
  intro i
  by_cases e : i = g
  ·subst e
   have h1 : (w.setCell ⟨i, 0, none⟩ v).heap[i]? = _ := h.set_ 0 v
   have h2 : w.heap[i]? = _ := h
   rw [h1, h2]
   rfl
  exact Below.heap_setCell w ⟨g, 0, none⟩ v i e
 have e : w.setCell ⟨g, 0, none⟩ v = { w with heap := (w.setCell ⟨g, 0, none⟩ v).heap } := rfl
 rw [e, hh]
theorem results_err {fn : Func} {p : Tmp} (h : fn.results = #[.cell p 35]) (tmps : Array Value) (w : World) (g : Nat) (v : Value) (hp : tmps.getD p undef = .pointer (some ⟨g, 0, none⟩)) (hb : Blk w g 35 [v]) : (results fn tmps).run Tryz.prog w = .ok v w := by
 have c0 := hb.cell 0
 have hp' : tmps[p]?.getD undef = .pointer (some ⟨g, 0, none⟩) := by simpa using hp
 simp [results, h, hp', asAddr, go_sem, c0]
def DoPost (T : TypeId) (D : Nat → Prop) (w : World) (p : Nat) (v : Value) (P : List JV) (s : StepV) (e : Ending) (w' : World) : Prop := match doF P s with
 | .inl k => e = .returned (errE k) ∧ Keeps (fun _ => False) w w'
 | .inr P' => e = .returned .nilIface ∧ RowPost T D w p v P' w'
theorem used_parts {s : StepV} (h : usedF s = true) : (s.sort ≠ 4 → s.text.size = 0) ∧ (s.sort ≠ 5 → s.count = 0) ∧ (s.sort ≠ 6 → s.keys = []) ∧ 1 ≤ s.sort ∧ s.sort ≤ 6 ∧ 0 ≤ s.count := by
 simp only [usedF, Bool.and_eq_true, Bool.or_eq_true, decide_eq_true_eq] at h
 obtain ⟨⟨⟨⟨⟨⟨⟨h1, h2⟩, h3⟩, h4⟩, h5⟩, h6⟩, h7⟩, h8⟩ := h
 exact ⟨fun e => h6.resolve_right e, fun e => h7.resolve_right e, fun e => List.length_eq_zero_iff.1 (h8.resolve_right e), h1, h2, h3⟩
theorem right_empty {s : ByteArray} (h : s.size = 0) : rightS s = true := by
 have h1 : sb s = [] := List.length_eq_zero_iff.1 (by rw [sb_len]; exact h)
 unfold rightS
 rw [h1]
 rfl
theorem do_scalar (P : List JV) (s : StepV) (j : JV) (hu : usedF s = true) (h5 : s.sort ≠ 3 ∧ s.sort ≠ 4 ∧ s.sort ≠ 5 ∧ s.sort ≠ 6) (hj : mkV s [] = j) (_ : True) (hw : j.within) : doF P s = .inr (P ++ [j]) := by
 obtain ⟨u1, u2, u3, _, _, _⟩ := used_parts hu
 have k := u3 h5.2.2.2
 have ct := u2 h5.2.2.1
 unfold doF
 rw [if_neg (by rw [hu]; decide), if_neg (fun h => h5.1 h.1), if_neg (by rw [right_empty (u1 h5.2.1), k]; simp), if_neg (by rw [k]; simp), if_neg (by rw [k, ct]; simp)]
 have hz : s.count.toNat + s.keys.length = 0 := by rw [k, ct]; rfl
 rw [hz, Nat.sub_zero, List.drop_length, List.take_length, hj, if_neg (by simpa using hw)]
theorem do_unused (T : TypeId) (D : Nat → Prop) (w : World) (p : Nat) (A : Option Addr) (c : Nat) (vs : List Value) (P : List JV) (h : RowAt T D w p A c vs P) (hn : P.length ≤ 1048576) (s : StepV) (B : Option Addr) (d : Nat) (hu : usedF s = false) :
  Calls Tryz.prog 48 #[.pointer (some ⟨p, 0, none⟩), .agg (stepV s B d).toArray] w (DoPost T D w p (.slice A P.length c) P s) := by
 obtain ⟨SV, hSV⟩ : ∃ SV, SV = stepV s B d := ⟨_, rfl⟩
 have HC0 : Hid (SV[0]? = some (.int .i64 s.sort)) := H_ (by rw [hSV]; rfl)
 have HC1 : Hid (SV[1]? = some (.bool s.flag)) := H_ (by rw [hSV]; rfl)
 have HU : Hid (∀ W, Calls Tryz.prog 77 #[.agg SV.toArray] W fun e w' => e = .returned (.bool false) ∧ Keeps (fun _ => False) W w') := H_ fun W => by
  have := used_any W s B d
  rw [hu, ← hSV] at this
  exact this
 have HSL : Hid (SV.length = 6) := H_ (by rw [hSV]; rfl)
 have HSI : Hid ((Tryz.prog.info? 53).map (·.size) = some SV.length) := H_ (by rw [HSL.out]; kernel_rfl)
 have HR := H_ h
 have hb1 := (Blk.new w 53 SV).alloc (.cells #[.nilIface] 35)
 have hb2 := Blk.new (w.alloc (.cells SV.toArray 53)) 35 [.nilIface]
 rw [World.size_alloc] at hb2
 have HB := H_ (And.intro (And.intro hb1 hb2) (((Keeps.refl (fun _ => False) w).alloc (.cells SV.toArray 53)).alloc (.cells #[.nilIface] 35)))
 have hmf : ∀ (fn : Fn) (first cap : Array Value) (w : World), (Instr.makeFunc fn first cap).run Tryz.prog w = .ok (.func fn first cap) w := fun _ _ _ _ => rfl
 have hlt := h.blk.lt
 rw [← hSV]
 clear h hb1 hb2 hSV
 have _ := hn
 go_enter_defers Tryz.func48, Tryz.ntmps48
 go_wp2_with (first
  | ((with_reducible show wpList _ _ _ (⟨some 8, _, _, _, _, _⟩ :: _) _ _); refine wpList_load_whole rfl 53 _ rfl _ rfl HB.out.1.1 Tryz.underlying53 rfl HSI.out ?_)
  | (go_at_call 77; refine (HU.out _).mono ?_; rintro e w2 ⟨rfl, hk2⟩; have HK2 := H_ hk2; have hbs := hk2.blk HB.out.1.1 (fun h => h); have s0 := (hbs.cell 0).trans HC0.out; have s1 := (hbs.cell 1).trans HC1.out; clear hk2 hbs)
  | (go_at_call 76; refine (refuse_no _ _).mono ?_; rintro e w3 ⟨he, rfl⟩; unfold errP at he; subst he))
 have hbe := HK2.out.blk HB.out.1.2 (fun h => h)
 refine leaves_cons (f := 75) (args := #[.pointer (some ⟨w.heap.size + 1, 0, none⟩)]) (by simp) (by simp [go_sem]) ?_
 refine (do_catch (w.heap.size + 1) 2 [] _ hbe).mono ?_
 rintro e u' w'' ⟨rfl, rfl, hb, hk⟩
 refine ⟨_, results_err rfl _ _ _ _ rfl hb, ?_⟩
 have hd : doF P s = .inl 2 := by simp [doF, hu]
 unfold DoPost
 rw [hd]
 exact ⟨rfl, (HB.out.2.trans HK2.out (fun _ _ h => h)).trans hk (fun i hi e => by omega)⟩
theorem do_null (T : TypeId) (D : Nat → Prop) (w : World) (p : Nat) (A : Option Addr) (c : Nat) (vs : List Value) (P : List JV) (h : RowAt T D w p A c vs P) (hn : P.length ≤ 1048576) (s : StepV) (B : Option Addr) (d : Nat) (hu : usedF s = true) (hs : s.sort = 1) :
  Calls Tryz.prog 48 #[.pointer (some ⟨p, 0, none⟩), .agg (stepV s B d).toArray] w (DoPost T D w p (.slice A P.length c) P s) := by
 obtain ⟨SV, hSV⟩ : ∃ SV, SV = stepV s B d := ⟨_, rfl⟩
 have HC0 : Hid (SV[0]? = some (.int .i64 1)) := H_ (by rw [hSV, ← hs]; rfl)
 have HC1 : Hid (SV[1]? = some (.bool s.flag)) := H_ (by rw [hSV]; rfl)
 have HU : Hid (∀ W, Calls Tryz.prog 77 #[.agg SV.toArray] W fun e w' => e = .returned (.bool true) ∧ Keeps (fun _ => False) W w') := H_ fun W => by
  have := used_any W s B d
  rw [hu, ← hSV] at this
  exact this
 have HSL : Hid (SV.length = 6) := H_ (by rw [hSV]; rfl)
 have HSI : Hid ((Tryz.prog.info? 53).map (·.size) = some SV.length) := H_ (by rw [HSL.out]; kernel_rfl)
 have HR := H_ h
 have hb1 := (Blk.new w 53 SV).alloc (.cells #[.nilIface] 35)
 have hb2 := Blk.new (w.alloc (.cells SV.toArray 53)) 35 [.nilIface]
 rw [World.size_alloc] at hb2
 have HB := H_ (And.intro (And.intro hb1 hb2) (((Keeps.refl (fun _ => False) w).alloc (.cells SV.toArray 53)).alloc (.cells #[.nilIface] 35)))
 have hmf : ∀ (fn : Fn) (first cap : Array Value) (w : World), (Instr.makeFunc fn first cap).run Tryz.prog w = .ok (.func fn first cap) w := fun _ _ _ _ => rfl
 have hlt := h.blk.lt
 rw [← hSV]
 clear h hb1 hb2 hSV
 have HP : Hid (∀ W, Keeps (fun _ => False) w W → Calls Tryz.prog 78 #[.pointer (some ⟨p, 0, none⟩), .iface 166 (.agg #[])] W fun e w' => e = .returned (.tuple #[]) ∧ RowPost T D W p (.slice A P.length c) (P ++ [JV.null]) w') := H_ fun W hW =>
  put_null T D W p A c vs P (HR.out.stay hW) hn .null true (by decide)
 have hrow := HR.out.ne_own
 have hol : ∀ g, (Value.slice A P.length c).ownBlock = some g → g < w.heap.size := fun g hg => (HR.out.own.lt g hg).2
 have HEB : Hid (∀ W w', Keeps (fun _ => False) ((w.alloc (.cells SV.toArray 53)).alloc (.cells #[.nilIface] 35)) W → Keeps (fun i => i = p ∨ (Value.slice A P.length c).ownBlock = some i) W w' → Blk w' (w.heap.size + 1) 35 [.nilIface]) := H_ fun W w' hW hk =>
  hk.blk (hW.blk HB.out.1.2 (fun h => h)) (fun e => by
   rcases e with e | e
   ·omega
   have := hol _ e; omega)
 clear hrow hol
 go_enter_defers Tryz.func48, Tryz.ntmps48
 go_wp2_with (first
  | ((with_reducible show wpList _ _ _ (⟨some 8, _, _, _, _, _⟩ :: _) _ _); refine wpList_load_whole rfl 53 _ rfl _ rfl HB.out.1.1 Tryz.underlying53 rfl HSI.out ?_)
  | (go_at_call 77; refine (HU.out _).mono ?_; rintro e w2 ⟨rfl, hk2⟩; have HK2 := H_ hk2; have hbs := hk2.blk HB.out.1.1 (fun h => h); have s0 := (hbs.cell 0).trans HC0.out; have s1 := (hbs.cell 1).trans HC1.out; clear hk2 hbs)
  | (go_at_call 76; refine (refuse_ok _ _).mono ?_; rintro e w3 ⟨he, rfl⟩; subst he)
  | (go_at_call 78; refine (HP.out _ (HB.out.2.trans HK2.out (fun _ _ h => h))).mono ?_; rintro e w4 ⟨rfl, hr4⟩; have hbe := HEB.out _ _ HK2.out hr4.2; have HR4 := H_ hr4; have HBE := H_ hbe; have c0 := hbe.cell 0; have f0 := hbe.frozen 0; clear hr4 hbe))
 rw [set_same HBE.out]
 refine leaves_cons (f := 75) (args := #[.pointer (some ⟨w.heap.size + 1, 0, none⟩)]) (by simp) (by simp [go_sem]) ?_
 refine (do_idle ⟨w.heap.size + 1, 0, none⟩ _).mono ?_
 rintro e u' w'' ⟨rfl, rfl, rfl⟩
 refine ⟨_, results_err rfl _ _ _ _ rfl HBE.out, ?_⟩
 have hd : doF P s = .inr (P ++ [JV.null]) := do_scalar P s (JV.null) hu (by omega) (by simp [mkV, hs]) trivial (by simp [JV.within, JV.nodes, JV.bytes, JV.deep])
 unfold DoPost
 rw [hd]
 exact ⟨rfl, HR4.out.1, ((HB.out.2.trans HK2.out (fun _ _ h => h)).mono (fun _ _ h => h.elim)).trans HR4.out.2 (fun _ _ h => h)⟩
theorem do_flag (T : TypeId) (D : Nat → Prop) (w : World) (p : Nat) (A : Option Addr) (c : Nat) (vs : List Value) (P : List JV) (h : RowAt T D w p A c vs P) (hn : P.length ≤ 1048576) (s : StepV) (B : Option Addr) (d : Nat) (hu : usedF s = true) (hs : s.sort = 2) :
  Calls Tryz.prog 48 #[.pointer (some ⟨p, 0, none⟩), .agg (stepV s B d).toArray] w (DoPost T D w p (.slice A P.length c) P s) := by
 obtain ⟨SV, hSV⟩ : ∃ SV, SV = stepV s B d := ⟨_, rfl⟩
 have HC0 : Hid (SV[0]? = some (.int .i64 2)) := H_ (by rw [hSV, ← hs]; rfl)
 have HC1 : Hid (SV[1]? = some (.bool s.flag)) := H_ (by rw [hSV]; rfl)
 have HU : Hid (∀ W, Calls Tryz.prog 77 #[.agg SV.toArray] W fun e w' => e = .returned (.bool true) ∧ Keeps (fun _ => False) W w') := H_ fun W => by
  have := used_any W s B d
  rw [hu, ← hSV] at this
  exact this
 have HSL : Hid (SV.length = 6) := H_ (by rw [hSV]; rfl)
 have HSI : Hid ((Tryz.prog.info? 53).map (·.size) = some SV.length) := H_ (by rw [HSL.out]; kernel_rfl)
 have HR := H_ h
 have hb1 := (Blk.new w 53 SV).alloc (.cells #[.nilIface] 35)
 have hb2 := Blk.new (w.alloc (.cells SV.toArray 53)) 35 [.nilIface]
 rw [World.size_alloc] at hb2
 have HB := H_ (And.intro (And.intro hb1 hb2) (((Keeps.refl (fun _ => False) w).alloc (.cells SV.toArray 53)).alloc (.cells #[.nilIface] 35)))
 have hmf : ∀ (fn : Fn) (first cap : Array Value) (w : World), (Instr.makeFunc fn first cap).run Tryz.prog w = .ok (.func fn first cap) w := fun _ _ _ _ => rfl
 have hlt := h.blk.lt
 rw [← hSV]
 clear h hb1 hb2 hSV
 have HP : Hid (∀ W, Keeps (fun _ => False) w W → Calls Tryz.prog 78 #[.pointer (some ⟨p, 0, none⟩), .iface 167 (.bool s.flag)] W fun e w' => e = .returned (.tuple #[]) ∧ RowPost T D W p (.slice A P.length c) (P ++ [JV.flag s.flag]) w') := H_ fun W hW =>
  put_flag T D W p A c vs P (HR.out.stay hW) hn s.flag (.flag _) true (by decide)
 have hrow := HR.out.ne_own
 have hol : ∀ g, (Value.slice A P.length c).ownBlock = some g → g < w.heap.size := fun g hg => (HR.out.own.lt g hg).2
 have HEB : Hid (∀ W w', Keeps (fun _ => False) ((w.alloc (.cells SV.toArray 53)).alloc (.cells #[.nilIface] 35)) W → Keeps (fun i => i = p ∨ (Value.slice A P.length c).ownBlock = some i) W w' → Blk w' (w.heap.size + 1) 35 [.nilIface]) := H_ fun W w' hW hk =>
  hk.blk (hW.blk HB.out.1.2 (fun h => h)) (fun e => by
   rcases e with e | e
   ·omega
   have := hol _ e; omega)
 clear hrow hol
 go_enter_defers Tryz.func48, Tryz.ntmps48
 go_wp2_with (first
  | ((with_reducible show wpList _ _ _ (⟨some 8, _, _, _, _, _⟩ :: _) _ _); refine wpList_load_whole rfl 53 _ rfl _ rfl HB.out.1.1 Tryz.underlying53 rfl HSI.out ?_)
  | (go_at_call 77; refine (HU.out _).mono ?_; rintro e w2 ⟨rfl, hk2⟩; have HK2 := H_ hk2; have hbs := hk2.blk HB.out.1.1 (fun h => h); have s0 := (hbs.cell 0).trans HC0.out; have s1 := (hbs.cell 1).trans HC1.out; clear hk2 hbs)
  | (go_at_call 76; refine (refuse_ok _ _).mono ?_; rintro e w3 ⟨he, rfl⟩; subst he)
  | (go_at_call 78; refine (HP.out _ (HB.out.2.trans HK2.out (fun _ _ h => h))).mono ?_; rintro e w4 ⟨rfl, hr4⟩; have hbe := HEB.out _ _ HK2.out hr4.2; have HR4 := H_ hr4; have HBE := H_ hbe; have c0 := hbe.cell 0; have f0 := hbe.frozen 0; clear hr4 hbe))
 rw [set_same HBE.out]
 refine leaves_cons (f := 75) (args := #[.pointer (some ⟨w.heap.size + 1, 0, none⟩)]) (by simp) (by simp [go_sem]) ?_
 refine (do_idle ⟨w.heap.size + 1, 0, none⟩ _).mono ?_
 rintro e u' w'' ⟨rfl, rfl, rfl⟩
 refine ⟨_, results_err rfl _ _ _ _ rfl HBE.out, ?_⟩
 have hd : doF P s = .inr (P ++ [JV.flag s.flag]) := do_scalar P s (JV.flag s.flag) hu (by omega) (by simp [mkV, hs]) trivial (by simp [JV.within, JV.nodes, JV.bytes, JV.deep])
 unfold DoPost
 rw [hd]
 exact ⟨rfl, HR4.out.1, ((HB.out.2.trans HK2.out (fun _ _ h => h)).mono (fun _ _ h => h.elim)).trans HR4.out.2 (fun _ _ h => h)⟩
end Go.Proofs.YtdmcioghdindfaaGreatDoor
namespace Go.Proofs.YtdmcioghdindfaaGreatDoor
open Go Go.RowKit Go.Aff Go.Json Go.Shelf
def Ent (f : FuncId) : Prop := ∀ args w, (callFunc f args).run Tryz.prog w = .ok (.enter f args) w
theorem method_list (b : Nat) (w : World) : (Go.method 420 158 (.pointer (some ⟨b, 0, none⟩)) "affidavit/node.sized").run Tryz.prog w = ((do let v ← loadVar 177 ⟨b, 0, none⟩; pure (199, v)) : Sem (FuncId × Value)).run Tryz.prog w := by kernel_rfl
theorem methodS_list (b : Nat) (w : World) : (Go.method 420 158 (.pointer (some ⟨b, 0, none⟩)) "affidavit/node.sort").run Tryz.prog w = .ok (200, .pointer (some ⟨b, 0, none⟩)) w := by kernel_rfl
theorem method_object (b : Nat) (w : World) : (Go.method 420 159 (.pointer (some ⟨b, 0, none⟩)) "affidavit/node.sized").run Tryz.prog w = ((do let v ← loadVar 177 ⟨b, 0, none⟩; pure (199, v)) : Sem (FuncId × Value)).run Tryz.prog w := by kernel_rfl
theorem methodS_object (b : Nat) (w : World) : (Go.method 420 159 (.pointer (some ⟨b, 0, none⟩)) "affidavit/node.sort").run Tryz.prog w = .ok (201, .pointer (some ⟨b, 0, none⟩)) w := by kernel_rfl
theorem run_bound {P : Program} {w : World} {m : Sem Value} {v : Value} (f : FuncId) (h : m.run P w = .ok v w) : ((do let v ← m; pure (f, v)) : Sem (FuncId × Value)).run P w = .ok (f, v) w := by simp [go_sem, h]
theorem load_size (w : World) (b : Nat) (t : TypeId) (cs : List Value) (x y z : Value) (h : Blk w b t ([x, y, z] ++ cs)) : (loadVar 177 ⟨b, 0, none⟩).run Tryz.prog w = .ok (.agg #[x, y, z]) w := by
 have h1 := run_loadVar_at (P := Tryz.prog) 177 0 3 _ h (by simp) Tryz.underlying177 rfl (by kernel_rfl)
 exact h1
theorem sized_size (w : World) (n b d : Int) : Calls Tryz.prog 199 #[.agg #[.int .i64 n, .int .i64 b, .int .i64 d]] w fun e w' => e = .returned (.agg #[.int .i64 n, .int .i64 b, .int .i64 d]) ∧ Keeps (fun _ => False) w w' := by
 have hb0 := Blk.new w 177 [.int .i64 n, .int .i64 b, .int .i64 d]
 have hl := load_size (w.alloc (.cells #[.int .i64 n, .int .i64 b, .int .i64 d] 177) |>.alloc (.cells #[.int .i64 0, .int .i64 0, .int .i64 0] 177)) w.heap.size 177 [] (.int .i64 n) (.int .i64 b) (.int .i64 d) (hb0.alloc _)
 have hb := Blk.new (w.alloc (.cells #[.int .i64 n, .int .i64 b, .int .i64 d] 177)) 177 [.int .i64 0, .int .i64 0, .int .i64 0]
 rw [World.size_alloc] at hb
 have f0 := hb.frozen 0
 have f1 := hb.frozen 1
 have f2 := hb.frozen 2
 have c0 := (hb0.alloc (.cells #[.int .i64 0, .int .i64 0, .int .i64 0] 177)).cell 0
 have c1 := (hb0.alloc (.cells #[.int .i64 0, .int .i64 0, .int .i64 0] 177)).cell 1
 have c2 := (hb0.alloc (.cells #[.int .i64 0, .int .i64 0, .int .i64 0] 177)).cell 2
 have HR := Blk.new (w.alloc (.cells #[.int .i64 n, .int .i64 b, .int .i64 d] 177)) 177 [.int .i64 n, .int .i64 b, .int .i64 d]
 rw [World.size_alloc] at HR
 replace HR := H_ HR
 have HK := H_ (((Keeps.refl (fun _ => False) w).alloc (.cells #[.int .i64 n, .int .i64 b, .int .i64 d] 177)).alloc (.cells #[.int .i64 n, .int .i64 b, .int .i64 d] 177))
 clear hb hb0
 go_enter Tryz.func199, Tryz.ntmps199
 go_wp2
 exact bodyPost_ret (results_blk rfl _ _ rfl HR.out Tryz.underlying177 rfl (by kernel_rfl)) rfl ⟨rfl, HK.out⟩
theorem sort_list (w : World) (p : Value) : Calls Tryz.prog 200 #[p] w fun e w' => e = .returned (.int .i64 5) ∧ Keeps (fun _ => False) w w' := by
 go_enter Tryz.func200, Tryz.ntmps200
 go_wp2
 go_ret
 exact ⟨rfl, Keeps.refl _ _⟩
theorem sort_object (w : World) (p : Value) : Calls Tryz.prog 201 #[p] w fun e w' => e = .returned (.int .i64 6) ∧ Keeps (fun _ => False) w w' := by
 go_enter Tryz.func201, Tryz.ntmps201
 go_wp2
 go_ret
 exact ⟨rfl, Keeps.refl _ _⟩
theorem sized_inv {D : Nat → Prop} {w : World} {v : Value} {j : JV} (h : JAt D w v j) : ∃ T x f u, v = .iface T x ∧ (∀ W, Keeps (fun _ => False) w W → (Go.method 420 T x "affidavit/node.sized").run Tryz.prog W = .ok (f, u) W) ∧ Ent f ∧
  ∀ W, Calls Tryz.prog f #[u] W fun e w' => e = .returned (.agg (sizeV j).toArray) ∧ Keeps (fun _ => False) W w' := by
 cases h with
 | null => exact ⟨_, _, _, _, rfl, fun W _ => method_null _ W, enters_of Tryz.func202 (by kernel_rfl) rfl, fun W => by
   simpa [sizeV, JV.nodes, JV.bytes, JV.deep] using sized_null W⟩
 | flag b => exact ⟨_, _, _, _, rfl, fun W _ => method_flag _ W, enters_of Tryz.func204 (by kernel_rfl) rfl, fun W => by
   simpa [sizeV, JV.nodes, JV.bytes, JV.deep] using sized_flag W b⟩
 | num b => exact ⟨_, _, _, _, rfl, fun W _ => method_number _ W, enters_of Tryz.func206 (by kernel_rfl) rfl, fun W => by
   simpa [sizeV, JV.nodes, JV.bytes, JV.deep] using sized_number W b⟩
 | text s => exact ⟨_, _, _, _, rfl, fun W _ => method_text _ W, enters_of Tryz.func208 (by kernel_rfl) rfl, fun W => by
   simpa [sizeV, JV.nodes, JV.bytes, JV.deep] using sized_text W s⟩
 | list hD hb hr ho hl => exact ⟨_, _, _, _, rfl, fun W hW => (method_list _ W).trans (run_bound _ (load_size W _ _ _ _ _ _ (hW.blk hb (fun h => h)))), enters_of Tryz.func199 (by kernel_rfl) rfl, fun W => sized_size W _ _ _⟩
 | obj hD hb hk hok hr ho hl => exact ⟨_, _, _, _, rfl, fun W hW => (method_object _ W).trans (run_bound _ (load_size W _ _ _ _ _ _ (hW.blk hb (fun h => h)))), enters_of Tryz.func199 (by kernel_rfl) rfl, fun W => sized_size W _ _ _⟩
theorem sort_inv {D : Nat → Prop} {w : World} {v : Value} {j : JV} (h : JAt D w v j) : ∃ T x f u, v = .iface T x ∧ (∀ W, (Go.method 420 T x "affidavit/node.sort").run Tryz.prog W = .ok (f, u) W) ∧ Ent f ∧
  ∀ W, Calls Tryz.prog f #[u] W fun e w' => e = .returned (.int .i64 j.sort) ∧ Keeps (fun _ => False) W w' := by
 cases h with
 | null => exact ⟨_, _, _, _, rfl, fun W => methodS_null _ W, enters_of Tryz.func203 (by kernel_rfl) rfl, fun W => sort_null W⟩
 | flag b => exact ⟨_, _, _, _, rfl, fun W => methodS_flag _ W, enters_of Tryz.func205 (by kernel_rfl) rfl, fun W => sort_flag W b⟩
 | num b => exact ⟨_, _, _, _, rfl, fun W => methodS_number _ W, enters_of Tryz.func207 (by kernel_rfl) rfl, fun W => sort_number W b⟩
 | text s => exact ⟨_, _, _, _, rfl, fun W => methodS_text _ W, enters_of Tryz.func209 (by kernel_rfl) rfl, fun W => sort_text W s⟩
 | list => exact ⟨_, _, _, _, rfl, fun W => methodS_list _ W, enters_of Tryz.func200 (by kernel_rfl) rfl, fun W => sort_list W _⟩
 | obj => exact ⟨_, _, _, _, rfl, fun W => methodS_object _ W, enters_of Tryz.func201 (by kernel_rfl) rfl, fun W => sort_object W _⟩
theorem refsort_any {D : Nat → Prop} {w : World} {v : Value} {j : JV} (h : JAt D w v j) (W : World) : Calls Tryz.prog 66 #[.agg #[v]] W fun e w' => e = .returned (.int .i64 j.sort) ∧ Keeps (fun _ => False) W w' := by
 obtain ⟨T, x, f, u, rfl, hm, he, hc⟩ := sort_inv h
 have c0 := (Blk.new W 81 [.iface T x]).cell 0
 have HC := H_ (hc (W.alloc (.cells #[.iface T x] 81)))
 have HK := H_ ((Keeps.refl (fun _ => False) W).alloc (.cells #[.iface T x] 81))
 unfold Ent at he
 clear hc h
 go_enter Tryz.func66, Tryz.ntmps66
 go_wp2_with (go_at_fn f; refine HC.out.mono ?_; rintro e w2 ⟨rfl, hk2⟩; have HK2 := H_ hk2; clear hk2)
 go_ret
 exact ⟨rfl, HK.out.trans HK2.out (fun _ _ h => h)⟩
structure Items (D : Nat → Prop) (w : World) (j : JV) (A : Option Addr) (vs : List Value) : Prop where
 rd : Rd w A j.items.length vs
 inb : InB D A j.items.length
 at_ : ∀ (i : Nat) (v : Value) (x : JV), vs[i]? = some v → j.items[i]? = some x → JAt D w v x
theorem Items.none (D : Nat → Prop) (w : World) (j : JV) (h : j.items = []) : Items D w j none [] := ⟨by rw [h]; exact Rd.nil _ _, by rw [h]; exact InB.zero _ _, fun i v x hv => by cases hv⟩
theorem items_inv {D : Nat → Prop} {w : World} {v : Value} {j : JV} (h : JAt D w v j) : ∃ A c vs, Items D w j A vs ∧ ∀ W, Keeps (fun _ => False) w W → Calls Tryz.prog 74 #[.agg #[v]] W fun e w' => e = .returned (.slice A j.items.length c) ∧ Keeps (fun _ => False) W w' := by
 cases h with
 | null =>
  refine ⟨none, 0, [], Items.none _ _ _ rfl, fun W _ => ?_⟩
  show Calls _ _ _ _ fun e w' => e = .returned (.slice none 0 0) ∧ _
  have c0 := (Blk.new W 81 [.iface 166 (.agg #[])]).cell 0
  have HK := H_ ((Keeps.refl (fun _ => False) W).alloc (.cells #[.iface 166 (.agg #[])] 81))
  have as1 := as_null_list
  have as2 := as_null_obj
  go_enter Tryz.func74, Tryz.ntmps74
  go_wp2
  go_ret
  exact ⟨rfl, HK.out⟩
 | flag b =>
  refine ⟨none, 0, [], Items.none _ _ _ rfl, fun W _ => ?_⟩
  show Calls _ _ _ _ fun e w' => e = .returned (.slice none 0 0) ∧ _
  have c0 := (Blk.new W 81 [.iface 167 (.bool b)]).cell 0
  have HK := H_ ((Keeps.refl (fun _ => False) W).alloc (.cells #[.iface 167 (.bool b)] 81))
  have as1 := as_flag_list
  have as2 := as_flag_obj
  go_enter Tryz.func74, Tryz.ntmps74
  go_wp2
  go_ret
  exact ⟨rfl, HK.out⟩
 | num b hf hz hlt =>
  refine ⟨none, 0, [], Items.none _ _ _ rfl, fun W _ => ?_⟩
  show Calls _ _ _ _ fun e w' => e = .returned (.slice none 0 0) ∧ _
  have c0 := (Blk.new W 81 [.iface 172 (.float .f64 b)]).cell 0
  have HK := H_ ((Keeps.refl (fun _ => False) W).alloc (.cells #[.iface 172 (.float .f64 b)] 81))
  have as1 := as_num_list
  have as2 := as_num_obj
  go_enter Tryz.func74, Tryz.ntmps74
  go_wp2
  go_ret
  exact ⟨rfl, HK.out⟩
 | text s =>
  refine ⟨none, 0, [], Items.none _ _ _ rfl, fun W _ => ?_⟩
  show Calls _ _ _ _ fun e w' => e = .returned (.slice none 0 0) ∧ _
  have c0 := (Blk.new W 81 [.iface 173 (.string s)]).cell 0
  have HK := H_ ((Keeps.refl (fun _ => False) W).alloc (.cells #[.iface 173 (.string s)] 81))
  have as1 := as_text_list
  have as2 := as_text_obj
  go_enter Tryz.func74, Tryz.ntmps74
  go_wp2
  go_ret
  exact ⟨rfl, HK.out⟩
 | @list b A c vs l hD hb hr ho hl =>
  obtain ⟨n, hn⟩ : ∃ n, n = l.length := ⟨_, rfl⟩
  refine ⟨A, c, vs, ⟨hr, ho, hl⟩, fun W hW => ?_⟩
  have hbW := hW.blk hb (fun h => h)
  have d3 : (W.alloc (.cells #[.iface 158 (.pointer (some ⟨b, 0, none⟩))] 81)).cell? ⟨b, 3, none⟩ = some (.slice A l.length c) := (hbW.alloc _).cell 3
  show Calls _ _ _ _ fun e w' => e = .returned (.slice A l.length c) ∧ _
  rw [← hn] at d3 ⊢
  clear hb hr ho hl hbW hn
  have c0 := (Blk.new W 81 [.iface 158 (.pointer (some ⟨b, 0, none⟩))]).cell 0
  have HK := H_ ((Keeps.refl (fun _ => False) W).alloc (.cells #[.iface 158 (.pointer (some ⟨b, 0, none⟩))] 81))
  have as1 := as_list_list
  go_enter Tryz.func74, Tryz.ntmps74
  go_wp2
  go_ret
  exact ⟨rfl, HK.out⟩
 | @obj b A B c d vs ks l hD hb hk hok hr ho hl =>
  obtain ⟨n, hn⟩ : ∃ n, n = l.length := ⟨_, rfl⟩
  refine ⟨A, c, vs, ⟨hr, ho, hl⟩, fun W hW => ?_⟩
  have hbW := hW.blk hb (fun h => h)
  have d4 : (W.alloc (.cells #[.iface 159 (.pointer (some ⟨b, 0, none⟩))] 81)).cell? ⟨b, 4, none⟩ = some (.slice A l.length c) := (hbW.alloc _).cell 4
  show Calls _ _ _ _ fun e w' => e = .returned (.slice A l.length c) ∧ _
  rw [← hn] at d4 ⊢
  clear hb hk hok hr ho hl hbW hn
  have c0 := (Blk.new W 81 [.iface 159 (.pointer (some ⟨b, 0, none⟩))]).cell 0
  have HK := H_ ((Keeps.refl (fun _ => False) W).alloc (.cells #[.iface 159 (.pointer (some ⟨b, 0, none⟩))] 81))
  have as1 := as_obj_list
  have as2 := as_obj_obj
  go_enter Tryz.func74, Tryz.ntmps74
  go_wp2
  go_ret
  exact ⟨rfl, HK.out⟩
theorem keys_inv {D : Nat → Prop} {w : World} {v : Value} {j : JV} (h : JAt D w v j) : ∃ A c, Rd w A j.keys.length (j.keys.map .string) ∧ InB D A j.keys.length ∧ ∀ W, Keeps (fun _ => False) w W → Calls Tryz.prog 73 #[.agg #[v]] W fun e w' => e = .returned (.slice A j.keys.length c) ∧ Keeps (fun _ => False) W w' := by
 cases h with
 | null =>
  refine ⟨none, 0, Rd.nil _ _, InB.zero _ _, fun W _ => ?_⟩
  show Calls _ _ _ _ fun e w' => e = .returned (.slice none 0 0) ∧ _
  have c0 := (Blk.new W 81 [.iface 166 (.agg #[])]).cell 0
  have HK := H_ ((Keeps.refl (fun _ => False) W).alloc (.cells #[.iface 166 (.agg #[])] 81))
  have as2 := as_null_obj
  go_enter Tryz.func73, Tryz.ntmps73
  go_wp2
  go_ret
  exact ⟨rfl, HK.out⟩
 | flag b =>
  refine ⟨none, 0, Rd.nil _ _, InB.zero _ _, fun W _ => ?_⟩
  show Calls _ _ _ _ fun e w' => e = .returned (.slice none 0 0) ∧ _
  have c0 := (Blk.new W 81 [.iface 167 (.bool b)]).cell 0
  have HK := H_ ((Keeps.refl (fun _ => False) W).alloc (.cells #[.iface 167 (.bool b)] 81))
  have as2 := as_flag_obj
  go_enter Tryz.func73, Tryz.ntmps73
  go_wp2
  go_ret
  exact ⟨rfl, HK.out⟩
 | num b hf hz hlt =>
  refine ⟨none, 0, Rd.nil _ _, InB.zero _ _, fun W _ => ?_⟩
  show Calls _ _ _ _ fun e w' => e = .returned (.slice none 0 0) ∧ _
  have c0 := (Blk.new W 81 [.iface 172 (.float .f64 b)]).cell 0
  have HK := H_ ((Keeps.refl (fun _ => False) W).alloc (.cells #[.iface 172 (.float .f64 b)] 81))
  have as2 := as_num_obj
  go_enter Tryz.func73, Tryz.ntmps73
  go_wp2
  go_ret
  exact ⟨rfl, HK.out⟩
 | text s =>
  refine ⟨none, 0, Rd.nil _ _, InB.zero _ _, fun W _ => ?_⟩
  show Calls _ _ _ _ fun e w' => e = .returned (.slice none 0 0) ∧ _
  have c0 := (Blk.new W 81 [.iface 173 (.string s)]).cell 0
  have HK := H_ ((Keeps.refl (fun _ => False) W).alloc (.cells #[.iface 173 (.string s)] 81))
  have as2 := as_text_obj
  go_enter Tryz.func73, Tryz.ntmps73
  go_wp2
  go_ret
  exact ⟨rfl, HK.out⟩
 | @list b A c vs l hD hb hr ho hl =>
  refine ⟨none, 0, Rd.nil _ _, InB.zero _ _, fun W _ => ?_⟩
  show Calls _ _ _ _ fun e w' => e = .returned (.slice none 0 0) ∧ _
  clear hb hr ho hl
  have c0 := (Blk.new W 81 [.iface 158 (.pointer (some ⟨b, 0, none⟩))]).cell 0
  have HK := H_ ((Keeps.refl (fun _ => False) W).alloc (.cells #[.iface 158 (.pointer (some ⟨b, 0, none⟩))] 81))
  have as2 := as_list_obj
  go_enter Tryz.func73, Tryz.ntmps73
  go_wp2
  go_ret
  exact ⟨rfl, HK.out⟩
 | @obj b A B c d vs ks l hD hb hk hok hr ho hl =>
  obtain ⟨n, hn⟩ : ∃ n, n = ks.length := ⟨_, rfl⟩
  refine ⟨B, d, hk, hok, fun W hW => ?_⟩
  have hbW := hW.blk hb (fun h => h)
  have d3 : (W.alloc (.cells #[.iface 159 (.pointer (some ⟨b, 0, none⟩))] 81)).cell? ⟨b, 3, none⟩ = some (.slice B ks.length d) := (hbW.alloc _).cell 3
  show Calls _ _ _ _ fun e w' => e = .returned (.slice B ks.length d) ∧ _
  rw [← hn] at d3 ⊢
  clear hb hk hok hr ho hl hbW hn
  have c0 := (Blk.new W 81 [.iface 159 (.pointer (some ⟨b, 0, none⟩))]).cell 0
  have HK := H_ ((Keeps.refl (fun _ => False) W).alloc (.cells #[.iface 159 (.pointer (some ⟨b, 0, none⟩))] 81))
  have as2 := as_obj_obj
  go_enter Tryz.func73, Tryz.ntmps73
  go_wp2
  go_ret
  exact ⟨rfl, HK.out⟩
theorem infoStr : (Tryz.prog.info? 9).map (fun i => (i.zero, i.size, i.bytes)) = some (some (.string ⟨#[]⟩), 1, 16) := by kernel_rfl
theorem mine_none (w : World) (e : TypeId) : Mine w w e none 0 0 [] := ⟨World.ownsRow_nil _ _ _ _, Keeps.refl _ _, fun g h => by cases h⟩
theorem iclone_any (w : World) (A : Option Addr) (n c : Nat) (vs : List Value) (hr : Rd w A n vs) (h1 : ∀ u ∈ vs, u.oneCell' = true) (hn : n ≤ 1099511627776) :
  Calls Tryz.prog 113 #[.slice A n c] w fun e w' => ∃ A' c', e = .returned (.slice A' n c') ∧ Mine w w' 79 A' n c' vs := by
 cases A with
 | none =>
  have hz : n = 0 := by
   rcases Nat.eq_zero_or_pos n with h | h
   ·exact h
   obtain ⟨g, o, e, _⟩ := hr.2 h
   cases e
  subst hz
  have hv : vs = [] := List.length_eq_zero_iff.1 hr.1
  subst hv
  clear hr h1
  have hnil := fun wx => Lib.run_eql_slice_nil (P := Tryz.prog) wx 106 79 none 0 c 0 0 Tryz.underlying106
  go_enter Tryz.func113, Tryz.ntmps113
  go_wp2
  go_ret
  exact ⟨none, 0, rfl, mine_none w _⟩
 | some a =>
  have HM := H_ (Mine.built w w 79 0 [] (Keeps.refl _ w) rfl (by unfold maxLen; omega))
  have HR := H_ (hr.alloc (.cells #[] 79))
  have H1 := H_ h1
  clear hr h1
  have hnil := fun wx => Lib.run_eql_slice_nil (P := Tryz.prog) wx 106 79 (some a) n c 0 0 Tryz.underlying106
  go_enter Tryz.func113, Tryz.ntmps113
  go_wp2_with (at_builtin; refine wpList_append_rd _ rfl (.tmp 5) (.tmp 6) 106 rfl 79 .nilIface 16 Tryz.underlying106 infoIt rfl _ 0 [] rfl HM.out.1 (some a) n c vs rfl HR.out H1.out (by unfold maxLen; omega) (by omega) ?_; intro A' c' w' hown hg hb; have HM2 := H_ (HM.out.app0 hown hg hb); clear hown hg hb)
  go_ret
  have hm := HM2.out
  rw [List.nil_append, Nat.zero_add] at hm
  exact ⟨A', c', rfl, hm⟩
theorem sclone_any (w : World) (A : Option Addr) (n c : Nat) (vs : List Value) (hr : Rd w A n vs) (h1 : ∀ u ∈ vs, u.oneCell' = true) (hn : n ≤ 1099511627776) :
  Calls Tryz.prog 114 #[.slice A n c] w fun e w' => ∃ A' c', e = .returned (.slice A' n c') ∧ Mine w w' 9 A' n c' vs := by
 cases A with
 | none =>
  have hz : n = 0 := by
   rcases Nat.eq_zero_or_pos n with h | h
   ·exact h
   obtain ⟨g, o, e, _⟩ := hr.2 h
   cases e
  subst hz
  have hv : vs = [] := List.length_eq_zero_iff.1 hr.1
  subst hv
  clear hr h1
  have hnil := fun wx => Lib.run_eql_slice_nil (P := Tryz.prog) wx 29 9 none 0 c 0 0 Tryz.underlying29
  go_enter Tryz.func114, Tryz.ntmps114
  go_wp2
  go_ret
  exact ⟨none, 0, rfl, mine_none w _⟩
 | some a =>
  have HM := H_ (Mine.built w w 9 0 [] (Keeps.refl _ w) rfl (by unfold maxLen; omega))
  have HR := H_ (hr.alloc (.cells #[] 9))
  have H1 := H_ h1
  clear hr h1
  have hnil := fun wx => Lib.run_eql_slice_nil (P := Tryz.prog) wx 29 9 (some a) n c 0 0 Tryz.underlying29
  go_enter Tryz.func114, Tryz.ntmps114
  go_wp2_with (at_builtin; refine wpList_append_rd _ rfl (.tmp 5) (.tmp 6) 29 rfl 9 (.string ⟨#[]⟩) 16 Tryz.underlying29 infoStr rfl _ 0 [] rfl HM.out.1 (some a) n c vs rfl HR.out H1.out (by unfold maxLen; omega) (by omega) ?_; intro A' c' w' hown hg hb; have HM2 := H_ (HM.out.app0 hown hg hb); clear hown hg hb)
  go_ret
  have hm := HM2.out
  rw [List.nil_append, Nat.zero_add] at hm
  exact ⟨A', c', rfl, hm⟩
end Go.Proofs.YtdmcioghdindfaaGreatDoor
namespace Go.Json
theorem sumN_append (a b : List Nat) : sumN (a ++ b) = sumN a + sumN b := by
 induction a with
 | nil => simp [sumN]
 | cons x a ih => simp [sumN, ih]; omega
theorem maxN_append (a b : List Nat) : maxN (a ++ b) = max (maxN a) (maxN b) := by
 induction a with
 | nil => simp [maxN]
 | cons x a ih => simp only [List.cons_append, maxN, ih]; omega
theorem sumN_le {l : List Nat} {m : Nat} (h : ∀ x ∈ l, x ≤ m) : sumN l ≤ l.length * m := by
 induction l with
 | nil => simp [sumN]
 | cons x l ih =>
  have h1 := h x List.mem_cons_self
  have h2 := ih fun y hy => h y (List.mem_cons_of_mem _ hy)
  rw [sumN, List.length_cons, Nat.succ_mul]
  omega
theorem maxN_le {l : List Nat} {m : Nat} (h : ∀ x ∈ l, x ≤ m) : maxN l ≤ m := by
 induction l with
 | nil => simp [maxN]
 | cons x l ih =>
  have h1 := h x List.mem_cons_self
  have h2 := ih fun y hy => h y (List.mem_cons_of_mem _ hy)
  rw [maxN]; omega
end Go.Json
namespace Go.Proofs.YtdmcioghdindfaaGreatDoor
open Go Go.RowKit Go.Aff Go.Json Go.Shelf
def sums (L : List JV) : Nat × Nat × Nat := (sumN (L.map fun x => x.nodes), sumN (L.map fun x => x.bytes), maxN (L.map fun x => x.deep))
theorem sums_take {L : List JV} {i : Nat} {x : JV} (h : L[i]? = some x) : sums (L.take (i + 1)) = ((sums (L.take i)).1 + x.nodes, (sums (L.take i)).2.1 + x.bytes, max (sums (L.take i)).2.2 x.deep) := by
 unfold sums
 rw [List.take_add_one, h]
 simp only [Option.toList, List.map_append, sumN_append, maxN_append, List.map_cons, List.map_nil, sumN, maxN, Nat.add_zero, Nat.max_zero]
theorem sums_small {L : List JV} {m : Nat} (h : ∀ x ∈ L, x.within) (hm : L.length ≤ m) : (sums L).1 ≤ m * 65536 ∧ (sums L).2.1 ≤ m * 2097152 ∧ (sums L).2.2 ≤ 512 := by
 refine ⟨?_, ?_, ?_⟩
 ·refine Nat.le_trans (sumN_le (m := 65536) fun y hy => ?_) (Nat.mul_le_mul_right _ (by rw [List.length_map]; exact hm))
  obtain ⟨x, hx, rfl⟩ := List.mem_map.1 hy
  exact (h x hx).1
 ·refine Nat.le_trans (sumN_le (m := 2097152) fun y hy => ?_) (Nat.mul_le_mul_right _ (by rw [List.length_map]; exact hm))
  obtain ⟨x, hx, rfl⟩ := List.mem_map.1 hy
  exact (h x hx).2.1
 refine maxN_le fun y hy => ?_
 obtain ⟨x, hx, rfl⟩ := List.mem_map.1 hy
 exact (h x hx).2.2
structure Summing (w wr : World) (g : Nat) (by' : Nat) (L : List JV) (i : Nat) : Prop where
 keep : Keeps (fun _ => False) w wr
 lo : w.heap.size ≤ g
 res : Blk wr w.heap.size 177 [.int .i64 0, .int .i64 0, .int .i64 0]
 blk : Blk wr g 177 [.int .i64 (1 + (sums (L.take i)).1 : Nat), .int .i64 (by' + (sums (L.take i)).2.1 : Nat), .int .i64 (sums (L.take i)).2.2]
 ne : g ≠ w.heap.size
theorem summed_any {D : Nat → Prop} (w : World) (A : Option Addr) (n c by' : Nat) (vs : List Value) (L : List JV) (hL : L.length = n) (hn : n ≤ 1048576) (hby : by' ≤ 2199023255552) (hw : ∀ x ∈ L, x.within) (hr : Rd w A n vs)
  (hat : ∀ (i : Nat) (v : Value) (x : JV), vs[i]? = some v → L[i]? = some x → JAt D w v x) :
  Calls Tryz.prog 84 #[.slice A n c, .int .i64 by'] w fun e w' => e = .returned (.agg #[.int .i64 (1 + (sums L).1 : Nat), .int .i64 (by' + (sums L).2.1 : Nat), .int .i64 ((sums L).2.2 + 1 : Nat)]) ∧ Keeps (fun _ => False) w w' := by
 have HSM : Hid (∀ i, (sums (L.take i)).1 ≤ 68719476736 ∧ (sums (L.take i)).2.1 ≤ 2199023255552 ∧ (sums (L.take i)).2.2 ≤ 512) := H_ fun i => by
  have := sums_small (L := L.take i) (m := 1048576) (fun x hx => hw x (List.mem_of_mem_take hx)) (by rw [List.length_take]; omega)
  omega
 have HE : Hid (∀ i, i < n → ∃ g o T y f u x, A = some ⟨g, o, none⟩ ∧ w.cell? ⟨g, o + i, none⟩ = some (.iface T y) ∧ L[i]? = some x ∧ (∀ W, Keeps (fun _ => False) w W → (Go.method 420 T y "affidavit/node.sized").run Tryz.prog W = .ok (f, u) W) ∧ Ent f ∧
   ∀ W, Calls Tryz.prog f #[u] W fun e w' => e = .returned (.agg (sizeV x).toArray) ∧ Keeps (fun _ => False) W w') := H_ fun i hi => by
  obtain ⟨g, o, e, hc⟩ := hr.2 (by omega)
  obtain ⟨v, hv⟩ : ∃ v, vs[i]? = some v := ⟨_, List.getElem?_eq_getElem (by rw [hr.1]; exact hi)⟩
  obtain ⟨x, hx⟩ : ∃ x, L[i]? = some x := ⟨_, List.getElem?_eq_getElem (by omega)⟩
  obtain ⟨T, y, f, u, rfl, hm, he, hcl⟩ := sized_inv (hat i v x hv hx)
  exact ⟨g, o, T, y, f, u, x, e, (hc i hi).trans hv, hx, hm, he, hcl⟩
 have HLN := H_ hL
 have hb1 := Blk.new w 177 [.int .i64 0, .int .i64 0, .int .i64 0]
 have HB1 := H_ hb1
 clear hr hat hw hL hb1
 go_enter Tryz.func84, Tryz.ntmps84
 go_upto_region 2 with fail
 have hS0 : Summing w ((w.alloc (.cells #[.int .i64 0, .int .i64 0, .int .i64 0] 177)).alloc (.cells #[.int .i64 1, .int .i64 by', .int .i64 0] 177)) (w.heap.size + 1) by' L 0 := by
  have hb2 := Blk.new (w.alloc (.cells #[.int .i64 0, .int .i64 0, .int .i64 0] 177)) 177 [.int .i64 1, .int .i64 by', .int .i64 0]
  rw [World.size_alloc] at hb2
  exact ⟨((Keeps.refl _ w).alloc _).alloc _, by omega, HB1.out.alloc _, hb2, by omega⟩
 obtain ⟨g, hg⟩ : ∃ g, g = w.heap.size + 1 := ⟨_, rfl⟩
 rw [← hg] at hS0 ⊢
 have HS0 := H_ hS0
 clear hS0 hg HB1
 refine gen_codeF (fun W => Summing w W g by' L 0) HS0.out ?_
 intro w1 hs1
 have HS1 := H_ hs1
 clear hs1 HS0
 go_upto_block 0 with fail
 go_wp2
 go_loopg [13] n (fun gk t wx => ∃ (i : Nat), i ≤ n ∧ t = .int .i64 i ∧ gk = n - i ∧ Hid (Summing w wx g by' L i))
 case atStart => exact ⟨0, by omega, rfl, by omega, HS1⟩
 case round =>
  obtain ⟨i, hi, rfl, hgk, HS⟩ := hrel
  have HGK := H_ hgk
  clear hgk HS1
  by_cases hlt : i < n
  ·obtain ⟨ga, o, T, y, f, u, x, rfl, hcl, hx, hm, he, hc⟩ := HE.out i hlt
   unfold Ent at he
   have HC := H_ hc
   have HX := H_ hx
   have HM := H_ hm
   have ce := cell_keep HS.out.keep hcl
   have hmm := hm wr HS.out.keep
   obtain ⟨a1, ha1⟩ : ∃ a, a = (sums (L.take i)).1 := ⟨_, rfl⟩
   obtain ⟨a2, ha2⟩ : ∃ a, a = (sums (L.take i)).2.1 := ⟨_, rfl⟩
   obtain ⟨a3, ha3⟩ : ∃ a, a = (sums (L.take i)).2.2 := ⟨_, rfl⟩
   have hsm := HSM.out i
   have hsm2 := HSM.out (i + 1)
   rw [sums_take hx] at hsm2
   simp only at hsm2
   rw [← ha1, ← ha2, ← ha3] at hsm2
   have hbs := HS.out.blk
   rw [← ha1, ← ha2, ← ha3] at hbs hsm
   have HA := H_ (And.intro ha1 (And.intro ha2 ha3))
   have HBS := H_ hbs
   obtain ⟨p1, hp1⟩ : ∃ a, a = x.nodes := ⟨_, rfl⟩
   obtain ⟨p2, hp2⟩ : ∃ a, a = x.bytes := ⟨_, rfl⟩
   obtain ⟨p3, hp3⟩ : ∃ a, a = x.deep := ⟨_, rfl⟩
   have hcall : ∀ W, Calls Tryz.prog f #[u] W fun e w' => e = .returned (.agg #[.int .i64 p1, .int .i64 p2, .int .i64 p3]) ∧ Keeps (fun _ => False) W w' := by rw [hp1, hp2, hp3]; exact hc
   rw [← hp1, ← hp2, ← hp3] at hsm2
   have HP := H_ (And.intro hp1 (And.intro hp2 hp3))
   have HCA := H_ hcall
   clear hc hx hm hcl ha1 ha2 ha3 hbs hp1 hp2 hp3 hcall HC
   go_upto_region 6 with (first
    | (go_at_fn f; refine (HCA.out _).mono ?_; rintro e w2 ⟨rfl, hk2⟩; have HK2 := H_ hk2; have fz := (Blk.new w2 177 [.int .i64 0, .int .i64 0, .int .i64 0]).frozen; have z0 := fz 0; have z1 := fz 1; have z2 := fz 2; clear hk2 fz))
   obtain ⟨zb, hzb⟩ : ∃ zb, zb = w2.heap.size := ⟨_, rfl⟩
   have hk3 := HK2.out.alloc (.cells #[.int .i64 p1, .int .i64 p2, .int .i64 p3] 177)
   have hz3 := Blk.new w2 177 [.int .i64 p1, .int .i64 p2, .int .i64 p3]
   have hgz : g ≠ w2.heap.size := by have h1 := HBS.out.lt; have h2 := HK2.out.size; omega
   rw [← hzb] at hz3 hgz ⊢
   have HX6 := H_ (And.intro (hk3.blk HBS.out (fun h => h)) (And.intro hz3 hk3))
   clear hk3 hz3 hzb z0 z1 z2 HK2
   obtain ⟨t1, ht1⟩ : ∃ t, t = 1 + a1 := ⟨_, rfl⟩
   obtain ⟨t2, ht2⟩ : ∃ t, t = by' + a2 := ⟨_, rfl⟩
   rw [← ht1, ← ht2] at HX6
   have HT := H_ (And.intro ht1 ht2)
   have r1 : (t1 : Int) ≤ 68719476737 := by omega
   have r2 : (t2 : Int) ≤ 4398046511104 := by omega
   have r3 : (a3 : Int) ≤ 512 := by omega
   have r4 : (p1 : Int) ≤ 68719476736 := by omega
   have r5 : (p2 : Int) ≤ 4398046511104 := by omega
   have r6 : (p3 : Int) ≤ 512 := by omega
   clear ht1 ht2 hsm hsm2
   refine gen_codeF (fun W => Blk W g 177 [.int .i64 t1, .int .i64 t2, .int .i64 a3] ∧ Blk W zb 177 [.int .i64 p1, .int .i64 p2, .int .i64 p3] ∧ Keeps (fun _ => False) wr W) HX6.out ?_
   clear HX6
   rintro w6 ⟨hb6, hz6, hk6⟩
   have HB6 := H_ hb6
   have HZ6 := H_ hz6
   have HK6 := H_ hk6
   have d0 := hb6.cell 0
   have e0 := hb6.frozen 0
   have y0 := hz6.cell 0
   clear hb6 hz6 hk6
   have hb7 := HB6.out.set_ 0 (.int .i64 ((t1 : Int) + p1))
   have hz7 := HZ6.out.far (p := ⟨g, 0, none⟩) (Ne.symm hgz) (.int .i64 ((t1 : Int) + p1))
   have d1 := hb7.cell 1
   have e1 := hb7.frozen 1
   have y1 := hz7.cell 1
   have hb8 := hb7.set_ 1 (.int .i64 ((t2 : Int) + p2))
   have hz8 := hz7.far (p := ⟨g, 1, none⟩) (Ne.symm hgz) (.int .i64 ((t2 : Int) + p2))
   have d2 := hb8.cell 2
   have e2 := hb8.frozen 2
   have y2 := hz8.cell 2
   have HB8 := H_ hb8
   have HK8 := H_ ((HK6.out.mono (G := fun i => i = g) (fun _ _ h => h.elim)).setCell (p := ⟨g, 0, none⟩) (.inl rfl) (.int .i64 ((t1 : Int) + p1)) |>.setCell (p := ⟨g, 1, none⟩) (.inl rfl) (.int .i64 ((t2 : Int) + p2)))
   clear hb7 hz7 hb8 hz8
   rcases Nat.lt_or_ge a3 p3 with hle | hle
   rotate_left
   ·have hle' : (p3 : Int) ≤ a3 := by omega
    have HK9 := H_ (HK8.out.setCell (p := ⟨g, 2, none⟩) (.inl rfl) (.int .i64 a3))
    have HLE := H_ hle
    clear hle
    go_wp2
    go_roundg (n - (i + 1))
    case measure => rw [HGK.out]; omega
    case rel =>
     refine ⟨i + 1, by omega, by go_num, rfl, H_ ⟨HS.out.keep.trans HK9.out (fun k hk e => by have := HS.out.lo; omega), HS.out.lo, HK9.out.blk HS.out.res (fun e => HS.out.ne e.symm), ?_, HS.out.ne⟩⟩
     have hb := HB8.out.set_ 2 (.int .i64 (a3 : Int))
     rw [sums_take HX.out]
     obtain ⟨e1, e2, e3⟩ := HA.out
     obtain ⟨e4, e5, e6⟩ := HP.out
     rw [← e1, ← e2, ← e3, ← e4, ← e5, ← e6]
     have x1 : ((1 + (a1 + p1) : Nat) : Int) = (t1 : Int) + p1 := by rw [HT.out.1]; omega
     have x2 : ((by' + (a2 + p2) : Nat) : Int) = (t2 : Int) + p2 := by rw [HT.out.2]; omega
     have x3 : ((max a3 p3 : Nat) : Int) = (a3 : Int) := by have := HLE.out; omega
     show Blk _ g 177 [.int .i64 ((1 + (a1 + p1) : Nat) : Int), .int .i64 ((by' + (a2 + p2) : Nat) : Int), .int .i64 ((max a3 p3 : Nat) : Int)]
     rw [x1, x2, x3]
     exact hb
   have hle' : (a3 : Int) < p3 := by omega
   have HK9 := H_ (HK8.out.setCell (p := ⟨g, 2, none⟩) (.inl rfl) (.int .i64 p3))
   have HLE := H_ hle
   clear hle
   go_wp2
   go_roundg (n - (i + 1))
   case measure => rw [HGK.out]; omega
   case rel =>
    refine ⟨i + 1, by omega, by go_num, rfl, H_ ⟨HS.out.keep.trans HK9.out (fun k hk e => by have := HS.out.lo; omega), HS.out.lo, HK9.out.blk HS.out.res (fun e => HS.out.ne e.symm), ?_, HS.out.ne⟩⟩
    have hb := HB8.out.set_ 2 (.int .i64 (p3 : Int))
    rw [sums_take HX.out]
    obtain ⟨e1, e2, e3⟩ := HA.out
    obtain ⟨e4, e5, e6⟩ := HP.out
    rw [← e1, ← e2, ← e3, ← e4, ← e5, ← e6]
    have x1 : ((1 + (a1 + p1) : Nat) : Int) = (t1 : Int) + p1 := by rw [HT.out.1]; omega
    have x2 : ((by' + (a2 + p2) : Nat) : Int) = (t2 : Int) + p2 := by rw [HT.out.2]; omega
    have x3 : ((max a3 p3 : Nat) : Int) = (p3 : Int) := by have := HLE.out; omega
    show Blk _ g 177 [.int .i64 ((1 + (a1 + p1) : Nat) : Int), .int .i64 ((by' + (a2 + p2) : Nat) : Int), .int .i64 ((max a3 p3 : Nat) : Int)]
    rw [x1, x2, x3]
    exact hb
  obtain rfl : i = n := by omega
  have hbs := HS.out.blk
  rw [List.take_of_length_le (by rw [HLN.out]; exact Nat.le_refl _)] at hbs
  have hsm := HSM.out i
  rw [List.take_of_length_le (by rw [HLN.out]; exact Nat.le_refl _)] at hsm
  obtain ⟨t1, ht1⟩ : ∃ t, t = 1 + (sums L).1 := ⟨_, rfl⟩
  obtain ⟨t2, ht2⟩ : ∃ t, t = by' + (sums L).2.1 := ⟨_, rfl⟩
  obtain ⟨t3, ht3⟩ : ∃ t, t = (sums L).2.2 := ⟨_, rfl⟩
  rw [← ht1, ← ht2, ← ht3] at hbs
  have HT := H_ (And.intro ht1 (And.intro ht2 ht3))
  have r3 : (t3 : Int) ≤ 512 := by omega
  have HB := H_ hbs
  have HS3 := H_ (HS.out)
  have d2 := hbs.cell 2
  have e2 := hbs.frozen 2
  have hb9 := hbs.set_ 2 (.int .i64 ((t3 : Int) + 1))
  have c0 := hb9.cell 0
  have c1 := hb9.cell 1
  have c2 := hb9.cell 2
  have hr9 := HS.out.res.far (p := ⟨g, 2, none⟩) (Ne.symm HS.out.ne) (.int .i64 ((t3 : Int) + 1))
  have f0 := hr9.frozen 0
  have f1 := hr9.frozen 1
  have f2 := hr9.frozen 2
  have HR9 := H_ hr9
  have HB9 := H_ hb9
  have HK9 : Hid (Keeps (fun _ => False) w (wr.setCell ⟨g, 2, none⟩ (.int .i64 ((t3 : Int) + 1)))) := H_ (HS.out.keep.setCell (p := ⟨g, 2, none⟩) (.inr HS.out.lo) _)
  clear hsm ht1 ht2 ht3 hbs hb9 hr9
  clear f0 f1 f2
  go_wp2_with ((with_reducible show wpList _ _ _ (⟨none, Op.store 177 (.tmp 4) _, _, _, _, _⟩ :: _) _ _); refine wpList_store_whole rfl 177 _ _ rfl [.int .i64 t1, .int .i64 t2, .int .i64 ((t3 : Int) + 1)] rfl rfl HR9.out rfl (by kernel_rfl) (by intro u hu; simp only [List.mem_cons, List.not_mem_nil, or_false] at hu; rcases hu with rfl | rfl | rfl <;> rfl) ?_)
  have hres := HR9.out.setRow [.int .i64 t1, .int .i64 t2, .int .i64 ((t3 : Int) + 1)]
  refine bodyPost_ret (results_blk rfl _ _ rfl hres Tryz.underlying177 rfl (by kernel_rfl)) rfl ⟨?_, HK9.out.setRow (.inr (Nat.le_refl _)) _⟩
  obtain ⟨e1, e2, e3⟩ := HT.out
  rw [← e1, ← e2, ← e3]
  rfl
end Go.Proofs.YtdmcioghdindfaaGreatDoor
