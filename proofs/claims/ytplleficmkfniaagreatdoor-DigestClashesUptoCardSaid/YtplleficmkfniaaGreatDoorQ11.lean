/- Texts. -/
import Derived.Test.YtplleficmkfniaaGreatDoorQ10
import Derived.Shelf.Abstract
set_option linter.unusedSimpArgs false
set_option maxRecDepth 100000
set_option maxHeartbeats 4000000
namespace Go.Proofs.YtplleficmkfniaaGreatDoor
open Go Go.RowKit Go.Aff Go.Json
theorem do_idle (p : Addr) (w : World) :
  CallsD Tryz.prog 106 #[.pointer (some p)] .returning w fun e u' w' => e = .returned (.tuple #[]) ∧ u' = .returning ∧ w' = w := by
 refine callsD_of_wpS Tryz.func106 rfl fun c₀ cs hu => ?_
 apply wpS_seq
 apply wpS_region
 simp [wpOpsS, go_sem, recoverD, hu, Tryz.ntmps106, Exit.thenS]
 apply wpS_seq
 apply wpS_region
 simp [wpOpsS, go_sem, recoverD, hu, Exit.thenS]
 refine wpS_cond (t := false) (by simp [Act.eval, Array.replicate]) ?_
 simp only [Bool.false_eq_true, if_false]
 refine wpS_of_wp (wp_skip ?_)
 cases c₀
 simp_all [bodyPostS, results, Tryz.results106]
theorem set_same {w : World} {g : Nat} {t : TypeId} {v : Value} (h : Blk w g t [v]) : w.setCell ⟨g, 0, none⟩ v = w := by
 have hh : (w.setCell ⟨g, 0, none⟩ v).heap = w.heap := by
  apply Array.ext_getElem?
  intro i
  by_cases e : i = g
  ·subst e
   have h1 : (w.setCell ⟨i, 0, none⟩ v).heap[i]? = _ := h.set_ 0 v
   have h2 : w.heap[i]? = _ := h
   rw [h1, h2]
   rfl
  ·exact Below.heap_setCell w ⟨g, 0, none⟩ v i e
 have e : w.setCell ⟨g, 0, none⟩ v = { w with heap := (w.setCell ⟨g, 0, none⟩ v).heap } := rfl
 rw [e, hh]
theorem results_err {fn : Func} {p : Tmp} (h : fn.results = #[.cell p 32]) (tmps : Array Value) (w : World) (g : Nat) (v : Value) (hp : tmps.getD p undef = .pointer (some ⟨g, 0, none⟩)) (hb : Blk w g 32 [v]) : (results fn tmps).run Tryz.prog w = .ok v w := by
 have c0 := hb.cell 0
 have hp' : tmps[p]?.getD undef = .pointer (some ⟨g, 0, none⟩) := by simpa using hp
 simp [results, h, hp', asAddr, go_sem, c0]
def DoPost (T : TypeId) (D : Nat → Prop) (w : World) (p : Nat) (v : Value) (P : List JV) (s : StepV) (e : Ending) (w' : World) : Prop := match doF P s with
 | .inl k => e = .returned (errE k) ∧ Keeps (fun _ => False) w w'
 | .inr P' => e = .returned .nilIface ∧ RowPost T D w p v P' w'
theorem used_parts {s : StepV} (h : usedF s = true) : (s.sort ≠ 4 → s.text.size = 0) ∧ (s.sort ≠ 5 → s.count = 0) ∧ (s.sort ≠ 6 → s.keys = []) ∧ 1 ≤ s.sort ∧ s.sort ≤ 6 ∧ 0 ≤ s.count := by
 simp only [usedF, Bool.and_eq_true, Bool.or_eq_true, decide_eq_true_eq] at h
 obtain ⟨⟨⟨⟨⟨⟨⟨h1, h2⟩, h3⟩, h4⟩, h5⟩, h6⟩, h7⟩, h8⟩ := h
 exact ⟨fun e => h6.resolve_right e, fun e => h7.resolve_right e, fun e => List.length_eq_zero_iff.1 (h8.resolve_right e), h1, h2, h3⟩
theorem right_empty {s : ByteArray} (h : s.size = 0) : rightS s = true := by
 have h1 : sb s = [] := List.length_eq_zero_iff.1 (by rw [sb_len]; exact h)
 unfold rightS
 rw [h1]
 rfl
theorem do_scalar (P : List JV) (s : StepV) (j : JV) (hu : usedF s = true) (h5 : s.sort ≠ 3 ∧ s.sort ≠ 4 ∧ s.sort ≠ 5 ∧ s.sort ≠ 6) (hj : mkV s [] = j) (_ : True) (hw : j.within) : doF P s = .inr (P ++ [j]) := by
 obtain ⟨u1, u2, u3, _, _, _⟩ := used_parts hu
 have k := u3 h5.2.2.2
 have ct := u2 h5.2.2.1
 unfold doF
 rw [if_neg (by rw [hu]; decide), if_neg (fun h => h5.1 h.1), if_neg (by rw [right_empty (u1 h5.2.1), k]; simp), if_neg (by rw [k]; simp), if_neg (by rw [k, ct]; simp)]
 have hz : s.count.toNat + s.keys.length = 0 := by rw [k, ct]; rfl
 rw [hz, Nat.sub_zero, List.drop_length, List.take_length, hj, if_neg (by simpa using hw)]
theorem do_null (T : TypeId) (D : Nat → Prop) (w : World) (p : Nat) (A : Option Addr) (c : Nat) (vs : List Value) (P : List JV) (h : RowAt T D w p A c vs P) (hn : P.length ≤ 1048576) (s : StepV) (B : Option Addr) (d : Nat) (hu : usedF s = true) (hs : s.sort = 1) :
  Calls Tryz.prog 55 #[.pointer (some ⟨p, 0, none⟩), .agg (stepV s B d).toArray] w (DoPost T D w p (.slice A P.length c) P s) := by
 obtain ⟨SV, hSV⟩ : ∃ SV, SV = stepV s B d := ⟨_, rfl⟩
 have HC0 : Hid (SV[0]? = some (.int .i64 1)) := H_ (by rw [hSV, ← hs]; rfl)
 have HC1 : Hid (SV[1]? = some (.bool s.flag)) := H_ (by rw [hSV]; rfl)
 have HU : Hid (∀ W, Calls Tryz.prog 108 #[.agg SV.toArray] W fun e w' => e = .returned (.bool true) ∧ Keeps (fun _ => False) W w') := H_ fun W => by
  have := used_any W s B d
  rw [hu, ← hSV] at this
  exact this
 have HSL : Hid (SV.length = 6) := H_ (by rw [hSV]; rfl)
 have HSI : Hid ((Tryz.prog.info? 131).map (·.size) = some SV.length) := H_ (by rw [HSL.out]; kernel_rfl)
 have HR := H_ h
 have hb1 := (Blk.new w 131 SV).alloc (.cells #[.nilIface] 32)
 have hb2 := Blk.new (w.alloc (.cells SV.toArray 131)) 32 [.nilIface]
 rw [World.size_alloc] at hb2
 have HB := H_ (And.intro (And.intro hb1 hb2) (((Keeps.refl (fun _ => False) w).alloc (.cells SV.toArray 131)).alloc (.cells #[.nilIface] 32)))
 have hmf : ∀ (fn : Fn) (first cap : Array Value) (w : World), (Instr.makeFunc fn first cap).run Tryz.prog w = .ok (.func fn first cap) w := fun _ _ _ _ => rfl
 have hlt := h.blk.lt
 rw [← hSV]
 clear h hb1 hb2 hSV
 have HP : Hid (∀ W, Keeps (fun _ => False) w W → Calls Tryz.prog 109 #[.pointer (some ⟨p, 0, none⟩), .iface 217 (.agg #[])] W fun e w' => e = .returned (.tuple #[]) ∧ RowPost T D W p (.slice A P.length c) (P ++ [JV.null]) w') := H_ fun W hW =>
  put_null T D W p A c vs P (HR.out.stay hW) hn .null true (by decide)
 have hrow := HR.out.ne_own
 have hol : ∀ g, (Value.slice A P.length c).ownBlock = some g → g < w.heap.size := fun g hg => (HR.out.own.lt g hg).2
 have HEB : Hid (∀ W w', Keeps (fun _ => False) ((w.alloc (.cells SV.toArray 131)).alloc (.cells #[.nilIface] 32)) W → Keeps (fun i => i = p ∨ (Value.slice A P.length c).ownBlock = some i) W w' → Blk w' (w.heap.size + 1) 32 [.nilIface]) := H_ fun W w' hW hk =>
  hk.blk (hW.blk HB.out.1.2 (fun h => h)) (fun e => by
   rcases e with e | e
   ·omega
   ·have := hol _ e; omega)
 clear hrow hol
 go_enter_defers Tryz.func55, Tryz.ntmps55
 go_wp2_with (first
  | ((with_reducible show wpList _ _ _ (⟨some 8, _, _, _, _, _⟩ :: _) _ _); refine wpList_load_whole rfl 131 _ rfl _ rfl HB.out.1.1 Tryz.underlying131 rfl HSI.out ?_)
  | (go_at_call 108; refine (HU.out _).mono ?_; rintro e w2 ⟨rfl, hk2⟩; have HK2 := H_ hk2; have hbs := hk2.blk HB.out.1.1 (fun h => h); have s0 := (hbs.cell 0).trans HC0.out; have s1 := (hbs.cell 1).trans HC1.out; clear hk2 hbs)
  | (go_at_call 107; refine (refuse_ok _ _).mono ?_; rintro e w3 ⟨he, rfl⟩; subst he)
  | (go_at_call 109; refine (HP.out _ (HB.out.2.trans HK2.out (fun _ _ h => h))).mono ?_; rintro e w4 ⟨rfl, hr4⟩; have hbe := HEB.out _ _ HK2.out hr4.2; have HR4 := H_ hr4; have HBE := H_ hbe; have c0 := hbe.cell 0; have f0 := hbe.frozen 0; clear hr4 hbe))
 rw [set_same HBE.out]
 refine leaves_cons (f := 106) (args := #[.pointer (some ⟨w.heap.size + 1, 0, none⟩)]) (by simp) (by simp [go_sem]) ?_
 refine (do_idle ⟨w.heap.size + 1, 0, none⟩ _).mono ?_
 rintro e u' w'' ⟨rfl, rfl, rfl⟩
 refine ⟨_, results_err rfl _ _ _ _ rfl HBE.out, ?_⟩
 have hd : doF P s = .inr (P ++ [JV.null]) := do_scalar P s (JV.null) hu (by omega) (by simp [mkV, hs]) trivial (by simp [JV.within, JV.nodes, JV.bytes, JV.deep])
 unfold DoPost
 rw [hd]
 exact ⟨rfl, HR4.out.1, ((HB.out.2.trans HK2.out (fun _ _ h => h)).mono (fun _ _ h => h.elim)).trans HR4.out.2 (fun _ _ h => h)⟩
end Go.Proofs.YtplleficmkfniaaGreatDoor
namespace Go.Proofs.YtplleficmkfniaaGreatDoor
open Go Go.RowKit Go.Aff Go.Json Go.Shelf
def Ent (f : FuncId) : Prop := ∀ args w, (callFunc f args).run Tryz.prog w = .ok (.enter f args) w
theorem methodS_list (b : Nat) (w : World) : (Go.method 529 186 (.pointer (some ⟨b, 0, none⟩)) "affidavit/node.sort").run Tryz.prog w = .ok (299, .pointer (some ⟨b, 0, none⟩)) w := by kernel_rfl
theorem methodS_object (b : Nat) (w : World) : (Go.method 529 187 (.pointer (some ⟨b, 0, none⟩)) "affidavit/node.sort").run Tryz.prog w = .ok (300, .pointer (some ⟨b, 0, none⟩)) w := by kernel_rfl
theorem sort_list (w : World) (p : Value) : Calls Tryz.prog 299 #[p] w fun e w' => e = .returned (.int .i64 5) ∧ Keeps (fun _ => False) w w' := by
 go_enter Tryz.func299, Tryz.ntmps299
 go_wp2
 go_ret
 exact ⟨rfl, Keeps.refl _ _⟩
theorem sort_object (w : World) (p : Value) : Calls Tryz.prog 300 #[p] w fun e w' => e = .returned (.int .i64 6) ∧ Keeps (fun _ => False) w w' := by
 go_enter Tryz.func300, Tryz.ntmps300
 go_wp2
 go_ret
 exact ⟨rfl, Keeps.refl _ _⟩
theorem sort_inv {D : Nat → Prop} {w : World} {v : Value} {j : JV} (h : JAt D w v j) : ∃ T x f u, v = .iface T x ∧ (∀ W, (Go.method 529 T x "affidavit/node.sort").run Tryz.prog W = .ok (f, u) W) ∧ Ent f ∧
  ∀ W, Calls Tryz.prog f #[u] W fun e w' => e = .returned (.int .i64 j.sort) ∧ Keeps (fun _ => False) W w' := by
 cases h with
 | null => exact ⟨_, _, _, _, rfl, fun W => methodS_null _ W, enters_of Tryz.func302 (by kernel_rfl) rfl, fun W => sort_null W⟩
 | flag b => exact ⟨_, _, _, _, rfl, fun W => methodS_flag _ W, enters_of Tryz.func304 (by kernel_rfl) rfl, fun W => sort_flag W b⟩
 | num b => exact ⟨_, _, _, _, rfl, fun W => methodS_number _ W, enters_of Tryz.func306 (by kernel_rfl) rfl, fun W => sort_number W b⟩
 | text s => exact ⟨_, _, _, _, rfl, fun W => methodS_text _ W, enters_of Tryz.func308 (by kernel_rfl) rfl, fun W => sort_text W s⟩
 | list => exact ⟨_, _, _, _, rfl, fun W => methodS_list _ W, enters_of Tryz.func299 (by kernel_rfl) rfl, fun W => sort_list W _⟩
 | obj => exact ⟨_, _, _, _, rfl, fun W => methodS_object _ W, enters_of Tryz.func300 (by kernel_rfl) rfl, fun W => sort_object W _⟩
theorem refsort_any {D : Nat → Prop} {w : World} {v : Value} {j : JV} (h : JAt D w v j) (W : World) : Calls Tryz.prog 47 #[.agg #[v]] W fun e w' => e = .returned (.int .i64 j.sort) ∧ Keeps (fun _ => False) W w' := by
 obtain ⟨T, x, f, u, rfl, hm, he, hc⟩ := sort_inv h
 have c0 := (Blk.new W 95 [.iface T x]).cell 0
 have HC := H_ (hc (W.alloc (.cells #[.iface T x] 95)))
 have HK := H_ ((Keeps.refl (fun _ => False) W).alloc (.cells #[.iface T x] 95))
 unfold Ent at he
 clear hc h
 go_enter Tryz.func47, Tryz.ntmps47
 go_wp2_with (go_at_fn f; refine HC.out.mono ?_; rintro e w2 ⟨rfl, hk2⟩; have HK2 := H_ hk2; clear hk2)
 go_ret
 exact ⟨rfl, HK.out.trans HK2.out (fun _ _ h => h)⟩
structure Items (D : Nat → Prop) (w : World) (j : JV) (A : Option Addr) (vs : List Value) : Prop where
 rd : Rd w A j.items.length vs
 inb : InB D A j.items.length
 at_ : ∀ (i : Nat) (v : Value) (x : JV), vs[i]? = some v → j.items[i]? = some x → JAt D w v x
theorem Items.none (D : Nat → Prop) (w : World) (j : JV) (h : j.items = []) : Items D w j none [] := ⟨by rw [h]; exact Rd.nil _ _, by rw [h]; exact InB.zero _ _, fun i v x hv => by cases hv⟩
theorem items_inv {D : Nat → Prop} {w : World} {v : Value} {j : JV} (h : JAt D w v j) : ∃ A c vs, Items D w j A vs ∧ ∀ W, Keeps (fun _ => False) w W → Calls Tryz.prog 84 #[.agg #[v]] W fun e w' => e = .returned (.slice A j.items.length c) ∧ Keeps (fun _ => False) W w' := by
 cases h with
 | null =>
  refine ⟨none, 0, [], Items.none _ _ _ rfl, fun W _ => ?_⟩
  show Calls _ _ _ _ fun e w' => e = .returned (.slice none 0 0) ∧ _
  have c0 := (Blk.new W 95 [.iface 217 (.agg #[])]).cell 0
  have HK := H_ ((Keeps.refl (fun _ => False) W).alloc (.cells #[.iface 217 (.agg #[])] 95))
  have as1 := as_null_list
  have as2 := as_null_obj
  go_enter Tryz.func84, Tryz.ntmps84
  go_wp2
  go_ret
  exact ⟨rfl, HK.out⟩
 | flag b =>
  refine ⟨none, 0, [], Items.none _ _ _ rfl, fun W _ => ?_⟩
  show Calls _ _ _ _ fun e w' => e = .returned (.slice none 0 0) ∧ _
  have c0 := (Blk.new W 95 [.iface 218 (.bool b)]).cell 0
  have HK := H_ ((Keeps.refl (fun _ => False) W).alloc (.cells #[.iface 218 (.bool b)] 95))
  have as1 := as_flag_list
  have as2 := as_flag_obj
  go_enter Tryz.func84, Tryz.ntmps84
  go_wp2
  go_ret
  exact ⟨rfl, HK.out⟩
 | num b hf hz hlt =>
  refine ⟨none, 0, [], Items.none _ _ _ rfl, fun W _ => ?_⟩
  show Calls _ _ _ _ fun e w' => e = .returned (.slice none 0 0) ∧ _
  have c0 := (Blk.new W 95 [.iface 223 (.float .f64 b)]).cell 0
  have HK := H_ ((Keeps.refl (fun _ => False) W).alloc (.cells #[.iface 223 (.float .f64 b)] 95))
  have as1 := as_num_list
  have as2 := as_num_obj
  go_enter Tryz.func84, Tryz.ntmps84
  go_wp2
  go_ret
  exact ⟨rfl, HK.out⟩
 | text s =>
  refine ⟨none, 0, [], Items.none _ _ _ rfl, fun W _ => ?_⟩
  show Calls _ _ _ _ fun e w' => e = .returned (.slice none 0 0) ∧ _
  have c0 := (Blk.new W 95 [.iface 224 (.string s)]).cell 0
  have HK := H_ ((Keeps.refl (fun _ => False) W).alloc (.cells #[.iface 224 (.string s)] 95))
  have as1 := as_text_list
  have as2 := as_text_obj
  go_enter Tryz.func84, Tryz.ntmps84
  go_wp2
  go_ret
  exact ⟨rfl, HK.out⟩
 | @list b A c vs l hD hb hr ho hl =>
  obtain ⟨n, hn⟩ : ∃ n, n = l.length := ⟨_, rfl⟩
  refine ⟨A, c, vs, ⟨hr, ho, hl⟩, fun W hW => ?_⟩
  have hbW := hW.blk hb (fun h => h)
  have d3 : (W.alloc (.cells #[.iface 186 (.pointer (some ⟨b, 0, none⟩))] 95)).cell? ⟨b, 3, none⟩ = some (.slice A l.length c) := (hbW.alloc _).cell 3
  show Calls _ _ _ _ fun e w' => e = .returned (.slice A l.length c) ∧ _
  rw [← hn] at d3 ⊢
  clear hb hr ho hl hbW hn
  have c0 := (Blk.new W 95 [.iface 186 (.pointer (some ⟨b, 0, none⟩))]).cell 0
  have HK := H_ ((Keeps.refl (fun _ => False) W).alloc (.cells #[.iface 186 (.pointer (some ⟨b, 0, none⟩))] 95))
  have as1 := as_list_list
  go_enter Tryz.func84, Tryz.ntmps84
  go_wp2
  go_ret
  exact ⟨rfl, HK.out⟩
 | @obj b A B c d vs ks l hD hb hk hok hr ho hl =>
  obtain ⟨n, hn⟩ : ∃ n, n = l.length := ⟨_, rfl⟩
  refine ⟨A, c, vs, ⟨hr, ho, hl⟩, fun W hW => ?_⟩
  have hbW := hW.blk hb (fun h => h)
  have d4 : (W.alloc (.cells #[.iface 187 (.pointer (some ⟨b, 0, none⟩))] 95)).cell? ⟨b, 4, none⟩ = some (.slice A l.length c) := (hbW.alloc _).cell 4
  show Calls _ _ _ _ fun e w' => e = .returned (.slice A l.length c) ∧ _
  rw [← hn] at d4 ⊢
  clear hb hk hok hr ho hl hbW hn
  have c0 := (Blk.new W 95 [.iface 187 (.pointer (some ⟨b, 0, none⟩))]).cell 0
  have HK := H_ ((Keeps.refl (fun _ => False) W).alloc (.cells #[.iface 187 (.pointer (some ⟨b, 0, none⟩))] 95))
  have as1 := as_obj_list
  have as2 := as_obj_obj
  go_enter Tryz.func84, Tryz.ntmps84
  go_wp2
  go_ret
  exact ⟨rfl, HK.out⟩
theorem keys_inv {D : Nat → Prop} {w : World} {v : Value} {j : JV} (h : JAt D w v j) : ∃ A c, Rd w A j.keys.length (j.keys.map .string) ∧ InB D A j.keys.length ∧ ∀ W, Keeps (fun _ => False) w W → Calls Tryz.prog 83 #[.agg #[v]] W fun e w' => e = .returned (.slice A j.keys.length c) ∧ Keeps (fun _ => False) W w' := by
 cases h with
 | null =>
  refine ⟨none, 0, Rd.nil _ _, InB.zero _ _, fun W _ => ?_⟩
  show Calls _ _ _ _ fun e w' => e = .returned (.slice none 0 0) ∧ _
  have c0 := (Blk.new W 95 [.iface 217 (.agg #[])]).cell 0
  have HK := H_ ((Keeps.refl (fun _ => False) W).alloc (.cells #[.iface 217 (.agg #[])] 95))
  have as2 := as_null_obj
  go_enter Tryz.func83, Tryz.ntmps83
  go_wp2
  go_ret
  exact ⟨rfl, HK.out⟩
 | flag b =>
  refine ⟨none, 0, Rd.nil _ _, InB.zero _ _, fun W _ => ?_⟩
  show Calls _ _ _ _ fun e w' => e = .returned (.slice none 0 0) ∧ _
  have c0 := (Blk.new W 95 [.iface 218 (.bool b)]).cell 0
  have HK := H_ ((Keeps.refl (fun _ => False) W).alloc (.cells #[.iface 218 (.bool b)] 95))
  have as2 := as_flag_obj
  go_enter Tryz.func83, Tryz.ntmps83
  go_wp2
  go_ret
  exact ⟨rfl, HK.out⟩
 | num b hf hz hlt =>
  refine ⟨none, 0, Rd.nil _ _, InB.zero _ _, fun W _ => ?_⟩
  show Calls _ _ _ _ fun e w' => e = .returned (.slice none 0 0) ∧ _
  have c0 := (Blk.new W 95 [.iface 223 (.float .f64 b)]).cell 0
  have HK := H_ ((Keeps.refl (fun _ => False) W).alloc (.cells #[.iface 223 (.float .f64 b)] 95))
  have as2 := as_num_obj
  go_enter Tryz.func83, Tryz.ntmps83
  go_wp2
  go_ret
  exact ⟨rfl, HK.out⟩
 | text s =>
  refine ⟨none, 0, Rd.nil _ _, InB.zero _ _, fun W _ => ?_⟩
  show Calls _ _ _ _ fun e w' => e = .returned (.slice none 0 0) ∧ _
  have c0 := (Blk.new W 95 [.iface 224 (.string s)]).cell 0
  have HK := H_ ((Keeps.refl (fun _ => False) W).alloc (.cells #[.iface 224 (.string s)] 95))
  have as2 := as_text_obj
  go_enter Tryz.func83, Tryz.ntmps83
  go_wp2
  go_ret
  exact ⟨rfl, HK.out⟩
 | @list b A c vs l hD hb hr ho hl =>
  refine ⟨none, 0, Rd.nil _ _, InB.zero _ _, fun W _ => ?_⟩
  show Calls _ _ _ _ fun e w' => e = .returned (.slice none 0 0) ∧ _
  clear hb hr ho hl
  have c0 := (Blk.new W 95 [.iface 186 (.pointer (some ⟨b, 0, none⟩))]).cell 0
  have HK := H_ ((Keeps.refl (fun _ => False) W).alloc (.cells #[.iface 186 (.pointer (some ⟨b, 0, none⟩))] 95))
  have as2 := as_list_obj
  go_enter Tryz.func83, Tryz.ntmps83
  go_wp2
  go_ret
  exact ⟨rfl, HK.out⟩
 | @obj b A B c d vs ks l hD hb hk hok hr ho hl =>
  obtain ⟨n, hn⟩ : ∃ n, n = ks.length := ⟨_, rfl⟩
  refine ⟨B, d, hk, hok, fun W hW => ?_⟩
  have hbW := hW.blk hb (fun h => h)
  have d3 : (W.alloc (.cells #[.iface 187 (.pointer (some ⟨b, 0, none⟩))] 95)).cell? ⟨b, 3, none⟩ = some (.slice B ks.length d) := (hbW.alloc _).cell 3
  show Calls _ _ _ _ fun e w' => e = .returned (.slice B ks.length d) ∧ _
  rw [← hn] at d3 ⊢
  clear hb hk hok hr ho hl hbW hn
  have c0 := (Blk.new W 95 [.iface 187 (.pointer (some ⟨b, 0, none⟩))]).cell 0
  have HK := H_ ((Keeps.refl (fun _ => False) W).alloc (.cells #[.iface 187 (.pointer (some ⟨b, 0, none⟩))] 95))
  have as2 := as_obj_obj
  go_enter Tryz.func83, Tryz.ntmps83
  go_wp2
  go_ret
  exact ⟨rfl, HK.out⟩
end Go.Proofs.YtplleficmkfniaaGreatDoor
