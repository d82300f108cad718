/-
  WALKS: what a book answers where it is asked rightly.
-/
import Derived.Test.YtknecjjdegngfaaDoorStandW
set_option linter.unusedSimpArgs false
namespace Go.Proofs.YtknecjjdegngfaaDoor
open Go Go.RowKit Go.Sha Go.Aff Go.Book
theorem dig_leaf (bs : List Int) : IsDig (leafF bs) := ⟨sumF_length _ _ _, dg_bytes _⟩
theorem digs_leaves (es : List (List Int)) : IsDigs (es.map leafF) := fun d hd => by
  obtain ⟨bs, _, rfl⟩ := List.mem_map.1 hd
  exact dig_leaf bs
theorem BookAt.rdd {wr : World} {p : Nat} {u : Value} {B : Option Addr} {d : Nat} {es : List (List Int)} {y : Int} (h : BookAt wr p u (.slice B es.length d) es y) : RdD wr B es.length (es.map leafF) :=
  RdD.of_own h.2.2 (digs_leaves es) (by simp)
set_option maxRecDepth 100000 in
theorem check_ok (w : World) (p : Nat) (u l : Value) (es : List (List Int)) (y : Int) (h : BookAt w p u l es y) (n least : Int) (h1 : least ≤ n) (h2 : n ≤ (es.length : Int)) :
    Calls Tryd.prog 64 #[.pointer (some ⟨p, 0, none⟩), .int .i64 n, .int .i64 least] w fun e w' => e = .returned .nilIface ∧ w' = w := by
  obtain ⟨A, c, B, d, rfl, rfl⟩ := h.form
  have e1 := h.1.cell 1
  simp only [List.getElem?_cons_zero, List.getElem?_cons_succ] at e1
  obtain ⟨m0, hm0⟩ : ∃ m0, m0 = es.length := ⟨_, rfl⟩
  rw [← hm0] at e1 h2
  have h3 : ¬ n < least := by omega
  have h4 : ¬ (m0 : Int) < n := by omega
  clear h hm0
  go_enter Tryd.func64, Tryd.ntmps64
  go_wp2
  go_ret
  exact ⟨rfl, rfl⟩
set_option maxRecDepth 100000 in
set_option maxHeartbeats 1000000 in
theorem bentry_ok (w : World) (p : Nat) (u l : Value) (es : List (List Int)) (y : Int) (h : BookAt w p u l es y) (i : Nat) (bs : List Int) (hi : es[i]? = some bs) :
    Calls Tryd.prog 34 #[.pointer (some ⟨p, 0, none⟩), .int .i64 i] w fun e w' => ∃ A' c', e = .returned (.tuple #[.slice A' bs.length c', .nilIface]) ∧ Rd w' A' bs.length (vb bs) ∧ bs.length ≤ c' ∧ Keeps (fun _ => False) w w' := by
  obtain ⟨A, c, B, d, rfl, rfl⟩ := h.form
  have e0 := h.1.cell 0
  simp only [List.getElem?_cons_zero, List.getElem?_cons_succ] at e0
  obtain ⟨hb, ⟨vals, hu, hh⟩, hl⟩ := h
  have hil : i < es.length := (List.getElem?_eq_some_iff.1 hi).1
  obtain ⟨A1, c1, h1, h2, h3, h4, h5, h6⟩ := hh.2 i bs hi
  obtain ⟨g, o, rfl, hcell⟩ := (Rd.of_own hu).2 (by omega)
  have hc := (hcell i hil).trans h1
  have hcl := clone_any w A1 c1 bs h2 (by omega)
  have hcl2 := hcl.mono (fun e w' ⟨A', c', q1, q2, q3, q4⟩ => (show ∃ A' c', e = Ending.returned (Value.slice A' bs.length c') ∧ Rd w' A' bs.length (vb bs) ∧ bs.length ≤ c' ∧ Keeps (fun _ => False) w w' from ⟨A', c', q1, Rd.of_own q2, own_le q2, q3⟩))
  obtain ⟨nb, hnb⟩ : ∃ nb, nb = bs.length := ⟨_, rfl⟩
  obtain ⟨m0, hm0⟩ : ∃ m0, m0 = es.length := ⟨_, rfl⟩
  rw [← hnb] at hcl2 hc ⊢
  rw [← hm0] at e0 hil
  have hi2 : (i : Int) < (m0 : Int) := by omega
  have HCL := Lib.hid hcl2
  clear hb hu hh hl hi h1 h2 h3 h4 h5 h6 hcell hcl hcl2 hnb hm0
  go_enter Tryd.func34, Tryd.ntmps34
  go_wp2_with (go_at_call 63; refine HCL.out.mono ?_; rintro e w1 ⟨A3, c3, rfl, hr3, hc3, hk3⟩)
  go_ret2
  exact ⟨_, _, rfl, hr3, hc3, hk3⟩
set_option maxRecDepth 100000 in
set_option maxHeartbeats 1000000 in
theorem broots_ok (w : World) (hG : Glob w) (p : Nat) (u l : Value) (es : List (List Int)) (y : Int) (h : BookAt w p u l es y) (n : Int) (hn1 : 0 ≤ n) (hn2 : n ≤ (es.length : Int)) (hes : es.length ≤ 65536) :
    Calls Tryd.prog 35 #[.pointer (some ⟨p, 0, none⟩), .int .i64 n] w fun e w' => e = .returned (.tuple #[.agg (vb (brootF ((es.map leafF).take n.toNat))).toArray, .nilIface]) ∧ Keeps (fun _ => False) w w' := by
  obtain ⟨W1, hW1⟩ : ∃ W1, W1 = w.alloc (.cells (List.replicate 32 (Value.int .u8 0)).toArray 24) := ⟨_, rfl⟩
  have hk1 : Keeps (fun _ => False) w W1 := by rw [hW1]; exact (Keeps.refl _ w).alloc _
  have HZ : Hid (Blk W1 w.heap.size 24 (List.replicate 32 (Value.int .u8 0))) := Lib.hid (by rw [hW1]; exact Blk.new _ _ _)
  have HK1 := Lib.hid hk1
  have h' := h.keep hk1
  obtain ⟨A, c, B, d, rfl, rfl⟩ := h'.form
  have e1 : ∀ o : Obj, (w.alloc o).cell? ⟨p, 1, none⟩ = some (.slice B es.length d) := fun o => by rw [(h.1.alloc o).cell]; rfl
  clear h
  have hL := h'.rdd
  have hld := own_le h'.2.2
  have HCK := Lib.hid (check_ok W1 p _ _ es y h' n 0 (by omega) (by omega))
  obtain ⟨m0, hm0⟩ : ∃ m0, m0 = es.length := ⟨_, rfl⟩
  obtain ⟨n', rfl⟩ : ∃ k : Nat, n = k := ⟨n.toNat, by omega⟩
  rw [Int.toNat_natCast]
  rw [← hm0] at e1 hL hld hn2 hes
  have HC : Hid (∀ W, (Instr.sliceAt 36 (.slice B m0 d) none (some (.int .i64 n')) (some (.int .i64 n'))).run Tryd.prog W = .ok (.slice (cutD B n' 0) n' n') W) := Lib.hid (cutD_hm Tryd.underlying36 (by kernel_rfl) B m0 d n' n' n' rfl rfl (by omega))
  have hR := hL.cutHM (k := n') (by omega)
  have HR := Lib.hid (broot_any n' _ W1 (hG.keep hk1 (fun _ h => h.elim)) _ n' hR (Nat.le_refl _) (by omega))
  obtain ⟨DV, hDV⟩ : ∃ DV, DV = vb (brootF ((es.map leafF).take n')) := ⟨_, rfl⟩
  have HD1 : Hid (∀ u ∈ DV, u.oneCell' = true) := Lib.hid (by rw [hDV]; exact vb_one _)
  have HDL : Hid (DV.length = 32) := Lib.hid (by rw [hDV, vb_length]; exact (dig_root ((digs_leaves es).take n')).1)
  have HIN : Hid ((Tryd.prog.info? 24).map (·.size) = some DV.length) := Lib.hid (by rw [HDL.out]; kernel_rfl)
  rw [← hDV] at HR ⊢
  have hcv := HC.out
  rw [hW1] at HR HZ HK1 HCK
  clear hDV hW1 hk1 hR hL h' hG hm0 HC
  go_enter Tryd.func35, Tryd.ntmps35
  go_wp2_with (first
    | (go_at_call 64; refine HCK.out.mono ?_; rintro e w9 ⟨rfl, hw9⟩; subst hw9)
    | (go_at_call 65; refine HR.out.mono ?_; rintro e w6 ⟨rfl, hk6⟩; have HZ9 := Lib.hid (hk6.blk HZ.out (fun h => h)); have HK9 := Lib.hid (HK1.out.trans hk6 (fun _ _ h => h)); clear hk6)
    | ((with_reducible show wpList _ _ _ (⟨none, Op.store 24 _ _, _, _, _, _⟩ :: _) _ _); refine wpList_store_whole rfl 24 _ _ rfl DV rfl rfl HZ9.out (by rw [HDL.out]; simp) HIN.out HD1.out ?_))
  refine bodyPost_ret (results_blk_tmp rfl _ _ rfl (HZ9.out.setRow DV) Tryd.underlying24 rfl HIN.out) rfl ⟨rfl, HK9.out.setRow (.inr (Nat.le_refl _)) _⟩
set_option maxRecDepth 100000 in
set_option maxHeartbeats 1000000 in
theorem bstand_ok (w : World) (hG : Glob w) (p : Nat) (u l : Value) (es : List (List Int)) (y : Int) (h : BookAt w p u l es y) (i n' : Nat) (hi : i < n') (hn2 : n' ≤ es.length) (hes : es.length ≤ 65536) :
    Calls Tryd.prog 36 #[.pointer (some ⟨p, 0, none⟩), .int .i64 i, .int .i64 n'] w fun e w' => ∃ A' L c', e = .returned (.tuple #[.slice A' L c', .nilIface]) ∧ MineD w w' 24 A' L c' (standsG emptyF pairF i ((es.map leafF).take n')) := by
  obtain ⟨A, c, B, d, rfl, rfl⟩ := h.form
  have e1 := h.1.cell 1
  simp only [List.getElem?_cons_zero, List.getElem?_cons_succ] at e1
  have hL := h.rdd
  have hld := own_le h.2.2
  have HCK := Lib.hid (check_ok w p _ _ es y h n' 1 (by omega) (by omega))
  obtain ⟨m0, hm0⟩ : ∃ m0, m0 = es.length := ⟨_, rfl⟩
  rw [← hm0] at e1 hL hld hn2 hes
  have hcv := cutD_hm (P := Tryd.prog) Tryd.underlying36 (by kernel_rfl) B m0 d n' n' n' rfl rfl (by omega)
  have hR := hL.cutHM (k := n') (by omega)
  have hcall := bstands_any n' i _ w hG _ n' hR (Nat.le_refl _) (by omega) hi
  obtain ⟨S0, hS0⟩ : ∃ S, S = standsG emptyF pairF i ((es.map leafF).take n') := ⟨_, rfl⟩
  rw [← hS0] at hcall ⊢
  obtain ⟨L, hLL⟩ : ∃ L, L = S0.length := ⟨_, rfl⟩
  rw [← hLL] at hcall
  have HCA := Lib.hid hcall
  have i1 : ¬ (i : Int) < 0 := by omega
  have i2 : (i : Int) < (n' : Int) := by omega
  clear hS0 hLL hcall hR hL h hG hm0
  go_enter Tryd.func36, Tryd.ntmps36
  go_wp2_with (first
    | (go_at_call 64; refine HCK.out.mono ?_; rintro e w9 ⟨rfl, hw9⟩; have hw8 := hw9.symm; clear hw9; subst hw8)
    | (go_at_call 66; refine HCA.out.mono ?_; rintro e w6 ⟨A6, c6, rfl, hm6⟩))
  go_ret2
  exact ⟨_, _, _, rfl, hm6⟩
set_option maxRecDepth 100000 in
set_option maxHeartbeats 1000000 in
theorem bgrow_ok (w : World) (hG : Glob w) (p : Nat) (u l : Value) (es : List (List Int)) (y : Int) (h : BookAt w p u l es y) (i n' : Nat) (hi : 0 < i) (hi2 : i ≤ n') (hn2 : n' ≤ es.length) (hes : es.length ≤ 65536) :
    Calls Tryd.prog 37 #[.pointer (some ⟨p, 0, none⟩), .int .i64 i, .int .i64 n'] w fun e w' => ∃ A' L c', e = .returned (.tuple #[.slice A' L c', .nilIface]) ∧ MineD w w' 24 A' L c' (growG emptyF pairF i ((es.map leafF).take n') true) := by
  obtain ⟨A, c, B, d, rfl, rfl⟩ := h.form
  have e1 := h.1.cell 1
  simp only [List.getElem?_cons_zero, List.getElem?_cons_succ] at e1
  have hL := h.rdd
  have hld := own_le h.2.2
  have HCK := Lib.hid (check_ok w p _ _ es y h n' 0 (by omega) (by omega))
  obtain ⟨m0, hm0⟩ : ∃ m0, m0 = es.length := ⟨_, rfl⟩
  rw [← hm0] at e1 hL hld hn2 hes
  have hcv := cutD_hm (P := Tryd.prog) Tryd.underlying36 (by kernel_rfl) B m0 d n' n' n' rfl rfl (by omega)
  have hR := hL.cutHM (k := n') (by omega)
  have hcall := bgrew_any n' i true _ w hG _ n' hR (Nat.le_refl _) (by omega) hi hi2
  obtain ⟨S0, hS0⟩ : ∃ S, S = growG emptyF pairF i ((es.map leafF).take n') true := ⟨_, rfl⟩
  rw [← hS0] at hcall ⊢
  obtain ⟨L, hLL⟩ : ∃ L, L = S0.length := ⟨_, rfl⟩
  rw [← hLL] at hcall
  have HCA := Lib.hid hcall
  have i1 : ¬ (i : Int) < 0 := by omega
  have i2 : ¬ (n' : Int) < (i : Int) := by omega
  have i3 : ((i : Int) == 0) = false := by simp; omega
  clear hS0 hLL hcall hR hL h hG hm0
  go_enter Tryd.func37, Tryd.ntmps37
  go_wp2_with (first
    | (go_at_call 64; refine HCK.out.mono ?_; rintro e w9 ⟨rfl, hw9⟩; have hw8 := hw9.symm; clear hw9; subst hw8)
    | (go_at_call 67; refine HCA.out.mono ?_; rintro e w6 ⟨A6, c6, rfl, hm6⟩))
  go_ret2
  exact ⟨_, _, _, rfl, hm6⟩
end Go.Proofs.YtknecjjdegngfaaDoor
