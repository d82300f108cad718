/-
  WALK: the statement BookFolds.
-/
import Derived.Test.YtknecjjdegngfaaDoorFoldOkW
import Derived.Test.YtknecjjdegngfaaDoorTellW
set_option linter.unusedSimpArgs false
namespace Go.Aff
open Go Go.RowKit Go.Sha
/-- 'make([]Digest, 0, n)'. -/
theorem wpList_make_dig {P : Program} (w0 w : World) {ops : Array Oper} {rest : List Oper} {o : Oper} {a : Act} {Q : Exit → Act → World → Prop} (hg : o.guard = none) (l c : Operand) (t : TypeId) (hop : o.op = Op.makeSlice t l c)
    (e : TypeId) (z : Value) (ht : P.underlying t = some (.slice e)) (hinfo : (P.info? e).map (fun i => (i.zero, i.size, i.bytes)) = some (some z, 32, 32))
    (kl kc : IntKind) (C : Int) (n : Nat) (hl : a.eval l = .int kl 0) (hc : a.eval c = .int kc C) (hC : C = (n : Int)) (b2 : n ≤ 4398046511104) (hk : Keeps (fun _ => False) w0 w)
    (hK : ∀ A' w', MineD w0 w' e A' 0 n [] → wpList P ops Q rest (a.put o.dst (.slice A' 0 n)) w') :
    wpList P ops Q (o :: rest) a w := by
  obtain ⟨i, h2, h3, h4, h5⟩ := info_parts hinfo
  refine wpList_make_own w hg l c t hop 0 e i z 32 ht h2 h3 h4 kl kc C n hl hc hC (by rw [h5]; omega) (by simp only [maxLen]; omega) (Nat.zero_le _) fun w' ho hgr => hK _ w' ⟨ho, fun _ h => by simp at h, rfl, ?_, ?_⟩
  · exact hk.trans (Keeps.of_grown hgr) (fun g _ hb => by simp at hb)
  · intro g hg
    have e1 : some w.heap.size = some g := hg
    injection e1 with e1
    have := hk.size
    omega
theorem MineD.le {w wr : World} {e : TypeId} {A : Option Addr} {m c : Nat} {ds : List (List Int)} (h : MineD w wr e A m c ds) : m ≤ c := by
  rcases h.1.2 with ⟨hv, hn0⟩ | ⟨g, cap, cur, hv, _, _, hnc, _⟩
  · omega
  · injection hv with e1 e2 e3
    omega
end Go.Aff
namespace Go.Proofs.YtknecjjdegngfaaDoor
open Go Go.RowKit Go.Sha Go.Aff Go.Book
theorem eql_in {P : Program} {w : World} {t : TypeId} {xs ys : Array Value} {b : Bool} (h : (binOp .eql t (.agg xs) (.agg ys)).run P w = .ok (.bool b) w) : (Op.equalIn 10000 t (.agg xs) (.agg ys)).run P w = .ok b w := by
  rw [run_eql_struct] at h
  cases hr : (Op.equalIn 10000 t (.agg xs) (.agg ys)).run P w with
  | halt a b' => rw [hr] at h; cases h
  | ok b' w' =>
    rw [hr] at h
    simp only [Result.andThen_ok] at h
    injection h with h1 h2
    injection h1 with h1
    rw [h1, h2]
set_option maxRecDepth 100000 in
set_option maxHeartbeats 4000000 in
theorem bfolds_arg0 (w : World) (n : Int) (A : Option Addr) (m c : Nat) (ds : List (List Int)) (hr : RdD w A m ds) (hm : m ≤ 2000) (hn0 : n < 0) :
    Calls Tryd.prog 5 #[.int .i64 n, .slice A m c] w fun e w' => e = .returned (.bool true) ∧ Keeps (fun _ => False) w w' := by
  obtain ⟨DV, hDV⟩ : ∃ DV, DV = vb (zeroD) := ⟨_, rfl⟩
  have HDV := Lib.hid hDV
  have HD1 : Hid (∀ u ∈ DV, u.oneCell' = true) := Lib.hid (by rw [hDV]; exact vb_one _)
  have HDL : Hid (DV.length = 32) := Lib.hid (by rw [hDV, vb_length]; exact rfl)
  have HIN : Hid ((Tryd.prog.info? 24).map (·.size) = some DV.length) := Lib.hid (by rw [HDL.out]; kernel_rfl)
  have HF : Hid (∀ W A' c', RdD W A' m ds → Keeps (fun _ => False) w W → Calls Tryd.prog 19 #[.int .i64 n, .slice A' m c'] W fun e w' => e = .returned (.tuple #[.agg DV.toArray, errno 2]) ∧ Keeps (fun _ => False) W w') := Lib.hid fun W A' c' hr' hk' => by
    rw [hDV]
    exact fold_arg W n A' m c' (.inl hn0)
  have HEQ : Hid (∀ W, (binOp .eql 24 (.agg DV.toArray) (.agg #[.int .u8 0, .int .u8 0, .int .u8 0, .int .u8 0, .int .u8 0, .int .u8 0, .int .u8 0, .int .u8 0, .int .u8 0, .int .u8 0, .int .u8 0, .int .u8 0, .int .u8 0, .int .u8 0, .int .u8 0, .int .u8 0, .int .u8 0, .int .u8 0, .int .u8 0, .int .u8 0, .int .u8 0, .int .u8 0, .int .u8 0, .int .u8 0, .int .u8 0, .int .u8 0, .int .u8 0, .int .u8 0, .int .u8 0, .int .u8 0, .int .u8 0, .int .u8 0])).run Tryd.prog W = .ok (.bool true) W) := Lib.hid (by rw [hDV]; exact dig_self (zeroD) rfl)
  have HPl : Hid (∀ W, Keeps (fun _ => False) w W → Calls Tryd.prog 21 #[.slice A m c] W fun e w' => ∃ A' c', e = .returned (.slice A' m c') ∧ MineD W w' 23 A' m c' ds) := Lib.hid fun W hk' => plain_any W A m c ds (hr.keep hk' (no_out _ _)) hm
  have HR := Lib.hid hr
  clear hr hDV
  go_enter Tryd.func5, Tryd.ntmps5
  go_wp2_with (first
    | ((with_reducible show wpList _ _ _ (⟨some 14, _, _, _, _, _⟩ :: _) _ _); refine wpList_make_dig w _ rfl _ _ 36 rfl 24 _ Tryd.underlying36 infoD .i64 .i64 _ (m + 1) rfl rfl (by omega) (by omega) (Keeps.refl _ _) ?_; intro A3 w3 hm3; have HM3 := Lib.hid hm3; clear hm3)
    | ((with_reducible show wpList _ _ _ (⟨some 16, _, _, _, _, _⟩ :: _) _ _); refine wpList_append_dig w _ rfl _ _ 36 rfl 24 _ Tryd.underlying36 infoD rfl A3 0 (m + 1) [] rfl HM3.out A m c ds rfl (HR.out.keep HM3.out.2.2.2.1 (no_out _ _)) (by omega) ?_; intro A5 c5 w5 hm5 _ _; rw [List.nil_append, Nat.zero_add] at hm5; have HM5 := Lib.hid hm5; clear hm5)
    | (go_at_call 19; refine (HF.out w5 A5 c5 HM5.out.rd HM5.out.2.2.2.1).mono ?_; rintro e w6 ⟨rfl, hk6⟩; have HK6 := Lib.hid (HM5.out.2.2.2.1.trans hk6 (fun _ _ h => h)); have HG6 := Lib.hid (HM5.out.rd.keep hk6 (no_out _ _)); have HZ6 := Lib.hid (Blk.new w6 24 (List.replicate 32 (Value.int .u8 0))); clear hk6)
    | ((with_reducible show wpList _ _ _ (⟨none, Op.store 24 _ _, _, _, _, _⟩ :: _) _ _); refine wpList_store_whole rfl 24 _ _ rfl DV rfl rfl HZ6.out (by rw [HDL.out]; simp) HIN.out HD1.out ?_; refine gen_world (fun W => Blk W w6.heap.size 24 DV ∧ Keeps (fun _ => False) w W ∧ RdD W A5 m ds) ⟨HZ6.out.setRow DV, (HK6.out.alloc _).setRow (.inr HK6.out.size) _, HG6.out.keep (((Keeps.refl (fun _ => False) w6).alloc _).setRow (.inr (Nat.le_refl _)) _) (no_out _ _)⟩ ?_; rintro w7 ⟨hb7, hk7, hg7⟩; have HB7 := Lib.hid hb7; have HK7 := Lib.hid hk7; have HG7 := Lib.hid hg7; clear hb7 hk7 hg7)
    | (go_at_call 21; refine (HPl.out w7 HK7.out).mono ?_; rintro e w8 ⟨A8, c8, rfl, hm8⟩; have HM8 := Lib.hid hm8; clear hm8)
    | (go_at_call 20; refine (same_any w8 A5 A8 m c5 c8 ds (HG7.out.keep HM8.out.2.2.2.1 (no_out _ _)) HM8.out.rd (by omega)).mono ?_; rintro e w9 ⟨rfl, hk9⟩; have hk79 := HM8.out.2.2.2.1.trans hk9 (fun _ _ h => h); have HB9 := Lib.hid (hk79.blk HB7.out (fun h => h)); have HK9 := Lib.hid (HK7.out.trans hk79 (fun _ _ h => h)); clear hk79 hk9)
    | (go_at_call 22; refine (tells_errno _ 2 rfl).mono ?_; rintro e w10 ⟨rfl, hk10⟩; have HK10 := Lib.hid (HK9.out.trans hk10 (fun _ _ h => h)); clear hk10)
    | ((with_reducible show wpList _ _ _ (⟨_, Op.load 24 _, _, _, _, _⟩ :: _) _ _); refine wpList_load_whole rfl 24 _ rfl _ rfl HB9.out Tryd.underlying24 rfl HIN.out ?_; have hEQ := HEQ.out))
  go_ret
  exact ⟨rfl, HK10.out⟩
set_option maxRecDepth 100000 in
set_option maxHeartbeats 4000000 in
theorem bfolds_arg1 (w : World) (n : Int) (A : Option Addr) (m c : Nat) (ds : List (List Int)) (hr : RdD w A m ds) (hm : m ≤ 2000) (hn0 : n > 9007199254740991) :
    Calls Tryd.prog 5 #[.int .i64 n, .slice A m c] w fun e w' => e = .returned (.bool true) ∧ Keeps (fun _ => False) w w' := by
  obtain ⟨DV, hDV⟩ : ∃ DV, DV = vb (zeroD) := ⟨_, rfl⟩
  have HDV := Lib.hid hDV
  have HD1 : Hid (∀ u ∈ DV, u.oneCell' = true) := Lib.hid (by rw [hDV]; exact vb_one _)
  have HDL : Hid (DV.length = 32) := Lib.hid (by rw [hDV, vb_length]; exact rfl)
  have HIN : Hid ((Tryd.prog.info? 24).map (·.size) = some DV.length) := Lib.hid (by rw [HDL.out]; kernel_rfl)
  have HF : Hid (∀ W A' c', RdD W A' m ds → Keeps (fun _ => False) w W → Calls Tryd.prog 19 #[.int .i64 n, .slice A' m c'] W fun e w' => e = .returned (.tuple #[.agg DV.toArray, errno 2]) ∧ Keeps (fun _ => False) W w') := Lib.hid fun W A' c' hr' hk' => by
    rw [hDV]
    exact fold_arg W n A' m c' (.inr hn0)
  have HEQ : Hid (∀ W, (binOp .eql 24 (.agg DV.toArray) (.agg #[.int .u8 0, .int .u8 0, .int .u8 0, .int .u8 0, .int .u8 0, .int .u8 0, .int .u8 0, .int .u8 0, .int .u8 0, .int .u8 0, .int .u8 0, .int .u8 0, .int .u8 0, .int .u8 0, .int .u8 0, .int .u8 0, .int .u8 0, .int .u8 0, .int .u8 0, .int .u8 0, .int .u8 0, .int .u8 0, .int .u8 0, .int .u8 0, .int .u8 0, .int .u8 0, .int .u8 0, .int .u8 0, .int .u8 0, .int .u8 0, .int .u8 0, .int .u8 0])).run Tryd.prog W = .ok (.bool true) W) := Lib.hid (by rw [hDV]; exact dig_self (zeroD) rfl)
  have HPl : Hid (∀ W, Keeps (fun _ => False) w W → Calls Tryd.prog 21 #[.slice A m c] W fun e w' => ∃ A' c', e = .returned (.slice A' m c') ∧ MineD W w' 23 A' m c' ds) := Lib.hid fun W hk' => plain_any W A m c ds (hr.keep hk' (no_out _ _)) hm
  have HR := Lib.hid hr
  clear hr hDV
  go_enter Tryd.func5, Tryd.ntmps5
  go_wp2_with (first
    | ((with_reducible show wpList _ _ _ (⟨some 14, _, _, _, _, _⟩ :: _) _ _); refine wpList_make_dig w _ rfl _ _ 36 rfl 24 _ Tryd.underlying36 infoD .i64 .i64 _ (m + 1) rfl rfl (by omega) (by omega) (Keeps.refl _ _) ?_; intro A3 w3 hm3; have HM3 := Lib.hid hm3; clear hm3)
    | ((with_reducible show wpList _ _ _ (⟨some 16, _, _, _, _, _⟩ :: _) _ _); refine wpList_append_dig w _ rfl _ _ 36 rfl 24 _ Tryd.underlying36 infoD rfl A3 0 (m + 1) [] rfl HM3.out A m c ds rfl (HR.out.keep HM3.out.2.2.2.1 (no_out _ _)) (by omega) ?_; intro A5 c5 w5 hm5 _ _; rw [List.nil_append, Nat.zero_add] at hm5; have HM5 := Lib.hid hm5; clear hm5)
    | (go_at_call 19; refine (HF.out w5 A5 c5 HM5.out.rd HM5.out.2.2.2.1).mono ?_; rintro e w6 ⟨rfl, hk6⟩; have HK6 := Lib.hid (HM5.out.2.2.2.1.trans hk6 (fun _ _ h => h)); have HG6 := Lib.hid (HM5.out.rd.keep hk6 (no_out _ _)); have HZ6 := Lib.hid (Blk.new w6 24 (List.replicate 32 (Value.int .u8 0))); clear hk6)
    | ((with_reducible show wpList _ _ _ (⟨none, Op.store 24 _ _, _, _, _, _⟩ :: _) _ _); refine wpList_store_whole rfl 24 _ _ rfl DV rfl rfl HZ6.out (by rw [HDL.out]; simp) HIN.out HD1.out ?_; refine gen_world (fun W => Blk W w6.heap.size 24 DV ∧ Keeps (fun _ => False) w W ∧ RdD W A5 m ds) ⟨HZ6.out.setRow DV, (HK6.out.alloc _).setRow (.inr HK6.out.size) _, HG6.out.keep (((Keeps.refl (fun _ => False) w6).alloc _).setRow (.inr (Nat.le_refl _)) _) (no_out _ _)⟩ ?_; rintro w7 ⟨hb7, hk7, hg7⟩; have HB7 := Lib.hid hb7; have HK7 := Lib.hid hk7; have HG7 := Lib.hid hg7; clear hb7 hk7 hg7)
    | (go_at_call 21; refine (HPl.out w7 HK7.out).mono ?_; rintro e w8 ⟨A8, c8, rfl, hm8⟩; have HM8 := Lib.hid hm8; clear hm8)
    | (go_at_call 20; refine (same_any w8 A5 A8 m c5 c8 ds (HG7.out.keep HM8.out.2.2.2.1 (no_out _ _)) HM8.out.rd (by omega)).mono ?_; rintro e w9 ⟨rfl, hk9⟩; have hk79 := HM8.out.2.2.2.1.trans hk9 (fun _ _ h => h); have HB9 := Lib.hid (hk79.blk HB7.out (fun h => h)); have HK9 := Lib.hid (HK7.out.trans hk79 (fun _ _ h => h)); clear hk79 hk9)
    | (go_at_call 22; refine (tells_errno _ 2 rfl).mono ?_; rintro e w10 ⟨rfl, hk10⟩; have HK10 := Lib.hid (HK9.out.trans hk10 (fun _ _ h => h)); clear hk10)
    | ((with_reducible show wpList _ _ _ (⟨_, Op.load 24 _, _, _, _, _⟩ :: _) _ _); refine wpList_load_whole rfl 24 _ rfl _ rfl HB9.out Tryd.underlying24 rfl HIN.out ?_; have hEQ := HEQ.out))
  go_ret
  exact ⟨rfl, HK10.out⟩
set_option maxRecDepth 100000 in
set_option maxHeartbeats 4000000 in
theorem bfolds_proof (w : World) (n : Nat) (A : Option Addr) (m c : Nat) (ds : List (List Int)) (hr : RdD w A m ds) (hm : m ≤ 2000) (hn0 : n ≤ 9007199254740991) (hm0 : m ≠ pc n) :
    Calls Tryd.prog 5 #[.int .i64 n, .slice A m c] w fun e w' => e = .returned (.bool true) ∧ Keeps (fun _ => False) w w' := by
  obtain ⟨DV, hDV⟩ : ∃ DV, DV = vb (zeroD) := ⟨_, rfl⟩
  have HDV := Lib.hid hDV
  have HD1 : Hid (∀ u ∈ DV, u.oneCell' = true) := Lib.hid (by rw [hDV]; exact vb_one _)
  have HDL : Hid (DV.length = 32) := Lib.hid (by rw [hDV, vb_length]; exact rfl)
  have HIN : Hid ((Tryd.prog.info? 24).map (·.size) = some DV.length) := Lib.hid (by rw [HDL.out]; kernel_rfl)
  have HF : Hid (∀ W A' c', RdD W A' m ds → Keeps (fun _ => False) w W → Calls Tryd.prog 19 #[.int .i64 n, .slice A' m c'] W fun e w' => e = .returned (.tuple #[.agg DV.toArray, spotV 270 (pc n : Nat)]) ∧ Keeps (fun _ => False) W w') := Lib.hid fun W A' c' hr' hk' => by
    rw [hDV]
    exact fold_proof W n A' m c' hn0 hm0
  have HEQ : Hid (∀ W, (binOp .eql 24 (.agg DV.toArray) (.agg #[.int .u8 0, .int .u8 0, .int .u8 0, .int .u8 0, .int .u8 0, .int .u8 0, .int .u8 0, .int .u8 0, .int .u8 0, .int .u8 0, .int .u8 0, .int .u8 0, .int .u8 0, .int .u8 0, .int .u8 0, .int .u8 0, .int .u8 0, .int .u8 0, .int .u8 0, .int .u8 0, .int .u8 0, .int .u8 0, .int .u8 0, .int .u8 0, .int .u8 0, .int .u8 0, .int .u8 0, .int .u8 0, .int .u8 0, .int .u8 0, .int .u8 0, .int .u8 0])).run Tryd.prog W = .ok (.bool true) W) := Lib.hid (by rw [hDV]; exact dig_self (zeroD) rfl)
  have HPl : Hid (∀ W, Keeps (fun _ => False) w W → Calls Tryd.prog 21 #[.slice A m c] W fun e w' => ∃ A' c', e = .returned (.slice A' m c') ∧ MineD W w' 23 A' m c' ds) := Lib.hid fun W hk' => plain_any W A m c ds (hr.keep hk' (no_out _ _)) hm
  have HR := Lib.hid hr
  have HMany := Lib.hid fun W => many_any W n (by omega)
  obtain ⟨p, hp⟩ : ∃ p, p = pc n := ⟨_, rfl⟩
  rw [← hp] at HF HMany hm0
  have hm' : ((m : Int) == (p : Int)) = false := by simp; omega
  clear hp hm0
  clear hr hDV
  go_enter Tryd.func5, Tryd.ntmps5
  go_wp2_with (first
    | ((with_reducible show wpList _ _ _ (⟨some 14, _, _, _, _, _⟩ :: _) _ _); refine wpList_make_dig w _ rfl _ _ 36 rfl 24 _ Tryd.underlying36 infoD .i64 .i64 _ (m + 1) rfl rfl (by omega) (by omega) (Keeps.refl _ _) ?_; intro A3 w3 hm3; have HM3 := Lib.hid hm3; clear hm3)
    | ((with_reducible show wpList _ _ _ (⟨some 16, _, _, _, _, _⟩ :: _) _ _); refine wpList_append_dig w _ rfl _ _ 36 rfl 24 _ Tryd.underlying36 infoD rfl A3 0 (m + 1) [] rfl HM3.out A m c ds rfl (HR.out.keep HM3.out.2.2.2.1 (no_out _ _)) (by omega) ?_; intro A5 c5 w5 hm5 _ _; rw [List.nil_append, Nat.zero_add] at hm5; have HM5 := Lib.hid hm5; clear hm5)
    | (go_at_call 19; refine (HF.out w5 A5 c5 HM5.out.rd HM5.out.2.2.2.1).mono ?_; rintro e w6 ⟨rfl, hk6⟩; have HK6 := Lib.hid (HM5.out.2.2.2.1.trans hk6 (fun _ _ h => h)); have HG6 := Lib.hid (HM5.out.rd.keep hk6 (no_out _ _)); have HZ6 := Lib.hid (Blk.new w6 24 (List.replicate 32 (Value.int .u8 0))); clear hk6)
    | ((with_reducible show wpList _ _ _ (⟨none, Op.store 24 _ _, _, _, _, _⟩ :: _) _ _); refine wpList_store_whole rfl 24 _ _ rfl DV rfl rfl HZ6.out (by rw [HDL.out]; simp) HIN.out HD1.out ?_; refine gen_world (fun W => Blk W w6.heap.size 24 DV ∧ Keeps (fun _ => False) w W ∧ RdD W A5 m ds) ⟨HZ6.out.setRow DV, (HK6.out.alloc _).setRow (.inr HK6.out.size) _, HG6.out.keep (((Keeps.refl (fun _ => False) w6).alloc _).setRow (.inr (Nat.le_refl _)) _) (no_out _ _)⟩ ?_; rintro w7 ⟨hb7, hk7, hg7⟩; have HB7 := Lib.hid hb7; have HK7 := Lib.hid hk7; have HG7 := Lib.hid hg7; clear hb7 hk7 hg7)
    | (go_at_call 21; refine (HPl.out w7 HK7.out).mono ?_; rintro e w8 ⟨A8, c8, rfl, hm8⟩; have HM8 := Lib.hid hm8; clear hm8)
    | (go_at_call 20; refine (same_any w8 A5 A8 m c5 c8 ds (HG7.out.keep HM8.out.2.2.2.1 (no_out _ _)) HM8.out.rd (by omega)).mono ?_; rintro e w9 ⟨rfl, hk9⟩; have hk79 := HM8.out.2.2.2.1.trans hk9 (fun _ _ h => h); have HB9 := Lib.hid (hk79.blk HB7.out (fun h => h)); have HK9 := Lib.hid (HK7.out.trans hk79 (fun _ _ h => h)); clear hk79 hk9)
    | (go_at_call 23; refine (HMany.out _).mono ?_; rintro e w11 ⟨rfl, rfl⟩)
    | (go_at_call 22; refine (tells_spot _ 270 (p : Int) rfl (by omega)).mono ?_; rintro e w10 ⟨rfl, hk10⟩; have HK10 := Lib.hid (HK9.out.trans hk10 (fun _ _ h => h)); clear hk10)
    | ((with_reducible show wpList _ _ _ (⟨_, Op.load 24 _, _, _, _, _⟩ :: _) _ _); refine wpList_load_whole rfl 24 _ rfl _ rfl HB9.out Tryd.underlying24 rfl HIN.out ?_; have hEQ := HEQ.out))
  go_ret
  exact ⟨rfl, HK10.out⟩
theorem pc_pos : ∀ n, 0 < n → 0 < pc n := by
  intro n
  induction n using Nat.strongRecOn with
  | _ n ih =>
    intro h
    rw [pc_step]
    rcases Nat.eq_zero_or_pos (n / 2) with h2 | h2
    · have : n = 1 := by omega
      subst this
      omega
    · have := ih (n / 2) (by omega) h2
      omega
theorem fold_any (w : World) (hG : Glob w) (n m : Nat) (A : Option Addr) (c : Nat) (ds : List (List Int)) (hr : RdD w A m ds) (hm : m = pc n) (hn : n ≤ 9007199254740991) :
    Calls Tryd.prog 19 #[.int .i64 n, .slice A m c] w fun e w' => e = .returned (.tuple #[.agg (vb (foldF ds)).toArray, .nilIface]) ∧ Keeps (fun _ => False) w w' := by
  rcases Nat.eq_zero_or_pos n with h0 | h0
  · subst h0
    rw [pc_zero] at hm
    subst hm
    obtain rfl : ds = [] := List.eq_nil_of_length_eq_zero hr.1
    exact fold_none w hG A c
  · rcases Nat.eq_zero_or_pos m with h1 | h1
    · exact absurd (pc_pos n h0) (by omega)
    · obtain ⟨q, rfl⟩ : ∃ q, m = q + 1 := ⟨m - 1, by omega⟩
      exact fold_some w hG n q A c ds hr hm hn
set_option maxRecDepth 100000 in
set_option maxHeartbeats 4000000 in
theorem bfolds_ok (w : World) (hG : Glob w) (n : Nat) (A : Option Addr) (m c : Nat) (ds : List (List Int)) (hr : RdD w A m ds) (hm : m ≤ 2000) (hn0 : n ≤ 9007199254740991) (hm0 : m = pc n) :
    Calls Tryd.prog 5 #[.int .i64 n, .slice A m c] w fun e w' => e = .returned (.bool true) ∧ Keeps (fun _ => False) w w' := by
  obtain ⟨DV, hDV⟩ : ∃ DV, DV = vb (foldF ds) := ⟨_, rfl⟩
  have HDV := Lib.hid hDV
  have HD1 : Hid (∀ u ∈ DV, u.oneCell' = true) := Lib.hid (by rw [hDV]; exact vb_one _)
  have HDL : Hid (DV.length = 32) := Lib.hid (by rw [hDV, vb_length]; exact (dig_fold hr.2.1).1)
  have HIN : Hid ((Tryd.prog.info? 24).map (·.size) = some DV.length) := Lib.hid (by rw [HDL.out]; kernel_rfl)
  have HF : Hid (∀ W A' c', RdD W A' m ds → Keeps (fun _ => False) w W → Calls Tryd.prog 19 #[.int .i64 n, .slice A' m c'] W fun e w' => e = .returned (.tuple #[.agg DV.toArray, .nilIface]) ∧ Keeps (fun _ => False) W w') := Lib.hid fun W A' c' hr' hk' => by
    rw [hDV]
    exact fold_any W (hG.keep hk' (fun _ h => h.elim)) n m A' c' ds hr' hm0 hn0
  have HEQ : Hid (∀ W, (binOp .eql 24 (.agg DV.toArray) (.agg DV.toArray)).run Tryd.prog W = .ok (.bool true) W) := Lib.hid (by rw [hDV]; exact dig_self (foldF ds) (dig_fold hr.2.1).1)
  have HPl : Hid (∀ W, Keeps (fun _ => False) w W → Calls Tryd.prog 21 #[.slice A m c] W fun e w' => ∃ A' c', e = .returned (.slice A' m c') ∧ MineD W w' 23 A' m c' ds) := Lib.hid fun W hk' => plain_any W A m c ds (hr.keep hk' (no_out _ _)) hm
  have HR := Lib.hid hr
  have HMany := Lib.hid fun W => many_any W n (by omega)
  rw [← hm0] at HMany
  clear hm0
  clear hr hDV
  go_enter Tryd.func5, Tryd.ntmps5
  go_wp2_with (first
    | ((with_reducible show wpList _ _ _ (⟨some 14, _, _, _, _, _⟩ :: _) _ _); refine wpList_make_dig w _ rfl _ _ 36 rfl 24 _ Tryd.underlying36 infoD .i64 .i64 _ (m + 1) rfl rfl (by omega) (by omega) (Keeps.refl _ _) ?_; intro A3 w3 hm3; have HM3 := Lib.hid hm3; clear hm3)
    | ((with_reducible show wpList _ _ _ (⟨some 16, _, _, _, _, _⟩ :: _) _ _); refine wpList_append_dig w _ rfl _ _ 36 rfl 24 _ Tryd.underlying36 infoD rfl A3 0 (m + 1) [] rfl HM3.out A m c ds rfl (HR.out.keep HM3.out.2.2.2.1 (no_out _ _)) (by omega) ?_; intro A5 c5 w5 hm5 _ _; rw [List.nil_append, Nat.zero_add] at hm5; have HM5 := Lib.hid hm5; clear hm5)
    | (go_at_call 19; refine (HF.out w5 A5 c5 HM5.out.rd HM5.out.2.2.2.1).mono ?_; rintro e w6 ⟨rfl, hk6⟩; have HK6 := Lib.hid (HM5.out.2.2.2.1.trans hk6 (fun _ _ h => h)); have HG6 := Lib.hid (HM5.out.rd.keep hk6 (no_out _ _)); have HZ6 := Lib.hid (Blk.new w6 24 (List.replicate 32 (Value.int .u8 0))); clear hk6)
    | ((with_reducible show wpList _ _ _ (⟨none, Op.store 24 _ _, _, _, _, _⟩ :: _) _ _); refine wpList_store_whole rfl 24 _ _ rfl DV rfl rfl HZ6.out (by rw [HDL.out]; simp) HIN.out HD1.out ?_; refine gen_world (fun W => Blk W w6.heap.size 24 DV ∧ Keeps (fun _ => False) w W ∧ RdD W A5 m ds) ⟨HZ6.out.setRow DV, (HK6.out.alloc _).setRow (.inr HK6.out.size) _, HG6.out.keep (((Keeps.refl (fun _ => False) w6).alloc _).setRow (.inr (Nat.le_refl _)) _) (no_out _ _)⟩ ?_; rintro w7 ⟨hb7, hk7, hg7⟩; have HB7 := Lib.hid hb7; have HK7 := Lib.hid hk7; have HG7 := Lib.hid hg7; clear hb7 hk7 hg7)
    | (go_at_call 21; refine (HPl.out w7 HK7.out).mono ?_; rintro e w8 ⟨A8, c8, rfl, hm8⟩; have HM8 := Lib.hid hm8; clear hm8)
    | (go_at_call 20; refine (same_any w8 A5 A8 m c5 c8 ds (HG7.out.keep HM8.out.2.2.2.1 (no_out _ _)) HM8.out.rd (by omega)).mono ?_; rintro e w9 ⟨rfl, hk9⟩; have hk79 := HM8.out.2.2.2.1.trans hk9 (fun _ _ h => h); have HB9 := Lib.hid (hk79.blk HB7.out (fun h => h)); have HK9 := Lib.hid (HK7.out.trans hk79 (fun _ _ h => h)); clear hk79 hk9)
    | (go_at_call 23; refine (HMany.out _).mono ?_; rintro e w11 ⟨rfl, rfl⟩)
    | ((with_reducible show wpList _ _ _ (⟨_, Op.load 24 _, _, _, _, _⟩ :: _) _ _); refine wpList_load_whole rfl 24 _ rfl _ rfl HB9.out Tryd.underlying24 rfl HIN.out ?_; have hEQ := HEQ.out))
  have HRG9 : Hid (∀ W, Keeps (fun _ => False) _ W → W.rangeAt w6.heap.size 0 DV) := Lib.hid fun W hk' j v hv => by rw [Nat.zero_add, (hk'.blk HB9.out (fun h => h)).cell, hv]
  refine wp_region_held_drew (S := Keeps (fun _ => False) w11) (by kernel_rfl) (Keeps.refl _ _).drew (fun hHeld => ?_)
  refine wpAnyH_take (i := 0) (oi := ⟨some 55, _, _, _, _, _⟩) (v := ?_) rfl (by kernel_rfl) (by kernel_rfl) (by kernel_rfl) (fun _ _ _ h => h) (Or.inl ⟨by rfl, ?_⟩) hHeld ?_
  rotate_left
  · intro w' hSw
    go_simp
    first | done | rfl
  try simp only [Act.put, List.setIfInBounds_toArray, List.set_cons_zero, List.set_cons_succ]
  refine wpAnyH_take (i := 1) (oi := ⟨some 56, _, _, _, _, _⟩) (v := ?_) rfl (by kernel_rfl) (by kernel_rfl) (by kernel_rfl) (fun _ _ _ h => h) (Or.inl ⟨by rfl, ?_⟩) hHeld ?_
  rotate_left
  · intro w' hSw
    go_simp
    first | done | rfl
  try simp only [Act.put, List.setIfInBounds_toArray, List.set_cons_zero, List.set_cons_succ]
  refine wpAnyH_take (i := 2) (oi := ⟨some 57, _, _, _, _, _⟩) (v := ?_) rfl (by kernel_rfl) (by kernel_rfl) (by kernel_rfl) (fun _ _ _ h => h) (Or.inl ⟨by rfl, ?_⟩) hHeld ?_
  rotate_left
  · intro w' hSw
    go_simp
    first | done | rfl
  try simp only [Act.put, List.setIfInBounds_toArray, List.set_cons_zero, List.set_cons_succ]
  refine wpAnyH_take (i := 3) (oi := ⟨some 58, _, _, _, _, _⟩) (v := _) rfl (by kernel_rfl) (by kernel_rfl) (by kernel_rfl) (fun _ _ _ h => h) (yieldsIf_load_mid (by rfl) _ _ rfl _ _ rfl DV _ (fun w' h => HRG9.out _ h) Tryd.underlying24 rfl HIN.out) hHeld ?_
  try simp only [Act.put, List.setIfInBounds_toArray, List.set_cons_zero, List.set_cons_succ]
  refine wpAnyH_take (i := 4) (oi := ⟨some 59, _, _, _, _, _⟩) (v := ?_) rfl (by kernel_rfl) (by kernel_rfl) (by kernel_rfl) (fun _ _ _ h => h) (Or.inl ⟨by rfl, ?_⟩) hHeld ?_
  rotate_left
  · intro w' hSw
    go_simp
    first | done | rfl
  try simp only [Act.put, List.setIfInBounds_toArray, List.set_cons_zero, List.set_cons_succ]
  refine wpAnyH_ready (rs := [5]) (by kernel_rfl) (by simp) ?_
  refine AllReadyH.cons (o := ⟨some 60, _, _, _, _, _⟩) rfl (fun K hK => ?_) AllReadyH.nil
  go_simp
  refine (HPl.out _ (HK9.out.trans hHeld (fun _ _ h => h))).mono ?_
  rintro e v5 ⟨A10, c10, rfl, hm10⟩
  have hq5 := hHeld.trans hm10.2.2.2.1 (fun _ _ h => h)
  have HM10 := Lib.hid hm10
  refine hK.out _ _ hq5 (fun hHeld => ?_)
  clear hK K
  try simp only [Act.put, List.setIfInBounds_toArray, List.set_cons_zero, List.set_cons_succ]
  refine wpAnyH_ready (rs := [6]) (by kernel_rfl) (by simp) ?_
  refine AllReadyH.cons (o := ⟨some 61, _, _, _, _, _⟩) rfl (fun K hK => ?_) AllReadyH.nil
  go_simp
  refine (rfold_any ds m _ A10 c10 HM10.out.rd HM10.out.le hm).mono ?_
  rintro e v6 ⟨rfl, hk6⟩
  have hq6 := hHeld.trans hk6 (fun _ _ h => h)
  rw [← HDV.out]
  refine hK.out _ _ hq6 (fun hHeld => ?_)
  clear hK K
  try simp only [Act.put, List.setIfInBounds_toArray, List.set_cons_zero, List.set_cons_succ]
  refine wpAnyH_take (i := 7) (oi := ⟨some 62, _, _, _, _, _⟩) (v := ?_) rfl (by kernel_rfl) (by kernel_rfl) (by kernel_rfl) (fun _ _ _ h => h) (Or.inl ⟨by rfl, ?_⟩) hHeld ?_
  rotate_left
  · intro w' hSw
    have cv := eql_in (HEQ.out w')
    go_simp
    first | done | rfl
  try simp only [Act.put, List.setIfInBounds_toArray, List.set_cons_zero, List.set_cons_succ]
  refine wpAnyH_take (i := 8) (oi := ⟨some 63, _, _, _, _, _⟩) (v := ?_) rfl (by kernel_rfl) (by kernel_rfl) (by kernel_rfl) (fun _ _ _ h => h) (Or.inl ⟨by rfl, ?_⟩) hHeld ?_
  rotate_left
  · intro w' hSw
    go_simp
    first | done | rfl
  try simp only [Act.put, List.setIfInBounds_toArray, List.set_cons_zero, List.set_cons_succ]
  refine wpAnyH_take (i := 9) (oi := ⟨some 4, _, _, _, _, _⟩) (v := ?_) rfl (by kernel_rfl) (by kernel_rfl) (by kernel_rfl) (fun _ _ _ h => h) (Or.inl ⟨by rfl, ?_⟩) hHeld ?_
  rotate_left
  · intro w' hSw
    go_simp
    first | done | rfl
  try simp only [Act.put, List.setIfInBounds_toArray, List.set_cons_zero, List.set_cons_succ]
  refine wpAnyH_done (by kernel_rfl) ?_ _
  go_wp2
  go_ret
  exact ⟨rfl, HK9.out.trans hq6 (fun _ _ h => h)⟩

set_option maxRecDepth 100000 in
theorem bfolds_long (w : World) (n : Int) (A : Option Addr) (m c : Nat) (hm : 2000 < m) :
    Calls Tryd.prog 5 #[.int .i64 n, .slice A m c] w fun e w' => e = .returned (.bool true) ∧ Keeps (fun _ => False) w w' := by
  have h1 : (2000 : Int) < (m : Int) := by omega
  go_enter Tryd.func5, Tryd.ntmps5
  go_wp2
  go_ret
  exact ⟨rfl, Keeps.refl _ w⟩
/-- THE LAW: the root of peaks. -/
theorem bfolds_any (w : World) (hG : Glob w) (n : Int) (A : Option Addr) (m c : Nat) (ds : List (List Int)) (hr : RdD w A m ds) :
    Calls Tryd.prog 5 #[.int .i64 n, .slice A m c] w fun e w' => e = .returned (.bool true) ∧ Keeps (fun _ => False) w w' := by
  rcases Nat.lt_or_ge 2000 m with h1 | hm
  · exact bfolds_long w n A m c h1
  · by_cases h2 : n < 0
    · exact bfolds_arg0 w n A m c ds hr hm h2
    · by_cases h3 : n > 9007199254740991
      · exact bfolds_arg1 w n A m c ds hr hm h3
      · obtain ⟨k, rfl⟩ : ∃ k : Nat, n = k := ⟨n.toNat, by omega⟩
        by_cases h4 : m = pc k
        · exact bfolds_ok w hG k A m c ds hr hm (by omega) h4
        · exact bfolds_proof w k A m c ds hr hm (by omega) h4
end Go.Proofs.YtknecjjdegngfaaDoor
