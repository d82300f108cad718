/-
  WALKS: a nil book; tells; the statement BookNames.
-/
import Derived.Test.YtknecjjdegngfaaDoorBookHashesW
import Derived.Test.YtknecjjdegngfaaDoorShaBW
set_option linter.unusedSimpArgs false
namespace Go.Proofs.YtknecjjdegngfaaDoor
open Go Go.RowKit Go.Sha Go.Aff Go.Book

set_option maxRecDepth 100000 in
theorem append_nil (w : World) (A : Option Addr) (n c : Nat) : Calls Tryd.prog 33 #[.pointer none, .slice A n c] w fun e w' => e = .returned (.tuple #[.int .i64 0, errno 1]) ∧ w' = w := by
  go_enter Tryd.func33, Tryd.ntmps33
  go_wp2
  go_ret2
  exact ⟨rfl, rfl⟩
set_option maxRecDepth 100000 in
theorem entry_nil (w : World) (i : Int) : Calls Tryd.prog 34 #[.pointer none, .int .i64 i] w fun e w' => e = .returned (.tuple #[.slice none 0 0, errno 1]) ∧ w' = w := by
  go_enter Tryd.func34, Tryd.ntmps34
  go_wp2
  go_ret2
  exact ⟨rfl, rfl⟩
set_option maxRecDepth 100000 in
theorem check_nil (w : World) (n l : Int) : Calls Tryd.prog 64 #[.pointer none, .int .i64 n, .int .i64 l] w fun e w' => e = .returned (errno 1) ∧ w' = w := by
  go_enter Tryd.func64, Tryd.ntmps64
  go_wp2
  go_ret
  exact ⟨rfl, rfl⟩
theorem wpList_load_whole_g {P : Program} {w : World} {g : Nat} {t : TypeId} {cs : List Value} {ops : Array Oper} {rest : List Oper} {o : Oper} {a : Act} {Q : Exit → Act → World → Prop} (hgd : Region.wanted o (yielded ops a.tmps) = true) (ty : TypeId) (x : Operand) (ho : o.op = .load ty x)
    (d : TypeDesc) (hx : a.eval x = .pointer (some ⟨g, 0, none⟩)) (hg : Blk w g t cs)
    (hu : P.underlying ty = some d) (hd : (match d with | .struct _ | .array _ _ => true | _ => false) = true) (hi : (P.info? ty).map (·.size) = some cs.length)
    (h : wpList P ops Q rest (a.put o.dst (.agg cs.toArray)) w) : wpList P ops Q (o :: rest) a w :=
  wpList_step fun _ hK => by
    rw [if_pos hgd]
    unfold Oper.wp execOp
    simp only [ho, hx, Instr.loadAt, Instr.sureAddr, Sem.run_bind, Sem.run_pure, Result.andThen_ok, run_loadVar_row w g t ty cs.toArray (0, 0) d hg hu hd (by simpa using hi)]
    exact hK _ _ h
theorem results_blk_tmp {P : Program} {w : World} {g : Nat} {t : TypeId} {cs : List Value} {fn : Func} {p u : Tmp} {ty : TypeId} (h : fn.results = #[.cell p ty, .tmp u]) (tmps : Array Value) (d : TypeDesc)
    (hp : tmps.getD p undef = .pointer (some ⟨g, 0, none⟩)) (hg : Blk w g t cs)
    (hu : P.underlying ty = some d) (hd : (match d with | .struct _ | .array _ _ => true | _ => false) = true) (hi : (P.info? ty).map (·.size) = some cs.length) :
    (results fn tmps).run P w = .ok (.tuple #[.agg cs.toArray, tmps.getD u undef]) w := by
  rw [results_cell_tmp h, hp]
  simp only [asAddr, Sem.run_pure, Result.andThen]
  rw [run_loadVar_row w g t ty cs.toArray (0, 0) d hg hu hd (by simpa using hi)]
/-- No digest at all. -/
def zeroD : List Int := List.replicate 32 0
theorem zeroD_length : zeroD.length = 32 := rfl
theorem infoZ : (Tryd.prog.info? 24).map (·.size) = some (vb zeroD).length := by kernel_rfl
set_option maxHeartbeats 1000000 in
set_option maxRecDepth 100000 in
theorem root_nil (w : World) (n : Int) : Calls Tryd.prog 35 #[.pointer none, .int .i64 n] w fun e w' => e = .returned (.tuple #[.agg (vb zeroD).toArray, errno 1]) ∧ Keeps (fun _ => False) w w' := by
  have HZ := Lib.hid (Blk.new w 24 (List.replicate 32 (Value.int .u8 0)))
  go_enter Tryd.func35, Tryd.ntmps35
  go_wp2_with (first
    | (go_at_call 64; refine (check_nil _ _ _).mono ?_; rintro e w1 ⟨rfl, rfl⟩)
    | ((with_reducible show wpList _ _ _ (⟨none, Op.store 24 _ _, _, _, _, _⟩ :: _) _ _); refine wpList_store_whole rfl 24 _ _ rfl (vb zeroD) rfl rfl HZ.out rfl (by kernel_rfl) (vb_one _) ?_))
  refine bodyPost_ret (results_blk_tmp rfl _ _ rfl (HZ.out.setRow (vb zeroD)) Tryd.underlying24 rfl infoZ) rfl ⟨rfl, ((Keeps.refl _ w).alloc _).setRow (.inr (Nat.le_refl _)) _⟩
set_option maxRecDepth 100000 in
theorem stands_nil (w : World) (i n : Int) : Calls Tryd.prog 36 #[.pointer none, .int .i64 i, .int .i64 n] w fun e w' => e = .returned (.tuple #[.slice none 0 0, errno 1]) ∧ w' = w := by
  go_enter Tryd.func36, Tryd.ntmps36
  go_wp2_with (go_at_call 64; refine (check_nil _ _ _).mono ?_; rintro e w1 ⟨rfl, rfl⟩)
  go_ret2
  exact ⟨rfl, rfl⟩
set_option maxRecDepth 100000 in
theorem grew_nil (w : World) (i n : Int) : Calls Tryd.prog 37 #[.pointer none, .int .i64 i, .int .i64 n] w fun e w' => e = .returned (.tuple #[.slice none 0 0, errno 1]) ∧ w' = w := by
  go_enter Tryd.func37, Tryd.ntmps37
  go_wp2_with (go_at_call 64; refine (check_nil _ _ _).mono ?_; rintro e w1 ⟨rfl, rfl⟩)
  go_ret2
  exact ⟨rfl, rfl⟩
set_option maxRecDepth 100000 in
theorem peaks_nil (w : World) (n : Int) : Calls Tryd.prog 38 #[.pointer none, .int .i64 n] w fun e w' => e = .returned (.tuple #[.slice none 0 0, errno 1]) ∧ w' = w := by
  go_enter Tryd.func38, Tryd.ntmps38
  go_wp2_with (go_at_call 64; refine (check_nil _ _ _).mono ?_; rintro e w1 ⟨rfl, rfl⟩)
  go_ret2
  exact ⟨rfl, rfl⟩
set_option maxRecDepth 100000 in
theorem size_nil (w : World) : Calls Tryd.prog 39 #[.pointer none] w fun e w' => e = .returned (.int .i64 0) ∧ w' = w := by
  go_enter Tryd.func39, Tryd.ntmps39
  go_wp2
  go_ret
  exact ⟨rfl, rfl⟩
set_option maxRecDepth 100000 in
theorem copy_nil (w : World) : Calls Tryd.prog 40 #[.pointer none] w fun e w' => e = .returned (.pointer none) ∧ w' = w := by
  go_enter Tryd.func40, Tryd.ntmps40
  go_wp2
  go_ret
  exact ⟨rfl, rfl⟩

theorem as_spot_errno (v : Value) (w : World) : (Instr.typeAssert (.iface 45 v) 38 79 true).run Tryd.prog w = .ok (.tuple #[.agg #[.int .i64 0, .int .i64 0], .bool false]) w := by kernel_rfl
set_option maxHeartbeats 1000000 in
set_option maxRecDepth 100000 in
/-- A number by itself. -/
theorem tells_errno (w : World) (k : Int) (hk : (k == 0) = false) : Calls Tryd.prog 22 #[errno k, .int .i64 k, .int .i64 (-1)] w fun e w' => e = .returned (.bool true) ∧ Keeps (fun _ => False) w w' := by
  have h1 := as_errno
  have h2 := as_spot_errno
  go_enter Tryd.func22, Tryd.ntmps22
  go_wp2
  go_ret
  exact ⟨rfl, (Keeps.refl _ w).alloc _⟩

set_option maxHeartbeats 4000000 in
set_option maxRecDepth 100000 in
/-- THE LAW: a nil book. -/
theorem bnames_any (w : World) : Calls Tryd.prog 8 #[] w fun e w' => e = .returned (.bool true) ∧ Keeps (fun _ => False) w w' := by
  have HK := Lib.hid (Keeps.refl (fun _ => False) w)
  have heqZ : ∀ W, (binOp .eql 24 (.agg (vb zeroD).toArray) (.agg #[.int .u8 0, .int .u8 0, .int .u8 0, .int .u8 0, .int .u8 0, .int .u8 0, .int .u8 0, .int .u8 0, .int .u8 0, .int .u8 0, .int .u8 0, .int .u8 0, .int .u8 0, .int .u8 0, .int .u8 0, .int .u8 0, .int .u8 0, .int .u8 0, .int .u8 0, .int .u8 0, .int .u8 0, .int .u8 0, .int .u8 0, .int .u8 0, .int .u8 0, .int .u8 0, .int .u8 0, .int .u8 0, .int .u8 0, .int .u8 0, .int .u8 0, .int .u8 0])).run Tryd.prog W = .ok (.bool true) W := dig_self zeroD rfl
  go_enter Tryd.func8, Tryd.ntmps8
  go_wp2_with (first
    | (go_at_call 33; refine (append_nil _ _ _ _).mono ?_; rintro e w1 ⟨rfl, rfl⟩)
    | (go_at_call 34; refine (entry_nil _ _).mono ?_; rintro e w1 ⟨rfl, rfl⟩)
    | (go_at_call 35; refine (root_nil _ _).mono ?_; rintro e wR ⟨rfl, hk1⟩; have HK1 := Lib.hid ((((HK.out.alloc (.cells #[.int .u8 1] 5)).alloc _).trans hk1 (fun _ _ h => h))); have HZ := Lib.hid (Blk.new wR 24 (List.replicate 32 (Value.int .u8 0))); clear hk1)
    | (go_at_call 36; refine (stands_nil _ _ _).mono ?_; rintro e w1 ⟨rfl, rfl⟩)
    | (go_at_call 37; refine (grew_nil _ _ _).mono ?_; rintro e w1 ⟨rfl, rfl⟩)
    | (go_at_call 38; refine (peaks_nil _ _).mono ?_; rintro e w1 ⟨rfl, rfl⟩)
    | (go_at_call 39; refine (size_nil _).mono ?_; rintro e w1 ⟨rfl, rfl⟩)
    | (go_at_call 40; refine (copy_nil _).mono ?_; rintro e w1 ⟨rfl, rfl⟩)
    | (go_at_call 22; refine (tells_errno _ 1 rfl).mono ?_; rintro e w9 ⟨rfl, hk9⟩; have HK5 := Lib.hid (HK5.out.trans hk9 (fun _ _ h => h)); clear hk9)
    | ((with_reducible show wpList _ _ _ (⟨none, Op.store 24 _ _, _, _, _, _⟩ :: _) _ _); refine wpList_store_whole rfl 24 _ _ rfl (vb zeroD) rfl rfl HZ.out rfl infoZ (vb_one _) ?_; have hb5 := HZ.out.setRow (vb zeroD); have hk5 := (HK1.out.alloc (.cells (List.replicate 32 (Value.int .u8 0)).toArray 24)).setRow (.inr HK1.out.size) (vb zeroD).toArray; refine gen_world (fun W => Blk W wR.heap.size 24 (vb zeroD) ∧ Keeps (fun _ => False) w W) ⟨hb5, hk5⟩ ?_; clear hb5 hk5; rintro w5 ⟨hb5, hk5⟩; have HB5 := Lib.hid hb5; have HK5 := Lib.hid hk5; clear hb5 hk5)
    | ((with_reducible show wpList _ _ _ (⟨some 65, Op.load 24 _, _, _, _, _⟩ :: _) _ _); refine wpList_load_whole_g (by kernel_rfl) 24 _ rfl _ rfl HB5.out Tryd.underlying24 rfl infoZ ?_))
  go_ret
  exact ⟨rfl, HK5.out⟩
end Go.Proofs.YtknecjjdegngfaaDoor
