/-
  WALKS: the kind of an error; how it is seen.
-/
import Derived.Test.YtinonjfnhedlpaaDoorFBuildW
import Derived.Test.YtinonjfnhedlpaaDoorFAssertW
set_option linter.unusedSimpArgs false
namespace Go.Proofs.YtinonjfnhedlpaaDoor
open Go Go.RowKit Go.Aff Go.Fault
def kindF : VT → Int
  | .nil => 1
  | .num _ => 2
  | .spot _ _ => 3
  | .trail _ _ => 4
  | .gone => 6
  | .note _ _ _ => 5
  | .all _ _ _ => 7

set_option maxRecDepth 100000 in
theorem kind_nil (w : World)  : Calls Tryd.prog 28 #[vv (.nil)] w fun e w' => e = .returned (.int .i64 1) ∧ Keeps (fun _ => False) w w' := by
  have x1 := as_nil_num
  have x2 := as_nil_spot
  have x3 := as_nil_trail
  have x4 := as_nil_note
  have x5 := as_nil_all
  simp only [vv]
  go_enter Tryd.func28, Tryd.ntmps28
  go_wp2
  go_ret
  first | exact ⟨rfl, Keeps.refl _ _⟩ | exact ⟨rfl, (Keeps.refl _ w).alloc _⟩ | exact ⟨rfl, ((Keeps.refl _ w).alloc _).setCell (.inr (Nat.le_refl _)) _⟩ | exact ⟨rfl, (((Keeps.refl _ w).alloc _).setCell (p := ⟨w.heap.size, 0, none⟩) (.inr (Nat.le_refl _)) _).setCell (p := ⟨w.heap.size, 1, none⟩) (.inr (Nat.le_refl _)) _⟩
set_option maxRecDepth 100000 in
theorem kind_num (w : World) (n : Int) : Calls Tryd.prog 28 #[vv (.num n)] w fun e w' => e = .returned (.int .i64 2) ∧ Keeps (fun _ => False) w w' := by
  have x1 := as_num_num
  have x2 := as_num_spot
  have x3 := as_num_trail
  have x4 := as_num_note
  have x5 := as_num_all
  simp only [vv]
  go_enter Tryd.func28, Tryd.ntmps28
  go_wp2
  go_ret
  first | exact ⟨rfl, Keeps.refl _ _⟩ | exact ⟨rfl, (Keeps.refl _ w).alloc _⟩ | exact ⟨rfl, ((Keeps.refl _ w).alloc _).setCell (.inr (Nat.le_refl _)) _⟩ | exact ⟨rfl, (((Keeps.refl _ w).alloc _).setCell (p := ⟨w.heap.size, 0, none⟩) (.inr (Nat.le_refl _)) _).setCell (p := ⟨w.heap.size, 1, none⟩) (.inr (Nat.le_refl _)) _⟩
set_option maxRecDepth 100000 in
theorem kind_spot (w : World) (n : Int) (a : Int) : Calls Tryd.prog 28 #[vv (.spot n a)] w fun e w' => e = .returned (.int .i64 3) ∧ Keeps (fun _ => False) w w' := by
  have x1 := as_spot_num
  have x2 := as_spot_spot
  have x3 := as_spot_trail
  have x4 := as_spot_note
  have x5 := as_spot_all
  simp only [vv]
  go_enter Tryd.func28, Tryd.ntmps28
  go_wp2
  go_ret
  first | exact ⟨rfl, Keeps.refl _ _⟩ | exact ⟨rfl, (Keeps.refl _ w).alloc _⟩ | exact ⟨rfl, ((Keeps.refl _ w).alloc _).setCell (.inr (Nat.le_refl _)) _⟩ | exact ⟨rfl, (((Keeps.refl _ w).alloc _).setCell (p := ⟨w.heap.size, 0, none⟩) (.inr (Nat.le_refl _)) _).setCell (p := ⟨w.heap.size, 1, none⟩) (.inr (Nat.le_refl _)) _⟩
set_option maxRecDepth 100000 in
theorem kind_trail (w : World) (n : Int) (s : ByteArray) : Calls Tryd.prog 28 #[vv (.trail n s)] w fun e w' => e = .returned (.int .i64 4) ∧ Keeps (fun _ => False) w w' := by
  have x1 := as_trail_num
  have x2 := as_trail_spot
  have x3 := as_trail_trail
  have x4 := as_trail_note
  have x5 := as_trail_all
  simp only [vv]
  go_enter Tryd.func28, Tryd.ntmps28
  go_wp2
  go_ret
  first | exact ⟨rfl, Keeps.refl _ _⟩ | exact ⟨rfl, (Keeps.refl _ w).alloc _⟩ | exact ⟨rfl, ((Keeps.refl _ w).alloc _).setCell (.inr (Nat.le_refl _)) _⟩ | exact ⟨rfl, (((Keeps.refl _ w).alloc _).setCell (p := ⟨w.heap.size, 0, none⟩) (.inr (Nat.le_refl _)) _).setCell (p := ⟨w.heap.size, 1, none⟩) (.inr (Nat.le_refl _)) _⟩
set_option maxRecDepth 100000 in
theorem kind_gone (w : World)  : Calls Tryd.prog 28 #[vv (.gone)] w fun e w' => e = .returned (.int .i64 6) ∧ Keeps (fun _ => False) w w' := by
  have x1 := as_note_num
  have x2 := as_note_spot
  have x3 := as_note_trail
  have x4 := as_note_note
  have x5 := as_note_all
  simp only [vv]
  go_enter Tryd.func28, Tryd.ntmps28
  go_wp2
  go_ret
  first | exact ⟨rfl, Keeps.refl _ _⟩ | exact ⟨rfl, (Keeps.refl _ w).alloc _⟩ | exact ⟨rfl, ((Keeps.refl _ w).alloc _).setCell (.inr (Nat.le_refl _)) _⟩ | exact ⟨rfl, (((Keeps.refl _ w).alloc _).setCell (p := ⟨w.heap.size, 0, none⟩) (.inr (Nat.le_refl _)) _).setCell (p := ⟨w.heap.size, 1, none⟩) (.inr (Nat.le_refl _)) _⟩
set_option maxRecDepth 100000 in
theorem kind_note (w : World) (b : Nat) (wd : ByteArray) (er : VT) : Calls Tryd.prog 28 #[vv (.note b wd er)] w fun e w' => e = .returned (.int .i64 5) ∧ Keeps (fun _ => False) w w' := by
  have x1 := as_note_num
  have x2 := as_note_spot
  have x3 := as_note_trail
  have x4 := as_note_note
  have x5 := as_note_all
  simp only [vv]
  go_enter Tryd.func28, Tryd.ntmps28
  go_wp2
  go_ret
  first | exact ⟨rfl, Keeps.refl _ _⟩ | exact ⟨rfl, (Keeps.refl _ w).alloc _⟩ | exact ⟨rfl, ((Keeps.refl _ w).alloc _).setCell (.inr (Nat.le_refl _)) _⟩ | exact ⟨rfl, (((Keeps.refl _ w).alloc _).setCell (p := ⟨w.heap.size, 0, none⟩) (.inr (Nat.le_refl _)) _).setCell (p := ⟨w.heap.size, 1, none⟩) (.inr (Nat.le_refl _)) _⟩
set_option maxRecDepth 100000 in
theorem kind_all (w : World) (A : Option Addr) (c : Nat) (l : List VT) : Calls Tryd.prog 28 #[vv (.all A c l)] w fun e w' => e = .returned (.int .i64 7) ∧ Keeps (fun _ => False) w w' := by
  have x1 := as_all_num
  have x2 := as_all_spot
  have x3 := as_all_trail
  have x4 := as_all_note
  have x5 := as_all_all
  simp only [vv]
  go_enter Tryd.func28, Tryd.ntmps28
  go_wp2
  go_ret
  first | exact ⟨rfl, Keeps.refl _ _⟩ | exact ⟨rfl, (Keeps.refl _ w).alloc _⟩ | exact ⟨rfl, ((Keeps.refl _ w).alloc _).setCell (.inr (Nat.le_refl _)) _⟩ | exact ⟨rfl, (((Keeps.refl _ w).alloc _).setCell (p := ⟨w.heap.size, 0, none⟩) (.inr (Nat.le_refl _)) _).setCell (p := ⟨w.heap.size, 1, none⟩) (.inr (Nat.le_refl _)) _⟩
theorem kind_any (w : World) (t : VT) : Calls Tryd.prog 28 #[vv t] w fun e w' => e = .returned (.int .i64 (kindF t)) ∧ Keeps (fun _ => False) w w' := by
  cases t with
  | nil => exact kind_nil w 
  | num n => exact kind_num w n
  | spot n a => exact kind_spot w n a
  | trail n s => exact kind_trail w n s
  | gone => exact kind_gone w 
  | note b wd er => exact kind_note w b wd er
  | all A c l => exact kind_all w A c l
theorem append_types {P : Program} {t u ty e e' : TypeId} (ht : P.underlying t = some (.slice e)) (hu : P.underlying u = some (.slice e')) (A : Option Addr) (n c : Nat) (x : Value) (w : World) : (Builtin.append_ #[t, u] ty #[.slice A n c, x]).run P w = (Builtin.append_ #[t, t] ty #[.slice A n c, x]).run P w := by
  simp [Builtin.append_, run_underlying ht, run_underlying hu]
theorem field_spot0 (n a : Int) (w : World) : (Instr.field 40 (.agg #[.int .i64 n, .int .i64 a]) 0).run Tryd.prog w = .ok (.int .i64 n) w := by kernel_rfl
theorem field_trail0 (n : Int) (s : ByteArray) (w : World) : (Instr.field 42 (.agg #[.int .i64 n, .string s]) 0).run Tryd.prog w = .ok (.int .i64 n) w := by kernel_rfl
/-- What append onto nothing gives, of a slice that reads as a list. -/
theorem run_append_none {P : Program} (w : World) (t u ty e : TypeId) (i : TypeInfo) (z : Value) (bytes : Nat) (ht : P.underlying t = some (.slice e)) (hu : P.underlying u = some (.slice e)) (hi : P.info? e = some i) (hz : i.zero = some z) (hsz : i.size = 1) (hby : i.bytes = bytes) (hzs : z.cells.size = 1)
    (A : Option Addr) (n c : Nat) (xs : List Value) (hr : Rd w A n xs) (h1 : ∀ u ∈ xs, u.oneCell' = true) (h63 : n ≤ maxLen) (hbytes : n * bytes ≤ 140737488355328) :
    ∃ A' c' w', (Builtin.append_ #[t, u] ty #[.slice none 0 0, .slice A n c]).run P w = .ok (.slice A' n c') w' ∧ Mine w w' e A' n c' xs := by
  rw [append_types ht hu]
  rcases A with _ | ad
  · have hm : n = 0 := by
      rcases Nat.eq_zero_or_pos n with h0 | h0
      · exact h0
      · obtain ⟨g, o, e1, _⟩ := hr.2 h0
        cases e1
    subst hm
    have hn : xs = [] := List.eq_nil_of_length_eq_zero hr.1
    subst hn
    exact ⟨none, 0, w, by simp [Builtin.append_, run_underlying ht, sizeOf, typeInfo, hi, Builtin.lenOf, Builtin.firstCells], World.ownsRow_nil _ _ _ _, Keeps.refl _ _, fun g h => by cases h⟩
  · have hcells : ∀ j u, xs[j]? = some u → w.cell? (ad.add j) = some u := by
      intro j u hu
      have hj : j < xs.length := (List.getElem?_eq_some_iff.1 hu).1
      obtain ⟨g, o, e1, hc⟩ := hr.2 (by have := hr.1; omega)
      injection e1 with e1
      subst e1
      rw [add_at, hc j (by have := hr.1; omega), hu]
    obtain ⟨v', w', h2, h3, h4, _, h6⟩ := run_append_own_at (P := P) w 0 t ty e i z 1 bytes ht hi hz hsz hby hzs (by omega) (.slice none 0 0) 0 [] (World.ownsRow_nil w 0 e 1) ad n c xs (by rw [hr.1]; simp) hcells h1 (by omega) (by simpa using hbytes) (by omega)
    simp only [Nat.zero_add, List.nil_append] at h3
    obtain ⟨A', c', rfl⟩ := own_shape h3
    refine ⟨A', c', w', h2, h3, (Keeps.refl _ w).grown h4 (fun g e => by cases e), fun g hg => ?_⟩
    rcases h6 with h6 | h6
    · rw [h6] at hg; cases hg
    · rw [h6] at hg; injection hg with hg; omega
theorem wpList_append_runF {P : Program} {w w' : World} {ops : Array Oper} {rest : List Oper} {o : Oper} {a : Act} {Q : Exit → Act → World → Prop} (hgd : o.guard = none) (s x : Operand) (t u : TypeId)
    (ho : o.op = .call { callee := .builtin .append, args := #[s, x], argTypes := #[t, u] }) (vs vx v : Value) (hs : a.eval s = vs) (hx : a.eval x = vx) (hrun : (Builtin.append_ #[t, u] o.type #[vs, vx]).run P w = .ok v w')
    (h : wpList P ops Q rest (a.put o.dst v) w') : wpList P ops Q (o :: rest) a w := by
  refine wpList_plain hgd fun K hK => ?_
  unfold Oper.wp execOp
  simp only [ho, resolve, invoke, builtin, Sem.run_bind, Sem.run_pure, Result.andThen_ok, List.map_toArray, List.map_cons, List.map_nil, hs, hx, hrun]
  exact hK _ _ h
set_option maxRecDepth 100000 in
theorem allUnwrap_any (w : World) (A : Option Addr) (n c : Nat) (xs : List Value) (hr : Rd w A n xs) (h1 : ∀ u ∈ xs, u.oneCell' = true) (hn : n ≤ 8796093022208) :
    Calls Tryd.prog 64 #[.slice A n c] w fun e w' => ∃ A' c', e = .returned (.slice A' n c') ∧ Mine w w' 24 A' n c' xs := by
  obtain ⟨i, h2, h3, h4, h5⟩ := info_parts infoE
  obtain ⟨A', c', w', hrun, hm⟩ := run_append_none (P := Tryd.prog) w 44 45 44 24 i .nilIface 16 Tryd.underlying44 Tryd.underlying45 h2 h3 h4 h5 (by decide) A n c xs hr h1 (by unfold maxLen; omega) (by omega)
  have HM := Lib.hid hm
  have HRUN := Lib.hid hrun
  clear hm hrun hr h1 h2 h3 h4 h5
  go_enter Tryd.func64, Tryd.ntmps64
  go_wp2_with (at_builtin; refine wpList_append_runF rfl _ _ 44 45 rfl _ _ _ rfl rfl HRUN.out ?_)
  go_ret
  exact ⟨A', c', rfl, HM.out⟩
set_option maxRecDepth 100000 in
theorem noteUnwrap_nil (w : World) : Calls Tryd.prog 34 #[.pointer none] w fun e w' => e = .returned .nilIface ∧ w = w' := by
  go_enter Tryd.func34, Tryd.ntmps34
  go_wp2
  go_ret
  exact ⟨rfl, rfl⟩
set_option maxRecDepth 100000 in
theorem noteUnwrap_any (w : World) (b : Nat) (x : Value) (hc : w.cell? ⟨b, 1, none⟩ = some x) : Calls Tryd.prog 34 #[.pointer (some ⟨b, 0, none⟩)] w fun e w' => e = .returned x ∧ w = w' := by
  go_enter Tryd.func34, Tryd.ntmps34
  go_wp2
  go_ret
  exact ⟨rfl, rfl⟩
set_option maxRecDepth 100000 in
theorem place_any (w : World) (n a : Int) : Calls Tryd.prog 57 #[.agg #[.int .i64 n, .int .i64 a]] w fun e w' => e = .returned (.int .i64 a) ∧ Keeps (fun _ => False) w w' := by
  go_enter Tryd.func57, Tryd.ntmps57
  go_wp2
  go_ret
  exact ⟨rfl, (Keeps.refl _ w).alloc _⟩
set_option maxRecDepth 100000 in
theorem where_any (w : World) (n : Int) (s : ByteArray) : Calls Tryd.prog 61 #[.agg #[.int .i64 n, .string s]] w fun e w' => e = .returned (.string s) ∧ Keeps (fun _ => False) w w' := by
  go_enter Tryd.func61, Tryd.ntmps61
  go_wp2
  go_ret
  exact ⟨rfl, (Keeps.refl _ w).alloc _⟩
theorem infoSeen : (Tryd.prog.info? 36).map (·.size) = some 6 := by kernel_rfl
def seenZ : List Value := [.int .i64 0, .int .i64 0, .int .i64 0, .int .i64 0, .string ⟨#[]⟩, .int .i64 0]

set_option maxHeartbeats 1000000 in
set_option maxRecDepth 100000 in
theorem seen_nil (w : World)  (d : Nat) : Calls Tryd.prog 17 #[vv (.nil), .int .i64 d] w fun e w' => e = .returned (.agg (seenV d (.nil)).toArray) ∧ Keeps (fun _ => False) w w' := by
  have x6 := as_nil_placed
  have x7 := as_nil_located
  have x8 := as_nil_several
  have HK : Hid (∀ W, Calls Tryd.prog 28 #[.nilIface] W fun e w' => e = .returned (.int .i64 1) ∧ Keeps (fun _ => False) W w') := Lib.hid fun W => kind_nil W 
  simp only [vv]
  go_enter Tryd.func17, Tryd.ntmps17
  go_upto_region 20 with (first
    | (go_at_call 28; refine (HK.out _).mono ?_; rintro e w2 ⟨rfl, hk2⟩; have HZ2 := Lib.hid (hk2.blk (Blk.new w 36 seenZ) (fun h => h)); have HK2 := Lib.hid (((Keeps.refl (fun _ => False) w).alloc (.cells seenZ.toArray 36)).trans hk2 (fun _ _ h => h)); clear hk2))
  obtain ⟨SV, hSV⟩ : ∃ SV, SV = seenV d .nil := ⟨_, rfl⟩
  refine gen_codeF (fun W => Blk W w2.heap.size 36 SV ∧ Blk W w.heap.size 36 seenZ ∧ Keeps (fun _ => False) w W) (by rw [hSV]; exact ⟨Blk.new w2 36 _, HZ2.out.alloc _, HK2.out.alloc _⟩) ?_
  rintro w7 ⟨hb7, hz7, hk7⟩
  have HSL : Hid (SV.length = 6) := Lib.hid (by rw [hSV]; rfl)
  have HSO : Hid (∀ u ∈ SV, u.oneCell' = true) := Lib.hid (by rw [hSV]; first | exact seenV_one d _ | (intro u hu; simp only [List.mem_cons, List.not_mem_nil, or_false] at hu; rcases hu with rfl | rfl | rfl | rfl | rfl | rfl <;> rfl))
  have HSI : Hid ((Tryd.prog.info? 36).map (·.size) = some SV.length) := Lib.hid (by rw [HSL.out]; exact infoSeen)
  have HZL : Hid (seenZ.length = 6) := Lib.hid rfl
  have HSV := Lib.hid hSV
  have HB7 := Lib.hid hb7
  have HZ7 := Lib.hid hz7
  have HK7 := Lib.hid hk7
  clear hSV hb7 hz7 hk7
  go_wp2_with (first
    | ((with_reducible show wpList _ _ _ (⟨some 71, _, _, _, _, _⟩ :: _) _ _); refine wpList_load_whole rfl 36 _ rfl _ rfl HB7.out Tryd.underlying36 rfl HSI.out ?_)
    | ((with_reducible show wpList _ _ _ (⟨none, Op.store 36 _ _, _, _, _, _⟩ :: _) _ _); refine wpList_store_whole rfl 36 _ _ rfl SV rfl rfl HZ7.out (by rw [HSL.out, HZL.out]) HSI.out HSO.out ?_))
  refine bodyPost_ret (results_blk rfl _ _ rfl (HZ7.out.setRow SV) Tryd.underlying36 rfl HSI.out) rfl ⟨by rw [HSV.out], HK7.out.setRow (.inr (Nat.le_refl _)) _⟩
set_option maxHeartbeats 1000000 in
set_option maxRecDepth 100000 in
theorem seen_num (w : World) (n : Int) (d : Nat) : Calls Tryd.prog 17 #[vv (.num n), .int .i64 d] w fun e w' => e = .returned (.agg (seenV d (.num n)).toArray) ∧ Keeps (fun _ => False) w w' := by
  have x6 := as_num_placed
  have x7 := as_num_located
  have x8 := as_num_several
  have x9 := at_num_num
  have HK : Hid (∀ W, Calls Tryd.prog 28 #[.iface 33 (.int .i64 n)] W fun e w' => e = .returned (.int .i64 2) ∧ Keeps (fun _ => False) W w') := Lib.hid fun W => kind_num W n
  simp only [vv]
  go_enter Tryd.func17, Tryd.ntmps17
  go_upto_region 20 with (first
    | (go_at_call 28; refine (HK.out _).mono ?_; rintro e w2 ⟨rfl, hk2⟩; have HZ2 := Lib.hid (hk2.blk (Blk.new w 36 seenZ) (fun h => h)); have HK2 := Lib.hid (((Keeps.refl (fun _ => False) w).alloc (.cells seenZ.toArray 36)).trans hk2 (fun _ _ h => h)); clear hk2))
  obtain ⟨SV, hSV⟩ : ∃ SV, SV = seenV d (.num n) := ⟨_, rfl⟩
  refine gen_codeF (fun W => Blk W w2.heap.size 36 SV ∧ Blk W w.heap.size 36 seenZ ∧ Keeps (fun _ => False) w W) (by rw [hSV]; exact ⟨Blk.new w2 36 _, HZ2.out.alloc _, HK2.out.alloc _⟩) ?_
  rintro w7 ⟨hb7, hz7, hk7⟩
  have HSL : Hid (SV.length = 6) := Lib.hid (by rw [hSV]; rfl)
  have HSO : Hid (∀ u ∈ SV, u.oneCell' = true) := Lib.hid (by rw [hSV]; first | exact seenV_one d _ | (intro u hu; simp only [List.mem_cons, List.not_mem_nil, or_false] at hu; rcases hu with rfl | rfl | rfl | rfl | rfl | rfl <;> rfl))
  have HSI : Hid ((Tryd.prog.info? 36).map (·.size) = some SV.length) := Lib.hid (by rw [HSL.out]; exact infoSeen)
  have HZL : Hid (seenZ.length = 6) := Lib.hid rfl
  have HSV := Lib.hid hSV
  have HB7 := Lib.hid hb7
  have HZ7 := Lib.hid hz7
  have HK7 := Lib.hid hk7
  clear hSV hb7 hz7 hk7
  go_wp2_with (first
    | ((with_reducible show wpList _ _ _ (⟨some 71, _, _, _, _, _⟩ :: _) _ _); refine wpList_load_whole rfl 36 _ rfl _ rfl HB7.out Tryd.underlying36 rfl HSI.out ?_)
    | ((with_reducible show wpList _ _ _ (⟨none, Op.store 36 _ _, _, _, _, _⟩ :: _) _ _); refine wpList_store_whole rfl 36 _ _ rfl SV rfl rfl HZ7.out (by rw [HSL.out, HZL.out]) HSI.out HSO.out ?_))
  refine bodyPost_ret (results_blk rfl _ _ rfl (HZ7.out.setRow SV) Tryd.underlying36 rfl HSI.out) rfl ⟨by rw [HSV.out], HK7.out.setRow (.inr (Nat.le_refl _)) _⟩
set_option maxHeartbeats 1000000 in
set_option maxRecDepth 100000 in
theorem seen_spot (w : World) (n : Int) (a : Int) (d : Nat) : Calls Tryd.prog 17 #[vv (.spot n a), .int .i64 d] w fun e w' => e = .returned (.agg (seenV d (.spot n a)).toArray) ∧ Keeps (fun _ => False) w w' := by
  have x6 := as_spot_placed
  have x7 := as_spot_located
  have x8 := as_spot_several
  have x9 := at_spot_spot
  have HK : Hid (∀ W, Calls Tryd.prog 28 #[.iface 40 (.agg #[.int .i64 n, .int .i64 a])] W fun e w' => e = .returned (.int .i64 3) ∧ Keeps (fun _ => False) W w') := Lib.hid fun W => kind_spot W n a
  have x10 := field_spot0
  simp only [vv]
  go_enter Tryd.func17, Tryd.ntmps17
  go_upto_region 20 with (first
    | (go_at_call 28; refine (HK.out _).mono ?_; rintro e w2 ⟨rfl, hk2⟩; have HZ2 := Lib.hid (hk2.blk (Blk.new w 36 seenZ) (fun h => h)); have HK2 := Lib.hid (((Keeps.refl (fun _ => False) w).alloc (.cells seenZ.toArray 36)).trans hk2 (fun _ _ h => h)); clear hk2)
    | (go_at_call 57; refine (place_any _ n a).mono ?_; rintro e w3 ⟨rfl, hk3⟩; have hk3' : Keeps (fun _ => False) (w2.alloc (.cells (#[.int .i64 3, .int .i64 d, .int .i64 0, .int .i64 0, .string ⟨#[]⟩, .int .i64 0] : Array Value) 36)) w3 := hk3; have HB3 := Lib.hid (hk3'.blk (Blk.new w2 36 [.int .i64 3, .int .i64 d, .int .i64 0, .int .i64 0, .string ⟨#[]⟩, .int .i64 0]) (fun h => h)); have HZ3 := Lib.hid (((Keeps.refl (fun _ => False) w2).alloc _ |>.trans hk3' (fun _ _ h => h)).blk HZ2.out (fun h => h)); have HK3 := Lib.hid (HK2.out.trans ((Keeps.refl (fun _ => False) w2).alloc _ |>.trans hk3' (fun _ _ h => h)) (fun _ _ h => h)); have q0 := HB3.out.cell 0; have q2 := HB3.out.cell 2; have q3 := HB3.out.cell 3; have q4 := HB3.out.cell 4; have q5 := HB3.out.cell 5; have f2 := HB3.out.frozen 2; have f3 := HB3.out.frozen 3; have f4 := HB3.out.frozen 4; have f5 := HB3.out.frozen 5; clear hk3'))
  obtain ⟨SV, hSV⟩ : ∃ SV, SV = seenV d (.spot n a) := ⟨_, rfl⟩
  refine gen_codeF (fun W => Blk W w2.heap.size 36 SV ∧ Blk W w.heap.size 36 seenZ ∧ Keeps (fun _ => False) w W) (by rw [hSV]; exact ⟨(HB3.out.set_ 3 (.int .i64 a)).set_ 2 (.int .i64 n), ((HZ3.out.far (p := ⟨w2.heap.size, 3, none⟩) (fun e => by have e' : w.heap.size = w2.heap.size := e; have := HZ2.out.lt; omega) _).far (p := ⟨w2.heap.size, 2, none⟩) (fun e => by have e' : w.heap.size = w2.heap.size := e; have := HZ2.out.lt; omega) _), ((HK3.out.setCell (p := ⟨w2.heap.size, 3, none⟩) (.inr HK2.out.size) _).setCell (p := ⟨w2.heap.size, 2, none⟩) (.inr HK2.out.size) _)⟩) ?_
  rintro w7 ⟨hb7, hz7, hk7⟩
  have HSL : Hid (SV.length = 6) := Lib.hid (by rw [hSV]; rfl)
  have HSO : Hid (∀ u ∈ SV, u.oneCell' = true) := Lib.hid (by rw [hSV]; first | exact seenV_one d _ | (intro u hu; simp only [List.mem_cons, List.not_mem_nil, or_false] at hu; rcases hu with rfl | rfl | rfl | rfl | rfl | rfl <;> rfl))
  have HSI : Hid ((Tryd.prog.info? 36).map (·.size) = some SV.length) := Lib.hid (by rw [HSL.out]; exact infoSeen)
  have HZL : Hid (seenZ.length = 6) := Lib.hid rfl
  have HSV := Lib.hid hSV
  have HB7 := Lib.hid hb7
  have HZ7 := Lib.hid hz7
  have HK7 := Lib.hid hk7
  clear hSV hb7 hz7 hk7
  go_wp2_with (first
    | ((with_reducible show wpList _ _ _ (⟨some 71, _, _, _, _, _⟩ :: _) _ _); refine wpList_load_whole rfl 36 _ rfl _ rfl HB7.out Tryd.underlying36 rfl HSI.out ?_)
    | ((with_reducible show wpList _ _ _ (⟨none, Op.store 36 _ _, _, _, _, _⟩ :: _) _ _); refine wpList_store_whole rfl 36 _ _ rfl SV rfl rfl HZ7.out (by rw [HSL.out, HZL.out]) HSI.out HSO.out ?_))
  refine bodyPost_ret (results_blk rfl _ _ rfl (HZ7.out.setRow SV) Tryd.underlying36 rfl HSI.out) rfl ⟨by rw [HSV.out], HK7.out.setRow (.inr (Nat.le_refl _)) _⟩
set_option maxHeartbeats 1000000 in
set_option maxRecDepth 100000 in
theorem seen_trail (w : World) (n : Int) (s : ByteArray) (d : Nat) : Calls Tryd.prog 17 #[vv (.trail n s), .int .i64 d] w fun e w' => e = .returned (.agg (seenV d (.trail n s)).toArray) ∧ Keeps (fun _ => False) w w' := by
  have x6 := as_trail_placed
  have x7 := as_trail_located
  have x8 := as_trail_several
  have x9 := at_trail_trail
  have HK : Hid (∀ W, Calls Tryd.prog 28 #[.iface 42 (.agg #[.int .i64 n, .string s])] W fun e w' => e = .returned (.int .i64 4) ∧ Keeps (fun _ => False) W w') := Lib.hid fun W => kind_trail W n s
  have x10 := field_trail0
  simp only [vv]
  go_enter Tryd.func17, Tryd.ntmps17
  go_upto_region 20 with (first
    | (go_at_call 28; refine (HK.out _).mono ?_; rintro e w2 ⟨rfl, hk2⟩; have HZ2 := Lib.hid (hk2.blk (Blk.new w 36 seenZ) (fun h => h)); have HK2 := Lib.hid (((Keeps.refl (fun _ => False) w).alloc (.cells seenZ.toArray 36)).trans hk2 (fun _ _ h => h)); clear hk2)
    | (go_at_call 61; refine (where_any _ n s).mono ?_; rintro e w3 ⟨rfl, hk3⟩; have hk3' : Keeps (fun _ => False) (w2.alloc (.cells (#[.int .i64 4, .int .i64 d, .int .i64 0, .int .i64 0, .string ⟨#[]⟩, .int .i64 0] : Array Value) 36)) w3 := hk3; have HB3 := Lib.hid (hk3'.blk (Blk.new w2 36 [.int .i64 4, .int .i64 d, .int .i64 0, .int .i64 0, .string ⟨#[]⟩, .int .i64 0]) (fun h => h)); have HZ3 := Lib.hid (((Keeps.refl (fun _ => False) w2).alloc _ |>.trans hk3' (fun _ _ h => h)).blk HZ2.out (fun h => h)); have HK3 := Lib.hid (HK2.out.trans ((Keeps.refl (fun _ => False) w2).alloc _ |>.trans hk3' (fun _ _ h => h)) (fun _ _ h => h)); have q0 := HB3.out.cell 0; have q2 := HB3.out.cell 2; have q3 := HB3.out.cell 3; have q4 := HB3.out.cell 4; have q5 := HB3.out.cell 5; have f2 := HB3.out.frozen 2; have f3 := HB3.out.frozen 3; have f4 := HB3.out.frozen 4; have f5 := HB3.out.frozen 5; clear hk3'))
  obtain ⟨SV, hSV⟩ : ∃ SV, SV = seenV d (.trail n s) := ⟨_, rfl⟩
  refine gen_codeF (fun W => Blk W w2.heap.size 36 SV ∧ Blk W w.heap.size 36 seenZ ∧ Keeps (fun _ => False) w W) (by rw [hSV]; exact ⟨(HB3.out.set_ 4 (.string s)).set_ 2 (.int .i64 n), ((HZ3.out.far (p := ⟨w2.heap.size, 4, none⟩) (fun e => by have e' : w.heap.size = w2.heap.size := e; have := HZ2.out.lt; omega) _).far (p := ⟨w2.heap.size, 2, none⟩) (fun e => by have e' : w.heap.size = w2.heap.size := e; have := HZ2.out.lt; omega) _), ((HK3.out.setCell (p := ⟨w2.heap.size, 4, none⟩) (.inr HK2.out.size) _).setCell (p := ⟨w2.heap.size, 2, none⟩) (.inr HK2.out.size) _)⟩) ?_
  rintro w7 ⟨hb7, hz7, hk7⟩
  have HSL : Hid (SV.length = 6) := Lib.hid (by rw [hSV]; rfl)
  have HSO : Hid (∀ u ∈ SV, u.oneCell' = true) := Lib.hid (by rw [hSV]; first | exact seenV_one d _ | (intro u hu; simp only [List.mem_cons, List.not_mem_nil, or_false] at hu; rcases hu with rfl | rfl | rfl | rfl | rfl | rfl <;> rfl))
  have HSI : Hid ((Tryd.prog.info? 36).map (·.size) = some SV.length) := Lib.hid (by rw [HSL.out]; exact infoSeen)
  have HZL : Hid (seenZ.length = 6) := Lib.hid rfl
  have HSV := Lib.hid hSV
  have HB7 := Lib.hid hb7
  have HZ7 := Lib.hid hz7
  have HK7 := Lib.hid hk7
  clear hSV hb7 hz7 hk7
  go_wp2_with (first
    | ((with_reducible show wpList _ _ _ (⟨some 71, _, _, _, _, _⟩ :: _) _ _); refine wpList_load_whole rfl 36 _ rfl _ rfl HB7.out Tryd.underlying36 rfl HSI.out ?_)
    | ((with_reducible show wpList _ _ _ (⟨none, Op.store 36 _ _, _, _, _, _⟩ :: _) _ _); refine wpList_store_whole rfl 36 _ _ rfl SV rfl rfl HZ7.out (by rw [HSL.out, HZL.out]) HSI.out HSO.out ?_))
  refine bodyPost_ret (results_blk rfl _ _ rfl (HZ7.out.setRow SV) Tryd.underlying36 rfl HSI.out) rfl ⟨by rw [HSV.out], HK7.out.setRow (.inr (Nat.le_refl _)) _⟩
set_option maxHeartbeats 1000000 in
set_option maxRecDepth 100000 in
theorem seen_gone (w : World)  (d : Nat) : Calls Tryd.prog 17 #[vv (.gone), .int .i64 d] w fun e w' => e = .returned (.agg (seenV d (.gone)).toArray) ∧ Keeps (fun _ => False) w w' := by
  have x6 := as_note_placed
  have x7 := as_note_located
  have x8 := as_note_several
  have x9 := at_note_note
  have HK : Hid (∀ W, Calls Tryd.prog 28 #[.iface 43 (.pointer none)] W fun e w' => e = .returned (.int .i64 6) ∧ Keeps (fun _ => False) W w') := Lib.hid fun W => kind_gone W 
  simp only [vv]
  go_enter Tryd.func17, Tryd.ntmps17
  go_upto_region 20 with (first
    | (go_at_call 28; refine (HK.out _).mono ?_; rintro e w2 ⟨rfl, hk2⟩; have HZ2 := Lib.hid (hk2.blk (Blk.new w 36 seenZ) (fun h => h)); have HK2 := Lib.hid (((Keeps.refl (fun _ => False) w).alloc (.cells seenZ.toArray 36)).trans hk2 (fun _ _ h => h)); clear hk2))
  obtain ⟨SV, hSV⟩ : ∃ SV, SV = seenV d .gone := ⟨_, rfl⟩
  refine gen_codeF (fun W => Blk W w2.heap.size 36 SV ∧ Blk W w.heap.size 36 seenZ ∧ Keeps (fun _ => False) w W) (by rw [hSV]; exact ⟨Blk.new w2 36 _, HZ2.out.alloc _, HK2.out.alloc _⟩) ?_
  rintro w7 ⟨hb7, hz7, hk7⟩
  have HSL : Hid (SV.length = 6) := Lib.hid (by rw [hSV]; rfl)
  have HSO : Hid (∀ u ∈ SV, u.oneCell' = true) := Lib.hid (by rw [hSV]; first | exact seenV_one d _ | (intro u hu; simp only [List.mem_cons, List.not_mem_nil, or_false] at hu; rcases hu with rfl | rfl | rfl | rfl | rfl | rfl <;> rfl))
  have HSI : Hid ((Tryd.prog.info? 36).map (·.size) = some SV.length) := Lib.hid (by rw [HSL.out]; exact infoSeen)
  have HZL : Hid (seenZ.length = 6) := Lib.hid rfl
  have HSV := Lib.hid hSV
  have HB7 := Lib.hid hb7
  have HZ7 := Lib.hid hz7
  have HK7 := Lib.hid hk7
  clear hSV hb7 hz7 hk7
  go_wp2_with (first
    | ((with_reducible show wpList _ _ _ (⟨some 71, _, _, _, _, _⟩ :: _) _ _); refine wpList_load_whole rfl 36 _ rfl _ rfl HB7.out Tryd.underlying36 rfl HSI.out ?_)
    | ((with_reducible show wpList _ _ _ (⟨none, Op.store 36 _ _, _, _, _, _⟩ :: _) _ _); refine wpList_store_whole rfl 36 _ _ rfl SV rfl rfl HZ7.out (by rw [HSL.out, HZL.out]) HSI.out HSO.out ?_))
  refine bodyPost_ret (results_blk rfl _ _ rfl (HZ7.out.setRow SV) Tryd.underlying36 rfl HSI.out) rfl ⟨by rw [HSV.out], HK7.out.setRow (.inr (Nat.le_refl _)) _⟩
set_option maxHeartbeats 1000000 in
set_option maxRecDepth 100000 in
theorem seen_note (w : World) (b : Nat) (wd : ByteArray) (er : VT) (d : Nat) (hb : Blk w b 59 [.string wd, vv er]) : Calls Tryd.prog 17 #[vv (.note b wd er), .int .i64 d] w fun e w' => e = .returned (.agg (seenV d (.note b wd er)).toArray) ∧ Keeps (fun _ => False) w w' := by
  have x6 := as_note_placed
  have x7 := as_note_located
  have x8 := as_note_several
  have x9 := at_note_note
  have HK : Hid (∀ W, Calls Tryd.prog 28 #[.iface 43 (.pointer (some ⟨b, 0, none⟩))] W fun e w' => e = .returned (.int .i64 5) ∧ Keeps (fun _ => False) W w') := Lib.hid fun W => kind_note W b wd er
  have HB := Lib.hid hb
  clear hb
  simp only [vv]
  go_enter Tryd.func17, Tryd.ntmps17
  go_upto_region 20 with (first
    | (go_at_call 28; refine (HK.out _).mono ?_; rintro e w2 ⟨rfl, hk2⟩; have HZ2 := Lib.hid (hk2.blk (Blk.new w 36 seenZ) (fun h => h)); have HK2 := Lib.hid (((Keeps.refl (fun _ => False) w).alloc (.cells seenZ.toArray 36)).trans hk2 (fun _ _ h => h)); clear hk2; have hbl := (HK2.out.blk HB.out (fun h => h)).lt; have hne : b ≠ w2.heap.size := (by omega); have hne2 : w2.heap.size ≠ b := (by omega); have hw1 : w2.cell? ⟨b, 0, none⟩ = some (.string wd) := (HK2.out.blk HB.out (fun h => h)).cell 0; have hw2 := cell_keep ((Keeps.refl (fun _ => False) w2).alloc (.cells #[.int .i64 5, .int .i64 d, .int .i64 0, .int .i64 0, .string ⟨#[]⟩, .int .i64 0] 36)) hw1))
  obtain ⟨SV, hSV⟩ : ∃ SV, SV = seenV d (.note b wd er) := ⟨_, rfl⟩
  refine gen_codeF (fun W => Blk W w2.heap.size 36 SV ∧ Blk W w.heap.size 36 seenZ ∧ Keeps (fun _ => False) w W) (by rw [hSV]; exact ⟨Blk.new w2 36 _, HZ2.out.alloc _, HK2.out.alloc _⟩) ?_
  rintro w7 ⟨hb7, hz7, hk7⟩
  have HSL : Hid (SV.length = 6) := Lib.hid (by rw [hSV]; rfl)
  have HSO : Hid (∀ u ∈ SV, u.oneCell' = true) := Lib.hid (by rw [hSV]; first | exact seenV_one d _ | (intro u hu; simp only [List.mem_cons, List.not_mem_nil, or_false] at hu; rcases hu with rfl | rfl | rfl | rfl | rfl | rfl <;> rfl))
  have HSI : Hid ((Tryd.prog.info? 36).map (·.size) = some SV.length) := Lib.hid (by rw [HSL.out]; exact infoSeen)
  have HZL : Hid (seenZ.length = 6) := Lib.hid rfl
  have HSV := Lib.hid hSV
  have HB7 := Lib.hid hb7
  have HZ7 := Lib.hid hz7
  have HK7 := Lib.hid hk7
  clear hSV hb7 hz7 hk7
  go_wp2_with (first
    | ((with_reducible show wpList _ _ _ (⟨some 71, _, _, _, _, _⟩ :: _) _ _); refine wpList_load_whole rfl 36 _ rfl _ rfl HB7.out Tryd.underlying36 rfl HSI.out ?_)
    | ((with_reducible show wpList _ _ _ (⟨none, Op.store 36 _ _, _, _, _, _⟩ :: _) _ _); refine wpList_store_whole rfl 36 _ _ rfl SV rfl rfl HZ7.out (by rw [HSL.out, HZL.out]) HSI.out HSO.out ?_))
  refine bodyPost_ret (results_blk rfl _ _ rfl (HZ7.out.setRow SV) Tryd.underlying36 rfl HSI.out) rfl ⟨by rw [HSV.out], HK7.out.setRow (.inr (Nat.le_refl _)) _⟩
set_option maxHeartbeats 1000000 in
set_option maxRecDepth 100000 in
theorem seen_all (w : World) (A : Option Addr) (c : Nat) (l : List VT) (d : Nat) (ho : w.ownsRow 0 24 1 (.slice A l.length c) l.length (l.map vv)) (hl : l.length ≤ 1048576) : Calls Tryd.prog 17 #[vv (.all A c l), .int .i64 d] w fun e w' => e = .returned (.agg (seenV d (.all A c l)).toArray) ∧ Keeps (fun _ => False) w w' := by
  have x6 := as_all_placed
  have x7 := as_all_located
  have x8 := as_all_several
  have x9 := at_all_all
  have HK : Hid (∀ W, Calls Tryd.prog 28 #[.iface 45 (.slice A l.length c)] W fun e w' => e = .returned (.int .i64 7) ∧ Keeps (fun _ => False) W w') := Lib.hid fun W => kind_all W A c l
  have HR : Hid (∀ W, Keeps (fun _ => False) w W → Calls Tryd.prog 64 #[.slice A l.length c] W fun e w' => ∃ A' c', e = .returned (.slice A' l.length c') ∧ Mine W w' 24 A' l.length c' (l.map vv)) := Lib.hid fun W hW => allUnwrap_any W A l.length c _ ((Rd.of_own ho).keep hW (no_outF _ _)) (vv_all l) (by omega)
  obtain ⟨m, hm⟩ : ∃ m, m = l.length := ⟨_, rfl⟩
  rw [← hm] at HR HK hl
  have HMM := Lib.hid hm
  clear ho
  simp only [vv]
  rw [← hm]
  clear hm
  go_enter Tryd.func17, Tryd.ntmps17
  go_upto_region 20 with (first
    | (go_at_call 28; refine (HK.out _).mono ?_; rintro e w2 ⟨rfl, hk2⟩; have HZ2 := Lib.hid (hk2.blk (Blk.new w 36 seenZ) (fun h => h)); have HK2 := Lib.hid (((Keeps.refl (fun _ => False) w).alloc (.cells seenZ.toArray 36)).trans hk2 (fun _ _ h => h)); clear hk2)
    | (go_at_call 64; refine (HR.out _ (HK2.out.alloc _)).mono ?_; rintro e w3 ⟨A3, c3, rfl, hm3⟩; have hk3' : Keeps (fun _ => False) (w2.alloc (.cells (#[.int .i64 7, .int .i64 d, .int .i64 0, .int .i64 0, .string ⟨#[]⟩, .int .i64 0] : Array Value) 36)) w3 := hm3.2.1; have HB3 := Lib.hid (hk3'.blk (Blk.new w2 36 [.int .i64 7, .int .i64 d, .int .i64 0, .int .i64 0, .string ⟨#[]⟩, .int .i64 0]) (fun h => h)); have HZ3 := Lib.hid (((Keeps.refl (fun _ => False) w2).alloc _ |>.trans hk3' (fun _ _ h => h)).blk HZ2.out (fun h => h)); have HK3 := Lib.hid (HK2.out.trans ((Keeps.refl (fun _ => False) w2).alloc _ |>.trans hk3' (fun _ _ h => h)) (fun _ _ h => h)); have q0 := HB3.out.cell 0; have q2 := HB3.out.cell 2; have q3 := HB3.out.cell 3; have q4 := HB3.out.cell 4; have q5 := HB3.out.cell 5; have f2 := HB3.out.frozen 2; have f3 := HB3.out.frozen 3; have f4 := HB3.out.frozen 4; have f5 := HB3.out.frozen 5; clear hk3'))
  obtain ⟨SV, hSV⟩ : ∃ SV, SV = ([.int .i64 7, .int .i64 d, .int .i64 0, .int .i64 0, .string ⟨#[]⟩, .int .i64 m] : List Value) := ⟨_, rfl⟩
  refine gen_codeF (fun W => Blk W w2.heap.size 36 SV ∧ Blk W w.heap.size 36 seenZ ∧ Keeps (fun _ => False) w W) (by rw [hSV]; exact ⟨HB3.out.set_ 5 (.int .i64 m), (HZ3.out.far (p := ⟨w2.heap.size, 5, none⟩) (fun e => by have e' : w.heap.size = w2.heap.size := e; have := HZ2.out.lt; omega) _), (HK3.out.setCell (p := ⟨w2.heap.size, 5, none⟩) (.inr HK2.out.size) _)⟩) ?_
  rintro w7 ⟨hb7, hz7, hk7⟩
  have HSL : Hid (SV.length = 6) := Lib.hid (by rw [hSV]; rfl)
  have HSO : Hid (∀ u ∈ SV, u.oneCell' = true) := Lib.hid (by rw [hSV]; first | exact seenV_one d _ | (intro u hu; simp only [List.mem_cons, List.not_mem_nil, or_false] at hu; rcases hu with rfl | rfl | rfl | rfl | rfl | rfl <;> rfl))
  have HSI : Hid ((Tryd.prog.info? 36).map (·.size) = some SV.length) := Lib.hid (by rw [HSL.out]; exact infoSeen)
  have HZL : Hid (seenZ.length = 6) := Lib.hid rfl
  have HSV := Lib.hid hSV
  have HB7 := Lib.hid hb7
  have HZ7 := Lib.hid hz7
  have HK7 := Lib.hid hk7
  clear hSV hb7 hz7 hk7
  go_wp2_with (first
    | ((with_reducible show wpList _ _ _ (⟨some 71, _, _, _, _, _⟩ :: _) _ _); refine wpList_load_whole rfl 36 _ rfl _ rfl HB7.out Tryd.underlying36 rfl HSI.out ?_)
    | ((with_reducible show wpList _ _ _ (⟨none, Op.store 36 _ _, _, _, _, _⟩ :: _) _ _); refine wpList_store_whole rfl 36 _ _ rfl SV rfl rfl HZ7.out (by rw [HSL.out, HZL.out]) HSI.out HSO.out ?_))
  refine bodyPost_ret (results_blk rfl _ _ rfl (HZ7.out.setRow SV) Tryd.underlying36 rfl HSI.out) rfl ⟨by rw [HSV.out]; rw [HMM.out]; rfl, HK7.out.setRow (.inr (Nat.le_refl _)) _⟩
theorem seen_any (w : World) (B : Nat → Prop) (t : VT) (h : At B w t) (d : Nat) : Calls Tryd.prog 17 #[vv t, .int .i64 d] w fun e w' => e = .returned (.agg (seenV d t).toArray) ∧ Keeps (fun _ => False) w w' := by
  cases t with
  | nil => exact seen_nil w d
  | num n => exact seen_num w n d
  | spot n a => exact seen_spot w n a d
  | trail n s => exact seen_trail w n s d
  | gone => exact seen_gone w d
  | note b wd er =>
    simp only [At] at h
    exact seen_note w b wd er d h.2.1
  | all A c l =>
    simp only [At] at h
    exact seen_all w A c l d h.2.1 h.1
end Go.Proofs.YtinonjfnhedlpaaDoor
