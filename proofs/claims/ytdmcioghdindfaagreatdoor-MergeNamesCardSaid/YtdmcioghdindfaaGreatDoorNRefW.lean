/-
  WALKS: node: the methods of items behind an interface; Root, Sort, items, keys, Len of a value that lies in memory.
-/
import Derived.Test.YtdmcioghdindfaaGreatDoorNDoW
import Derived.Shelf.Abstract
set_option linter.unusedSimpArgs false
namespace Go.Proofs.YtdmcioghdindfaaGreatDoor
open Go Go.RowKit Go.Aff Go.Json Go.Shelf
/-- A function that can be called. -/
def Ent (f : FuncId) : Prop := ∀ args w, (callFunc f args).run Tryz.prog w = .ok (.enter f args) w
theorem method_list (b : Nat) (w : World) : (Go.method 420 158 (.pointer (some ⟨b, 0, none⟩)) "affidavit/node.sized").run Tryz.prog w = ((do let v ← loadVar 177 ⟨b, 0, none⟩; pure (199, v)) : Sem (FuncId × Value)).run Tryz.prog w := by kernel_rfl
theorem methodS_list (b : Nat) (w : World) : (Go.method 420 158 (.pointer (some ⟨b, 0, none⟩)) "affidavit/node.sort").run Tryz.prog w = .ok (200, .pointer (some ⟨b, 0, none⟩)) w := by kernel_rfl
theorem method_object (b : Nat) (w : World) : (Go.method 420 159 (.pointer (some ⟨b, 0, none⟩)) "affidavit/node.sized").run Tryz.prog w = ((do let v ← loadVar 177 ⟨b, 0, none⟩; pure (199, v)) : Sem (FuncId × Value)).run Tryz.prog w := by kernel_rfl
theorem methodS_object (b : Nat) (w : World) : (Go.method 420 159 (.pointer (some ⟨b, 0, none⟩)) "affidavit/node.sort").run Tryz.prog w = .ok (201, .pointer (some ⟨b, 0, none⟩)) w := by kernel_rfl
theorem run_bound {P : Program} {w : World} {m : Sem Value} {v : Value} (f : FuncId) (h : m.run P w = .ok v w) : ((do let v ← m; pure (f, v)) : Sem (FuncId × Value)).run P w = .ok (f, v) w := by simp [go_sem, h]
theorem load_size (w : World) (b : Nat) (t : TypeId) (cs : List Value) (x y z : Value) (h : Blk w b t ([x, y, z] ++ cs)) : (loadVar 177 ⟨b, 0, none⟩).run Tryz.prog w = .ok (.agg #[x, y, z]) w := by
  have h1 := run_loadVar_at (P := Tryz.prog) 177 0 3 _ h (by simp) Tryz.underlying177 rfl (by kernel_rfl)
  exact h1
set_option maxRecDepth 100000 in
theorem sized_size (w : World) (n b d : Int) : Calls Tryz.prog 199 #[.agg #[.int .i64 n, .int .i64 b, .int .i64 d]] w fun e w' => e = .returned (.agg #[.int .i64 n, .int .i64 b, .int .i64 d]) ∧ Keeps (fun _ => False) w w' := by
  have hb0 := Blk.new w 177 [.int .i64 n, .int .i64 b, .int .i64 d]
  have hl := load_size (w.alloc (.cells #[.int .i64 n, .int .i64 b, .int .i64 d] 177) |>.alloc (.cells #[.int .i64 0, .int .i64 0, .int .i64 0] 177)) w.heap.size 177 [] (.int .i64 n) (.int .i64 b) (.int .i64 d) (hb0.alloc _)
  have hb := Blk.new (w.alloc (.cells #[.int .i64 n, .int .i64 b, .int .i64 d] 177)) 177 [.int .i64 0, .int .i64 0, .int .i64 0]
  rw [World.size_alloc] at hb
  have f0 := hb.frozen 0
  have f1 := hb.frozen 1
  have f2 := hb.frozen 2
  have c0 := (hb0.alloc (.cells #[.int .i64 0, .int .i64 0, .int .i64 0] 177)).cell 0
  have c1 := (hb0.alloc (.cells #[.int .i64 0, .int .i64 0, .int .i64 0] 177)).cell 1
  have c2 := (hb0.alloc (.cells #[.int .i64 0, .int .i64 0, .int .i64 0] 177)).cell 2
  have HR := Blk.new (w.alloc (.cells #[.int .i64 n, .int .i64 b, .int .i64 d] 177)) 177 [.int .i64 n, .int .i64 b, .int .i64 d]
  rw [World.size_alloc] at HR
  replace HR := Lib.hid HR
  have HK := Lib.hid (((Keeps.refl (fun _ => False) w).alloc (.cells #[.int .i64 n, .int .i64 b, .int .i64 d] 177)).alloc (.cells #[.int .i64 n, .int .i64 b, .int .i64 d] 177))
  clear hb hb0
  go_enter Tryz.func199, Tryz.ntmps199
  go_wp2
  exact bodyPost_ret (results_blk rfl _ _ rfl HR.out Tryz.underlying177 rfl (by kernel_rfl)) rfl ⟨rfl, HK.out⟩
set_option maxRecDepth 100000 in
theorem sort_list (w : World) (p : Value) : Calls Tryz.prog 200 #[p] w fun e w' => e = .returned (.int .i64 5) ∧ Keeps (fun _ => False) w w' := by
  go_enter Tryz.func200, Tryz.ntmps200
  go_wp2
  go_ret
  exact ⟨rfl, Keeps.refl _ _⟩
set_option maxRecDepth 100000 in
theorem sort_object (w : World) (p : Value) : Calls Tryz.prog 201 #[p] w fun e w' => e = .returned (.int .i64 6) ∧ Keeps (fun _ => False) w w' := by
  go_enter Tryz.func201, Tryz.ntmps201
  go_wp2
  go_ret
  exact ⟨rfl, Keeps.refl _ _⟩
/-- The sizes that a value bears: the method that tells them. -/
theorem sized_inv {D : Nat → Prop} {w : World} {v : Value} {j : JV} (h : JAt D w v j) : ∃ T x f u, v = .iface T x ∧ (∀ W, Keeps (fun _ => False) w W → (Go.method 420 T x "affidavit/node.sized").run Tryz.prog W = .ok (f, u) W) ∧ Ent f ∧
    ∀ W, Calls Tryz.prog f #[u] W fun e w' => e = .returned (.agg (sizeV j).toArray) ∧ Keeps (fun _ => False) W w' := by
  cases h with
  | null => exact ⟨_, _, _, _, rfl, fun W _ => method_null _ W, enters_of Tryz.func202 (by kernel_rfl) rfl, fun W => by
      simpa [sizeV, JV.nodes, JV.bytes, JV.deep] using sized_null W⟩
  | flag b => exact ⟨_, _, _, _, rfl, fun W _ => method_flag _ W, enters_of Tryz.func204 (by kernel_rfl) rfl, fun W => by
      simpa [sizeV, JV.nodes, JV.bytes, JV.deep] using sized_flag W b⟩
  | num b => exact ⟨_, _, _, _, rfl, fun W _ => method_number _ W, enters_of Tryz.func206 (by kernel_rfl) rfl, fun W => by
      simpa [sizeV, JV.nodes, JV.bytes, JV.deep] using sized_number W b⟩
  | text s => exact ⟨_, _, _, _, rfl, fun W _ => method_text _ W, enters_of Tryz.func208 (by kernel_rfl) rfl, fun W => by
      simpa [sizeV, JV.nodes, JV.bytes, JV.deep] using sized_text W s⟩
  | list hD hb hr ho hl => exact ⟨_, _, _, _, rfl, fun W hW => (method_list _ W).trans (run_bound _ (load_size W _ _ _ _ _ _ (hW.blk hb (fun h => h)))), enters_of Tryz.func199 (by kernel_rfl) rfl, fun W => sized_size W _ _ _⟩
  | obj hD hb hk hok hr ho hl => exact ⟨_, _, _, _, rfl, fun W hW => (method_object _ W).trans (run_bound _ (load_size W _ _ _ _ _ _ (hW.blk hb (fun h => h)))), enters_of Tryz.func199 (by kernel_rfl) rfl, fun W => sized_size W _ _ _⟩
/-- The sort: the method that tells it. -/
theorem sort_inv {D : Nat → Prop} {w : World} {v : Value} {j : JV} (h : JAt D w v j) : ∃ T x f u, v = .iface T x ∧ (∀ W, (Go.method 420 T x "affidavit/node.sort").run Tryz.prog W = .ok (f, u) W) ∧ Ent f ∧
    ∀ W, Calls Tryz.prog f #[u] W fun e w' => e = .returned (.int .i64 j.sort) ∧ Keeps (fun _ => False) W w' := by
  cases h with
  | null => exact ⟨_, _, _, _, rfl, fun W => methodS_null _ W, enters_of Tryz.func203 (by kernel_rfl) rfl, fun W => sort_null W⟩
  | flag b => exact ⟨_, _, _, _, rfl, fun W => methodS_flag _ W, enters_of Tryz.func205 (by kernel_rfl) rfl, fun W => sort_flag W b⟩
  | num b => exact ⟨_, _, _, _, rfl, fun W => methodS_number _ W, enters_of Tryz.func207 (by kernel_rfl) rfl, fun W => sort_number W b⟩
  | text s => exact ⟨_, _, _, _, rfl, fun W => methodS_text _ W, enters_of Tryz.func209 (by kernel_rfl) rfl, fun W => sort_text W s⟩
  | list => exact ⟨_, _, _, _, rfl, fun W => methodS_list _ W, enters_of Tryz.func200 (by kernel_rfl) rfl, fun W => sort_list W _⟩
  | obj => exact ⟨_, _, _, _, rfl, fun W => methodS_object _ W, enters_of Tryz.func201 (by kernel_rfl) rfl, fun W => sort_object W _⟩
set_option maxRecDepth 100000 in
theorem refsort_any {D : Nat → Prop} {w : World} {v : Value} {j : JV} (h : JAt D w v j) (W : World) : Calls Tryz.prog 66 #[.agg #[v]] W fun e w' => e = .returned (.int .i64 j.sort) ∧ Keeps (fun _ => False) W w' := by
  obtain ⟨T, x, f, u, rfl, hm, he, hc⟩ := sort_inv h
  have c0 := (Blk.new W 81 [.iface T x]).cell 0
  have HC := Lib.hid (hc (W.alloc (.cells #[.iface T x] 81)))
  have HK := Lib.hid ((Keeps.refl (fun _ => False) W).alloc (.cells #[.iface T x] 81))
  unfold Ent at he
  clear hc h
  go_enter Tryz.func66, Tryz.ntmps66
  go_wp2_with (go_at_fn f; refine HC.out.mono ?_; rintro e w2 ⟨rfl, hk2⟩; have HK2 := Lib.hid hk2; clear hk2)
  go_ret
  exact ⟨rfl, HK.out.trans HK2.out (fun _ _ h => h)⟩
set_option maxRecDepth 100000 in
theorem refsort_nil (W : World) : Calls Tryz.prog 66 #[.agg #[.nilIface]] W fun e w' => e = .returned (.int .i64 0) ∧ Keeps (fun _ => False) W w' := by
  have c0 := (Blk.new W 81 [.nilIface]).cell 0
  have HK := Lib.hid ((Keeps.refl (fun _ => False) W).alloc (.cells #[.nilIface] 81))
  go_enter Tryz.func66, Tryz.ntmps66
  go_wp2
  go_ret
  exact ⟨rfl, HK.out⟩
/-- The values within. -/
structure Items (D : Nat → Prop) (w : World) (j : JV) (A : Option Addr) (vs : List Value) : Prop where
  rd : Rd w A j.items.length vs
  inb : InB D A j.items.length
  at_ : ∀ (i : Nat) (v : Value) (x : JV), vs[i]? = some v → j.items[i]? = some x → JAt D w v x
theorem Items.none (D : Nat → Prop) (w : World) (j : JV) (h : j.items = []) : Items D w j none [] := ⟨by rw [h]; exact Rd.nil _ _, by rw [h]; exact InB.zero _ _, fun i v x hv => by cases hv⟩
set_option maxRecDepth 100000 in
set_option maxHeartbeats 1000000 in
theorem items_inv {D : Nat → Prop} {w : World} {v : Value} {j : JV} (h : JAt D w v j) : ∃ A c vs, Items D w j A vs ∧ ∀ W, Keeps (fun _ => False) w W → Calls Tryz.prog 74 #[.agg #[v]] W fun e w' => e = .returned (.slice A j.items.length c) ∧ Keeps (fun _ => False) W w' := by
  cases h with
  | null =>
    refine ⟨none, 0, [], Items.none _ _ _ rfl, fun W _ => ?_⟩
    show Calls _ _ _ _ fun e w' => e = .returned (.slice none 0 0) ∧ _
    have c0 := (Blk.new W 81 [.iface 166 (.agg #[])]).cell 0
    have HK := Lib.hid ((Keeps.refl (fun _ => False) W).alloc (.cells #[.iface 166 (.agg #[])] 81))
    have as1 := as_null_list
    have as2 := as_null_obj
    go_enter Tryz.func74, Tryz.ntmps74
    go_wp2
    go_ret
    exact ⟨rfl, HK.out⟩
  | flag b =>
    refine ⟨none, 0, [], Items.none _ _ _ rfl, fun W _ => ?_⟩
    show Calls _ _ _ _ fun e w' => e = .returned (.slice none 0 0) ∧ _
    have c0 := (Blk.new W 81 [.iface 167 (.bool b)]).cell 0
    have HK := Lib.hid ((Keeps.refl (fun _ => False) W).alloc (.cells #[.iface 167 (.bool b)] 81))
    have as1 := as_flag_list
    have as2 := as_flag_obj
    go_enter Tryz.func74, Tryz.ntmps74
    go_wp2
    go_ret
    exact ⟨rfl, HK.out⟩
  | num b hf hz hlt =>
    refine ⟨none, 0, [], Items.none _ _ _ rfl, fun W _ => ?_⟩
    show Calls _ _ _ _ fun e w' => e = .returned (.slice none 0 0) ∧ _
    have c0 := (Blk.new W 81 [.iface 172 (.float .f64 b)]).cell 0
    have HK := Lib.hid ((Keeps.refl (fun _ => False) W).alloc (.cells #[.iface 172 (.float .f64 b)] 81))
    have as1 := as_num_list
    have as2 := as_num_obj
    go_enter Tryz.func74, Tryz.ntmps74
    go_wp2
    go_ret
    exact ⟨rfl, HK.out⟩
  | text s =>
    refine ⟨none, 0, [], Items.none _ _ _ rfl, fun W _ => ?_⟩
    show Calls _ _ _ _ fun e w' => e = .returned (.slice none 0 0) ∧ _
    have c0 := (Blk.new W 81 [.iface 173 (.string s)]).cell 0
    have HK := Lib.hid ((Keeps.refl (fun _ => False) W).alloc (.cells #[.iface 173 (.string s)] 81))
    have as1 := as_text_list
    have as2 := as_text_obj
    go_enter Tryz.func74, Tryz.ntmps74
    go_wp2
    go_ret
    exact ⟨rfl, HK.out⟩
  | @list b A c vs l hD hb hr ho hl =>
    obtain ⟨n, hn⟩ : ∃ n, n = l.length := ⟨_, rfl⟩
    refine ⟨A, c, vs, ⟨hr, ho, hl⟩, fun W hW => ?_⟩
    have hbW := hW.blk hb (fun h => h)
    have d3 : (W.alloc (.cells #[.iface 158 (.pointer (some ⟨b, 0, none⟩))] 81)).cell? ⟨b, 3, none⟩ = some (.slice A l.length c) := (hbW.alloc _).cell 3
    show Calls _ _ _ _ fun e w' => e = .returned (.slice A l.length c) ∧ _
    rw [← hn] at d3 ⊢
    clear hb hr ho hl hbW hn
    have c0 := (Blk.new W 81 [.iface 158 (.pointer (some ⟨b, 0, none⟩))]).cell 0
    have HK := Lib.hid ((Keeps.refl (fun _ => False) W).alloc (.cells #[.iface 158 (.pointer (some ⟨b, 0, none⟩))] 81))
    have as1 := as_list_list
    go_enter Tryz.func74, Tryz.ntmps74
    go_wp2
    go_ret
    exact ⟨rfl, HK.out⟩
  | @obj b A B c d vs ks l hD hb hk hok hr ho hl =>
    obtain ⟨n, hn⟩ : ∃ n, n = l.length := ⟨_, rfl⟩
    refine ⟨A, c, vs, ⟨hr, ho, hl⟩, fun W hW => ?_⟩
    have hbW := hW.blk hb (fun h => h)
    have d4 : (W.alloc (.cells #[.iface 159 (.pointer (some ⟨b, 0, none⟩))] 81)).cell? ⟨b, 4, none⟩ = some (.slice A l.length c) := (hbW.alloc _).cell 4
    show Calls _ _ _ _ fun e w' => e = .returned (.slice A l.length c) ∧ _
    rw [← hn] at d4 ⊢
    clear hb hk hok hr ho hl hbW hn
    have c0 := (Blk.new W 81 [.iface 159 (.pointer (some ⟨b, 0, none⟩))]).cell 0
    have HK := Lib.hid ((Keeps.refl (fun _ => False) W).alloc (.cells #[.iface 159 (.pointer (some ⟨b, 0, none⟩))] 81))
    have as1 := as_obj_list
    have as2 := as_obj_obj
    go_enter Tryz.func74, Tryz.ntmps74
    go_wp2
    go_ret
    exact ⟨rfl, HK.out⟩
set_option maxRecDepth 100000 in
set_option maxHeartbeats 1000000 in
theorem keys_inv {D : Nat → Prop} {w : World} {v : Value} {j : JV} (h : JAt D w v j) : ∃ A c, Rd w A j.keys.length (j.keys.map .string) ∧ InB D A j.keys.length ∧ ∀ W, Keeps (fun _ => False) w W → Calls Tryz.prog 73 #[.agg #[v]] W fun e w' => e = .returned (.slice A j.keys.length c) ∧ Keeps (fun _ => False) W w' := by
  cases h with
  | null =>
    refine ⟨none, 0, Rd.nil _ _, InB.zero _ _, fun W _ => ?_⟩
    show Calls _ _ _ _ fun e w' => e = .returned (.slice none 0 0) ∧ _
    have c0 := (Blk.new W 81 [.iface 166 (.agg #[])]).cell 0
    have HK := Lib.hid ((Keeps.refl (fun _ => False) W).alloc (.cells #[.iface 166 (.agg #[])] 81))
    have as2 := as_null_obj
    go_enter Tryz.func73, Tryz.ntmps73
    go_wp2
    go_ret
    exact ⟨rfl, HK.out⟩
  | flag b =>
    refine ⟨none, 0, Rd.nil _ _, InB.zero _ _, fun W _ => ?_⟩
    show Calls _ _ _ _ fun e w' => e = .returned (.slice none 0 0) ∧ _
    have c0 := (Blk.new W 81 [.iface 167 (.bool b)]).cell 0
    have HK := Lib.hid ((Keeps.refl (fun _ => False) W).alloc (.cells #[.iface 167 (.bool b)] 81))
    have as2 := as_flag_obj
    go_enter Tryz.func73, Tryz.ntmps73
    go_wp2
    go_ret
    exact ⟨rfl, HK.out⟩
  | num b hf hz hlt =>
    refine ⟨none, 0, Rd.nil _ _, InB.zero _ _, fun W _ => ?_⟩
    show Calls _ _ _ _ fun e w' => e = .returned (.slice none 0 0) ∧ _
    have c0 := (Blk.new W 81 [.iface 172 (.float .f64 b)]).cell 0
    have HK := Lib.hid ((Keeps.refl (fun _ => False) W).alloc (.cells #[.iface 172 (.float .f64 b)] 81))
    have as2 := as_num_obj
    go_enter Tryz.func73, Tryz.ntmps73
    go_wp2
    go_ret
    exact ⟨rfl, HK.out⟩
  | text s =>
    refine ⟨none, 0, Rd.nil _ _, InB.zero _ _, fun W _ => ?_⟩
    show Calls _ _ _ _ fun e w' => e = .returned (.slice none 0 0) ∧ _
    have c0 := (Blk.new W 81 [.iface 173 (.string s)]).cell 0
    have HK := Lib.hid ((Keeps.refl (fun _ => False) W).alloc (.cells #[.iface 173 (.string s)] 81))
    have as2 := as_text_obj
    go_enter Tryz.func73, Tryz.ntmps73
    go_wp2
    go_ret
    exact ⟨rfl, HK.out⟩
  | @list b A c vs l hD hb hr ho hl =>
    refine ⟨none, 0, Rd.nil _ _, InB.zero _ _, fun W _ => ?_⟩
    show Calls _ _ _ _ fun e w' => e = .returned (.slice none 0 0) ∧ _
    clear hb hr ho hl
    have c0 := (Blk.new W 81 [.iface 158 (.pointer (some ⟨b, 0, none⟩))]).cell 0
    have HK := Lib.hid ((Keeps.refl (fun _ => False) W).alloc (.cells #[.iface 158 (.pointer (some ⟨b, 0, none⟩))] 81))
    have as2 := as_list_obj
    go_enter Tryz.func73, Tryz.ntmps73
    go_wp2
    go_ret
    exact ⟨rfl, HK.out⟩
  | @obj b A B c d vs ks l hD hb hk hok hr ho hl =>
    obtain ⟨n, hn⟩ : ∃ n, n = ks.length := ⟨_, rfl⟩
    refine ⟨B, d, hk, hok, fun W hW => ?_⟩
    have hbW := hW.blk hb (fun h => h)
    have d3 : (W.alloc (.cells #[.iface 159 (.pointer (some ⟨b, 0, none⟩))] 81)).cell? ⟨b, 3, none⟩ = some (.slice B ks.length d) := (hbW.alloc _).cell 3
    show Calls _ _ _ _ fun e w' => e = .returned (.slice B ks.length d) ∧ _
    rw [← hn] at d3 ⊢
    clear hb hk hok hr ho hl hbW hn
    have c0 := (Blk.new W 81 [.iface 159 (.pointer (some ⟨b, 0, none⟩))]).cell 0
    have HK := Lib.hid ((Keeps.refl (fun _ => False) W).alloc (.cells #[.iface 159 (.pointer (some ⟨b, 0, none⟩))] 81))
    have as2 := as_obj_obj
    go_enter Tryz.func73, Tryz.ntmps73
    go_wp2
    go_ret
    exact ⟨rfl, HK.out⟩
set_option maxRecDepth 100000 in
theorem len_any {D : Nat → Prop} {w : World} {v : Value} {j : JV} (h : JAt D w v j) (W : World) (hW : Keeps (fun _ => False) w W) : Calls Tryz.prog 47 #[.agg #[v]] W fun e w' => e = .returned (.int .i64 j.items.length) ∧ Keeps (fun _ => False) W w' := by
  obtain ⟨A, c, vs, hi, hc⟩ := items_inv h
  obtain ⟨T, x, rfl⟩ := h.iface
  obtain ⟨n, hn⟩ : ∃ n, n = j.items.length := ⟨_, rfl⟩
  rw [← hn] at hc ⊢
  have c0 := (Blk.new W 81 [.iface T x]).cell 0
  have HK := Lib.hid ((Keeps.refl (fun _ => False) W).alloc (.cells #[.iface T x] 81))
  have HC := Lib.hid (hc (W.alloc (.cells #[.iface T x] 81)) (hW.alloc _))
  clear hc hi h hn
  go_enter Tryz.func47, Tryz.ntmps47
  go_wp2_with (go_at_call 74; refine HC.out.mono ?_; rintro e w2 ⟨rfl, hk2⟩; have HK2 := Lib.hid hk2; clear hk2)
  go_ret
  exact ⟨rfl, HK.out.trans HK2.out (fun _ _ h => h)⟩
end Go.Proofs.YtdmcioghdindfaaGreatDoor
