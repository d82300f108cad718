/- Texts. -/
import Derived.Test.YtplleficmkfniaaGreatDoorS07
import Derived.Shelf.Abstract
import Derived.Sort.Grow
import Derived.Lib.ConvBytes
set_option linter.unusedSimpArgs false
set_option maxRecDepth 100000
set_option maxHeartbeats 4000000
namespace Go.Proofs.YtplleficmkfniaaGreatDoor
open Go Go.RowKit Go.Aff Go.Json Go.Shelf
def Ent (f : FuncId) : Prop := ∀ args w, (callFunc f args).run Tryz.prog w = .ok (.enter f args) w
theorem method_list (b : Nat) (w : World) : (Go.method 529 186 (.pointer (some ⟨b, 0, none⟩)) "affidavit/node.sized").run Tryz.prog w = ((do let v ← loadVar 228 ⟨b, 0, none⟩; pure (298, v)) : Sem (FuncId × Value)).run Tryz.prog w := by kernel_rfl
theorem methodS_list (b : Nat) (w : World) : (Go.method 529 186 (.pointer (some ⟨b, 0, none⟩)) "affidavit/node.sort").run Tryz.prog w = .ok (299, .pointer (some ⟨b, 0, none⟩)) w := by kernel_rfl
theorem method_object (b : Nat) (w : World) : (Go.method 529 187 (.pointer (some ⟨b, 0, none⟩)) "affidavit/node.sized").run Tryz.prog w = ((do let v ← loadVar 228 ⟨b, 0, none⟩; pure (298, v)) : Sem (FuncId × Value)).run Tryz.prog w := by kernel_rfl
theorem methodS_object (b : Nat) (w : World) : (Go.method 529 187 (.pointer (some ⟨b, 0, none⟩)) "affidavit/node.sort").run Tryz.prog w = .ok (300, .pointer (some ⟨b, 0, none⟩)) w := by kernel_rfl
theorem run_bound {P : Program} {w : World} {m : Sem Value} {v : Value} (f : FuncId) (h : m.run P w = .ok v w) : ((do let v ← m; pure (f, v)) : Sem (FuncId × Value)).run P w = .ok (f, v) w := by simp [go_sem, h]
theorem load_size (w : World) (b : Nat) (t : TypeId) (cs : List Value) (x y z : Value) (h : Blk w b t ([x, y, z] ++ cs)) : (loadVar 228 ⟨b, 0, none⟩).run Tryz.prog w = .ok (.agg #[x, y, z]) w := by
 have h1 := run_loadVar_at (P := Tryz.prog) 228 0 3 _ h (by simp) Tryz.underlying228 rfl (by kernel_rfl)
 exact h1
theorem sized_size (w : World) (n b d : Int) : Calls Tryz.prog 298 #[.agg #[.int .i64 n, .int .i64 b, .int .i64 d]] w fun e w' => e = .returned (.agg #[.int .i64 n, .int .i64 b, .int .i64 d]) ∧ Keeps (fun _ => False) w w' := by
 have hb0 := Blk.new w 228 [.int .i64 n, .int .i64 b, .int .i64 d]
 have hl := load_size (w.alloc (.cells #[.int .i64 n, .int .i64 b, .int .i64 d] 228) |>.alloc (.cells #[.int .i64 0, .int .i64 0, .int .i64 0] 228)) w.heap.size 228 [] (.int .i64 n) (.int .i64 b) (.int .i64 d) (hb0.alloc _)
 have hb := Blk.new (w.alloc (.cells #[.int .i64 n, .int .i64 b, .int .i64 d] 228)) 228 [.int .i64 0, .int .i64 0, .int .i64 0]
 rw [World.size_alloc] at hb
 have f0 := hb.frozen 0
 have f1 := hb.frozen 1
 have f2 := hb.frozen 2
 have c0 := (hb0.alloc (.cells #[.int .i64 0, .int .i64 0, .int .i64 0] 228)).cell 0
 have c1 := (hb0.alloc (.cells #[.int .i64 0, .int .i64 0, .int .i64 0] 228)).cell 1
 have c2 := (hb0.alloc (.cells #[.int .i64 0, .int .i64 0, .int .i64 0] 228)).cell 2
 have HR := Blk.new (w.alloc (.cells #[.int .i64 n, .int .i64 b, .int .i64 d] 228)) 228 [.int .i64 n, .int .i64 b, .int .i64 d]
 rw [World.size_alloc] at HR
 replace HR := H_ HR
 have HK := H_ (((Keeps.refl (fun _ => False) w).alloc (.cells #[.int .i64 n, .int .i64 b, .int .i64 d] 228)).alloc (.cells #[.int .i64 n, .int .i64 b, .int .i64 d] 228))
 clear hb hb0
 go_enter Tryz.func298, Tryz.ntmps298
 go_wp2
 exact bodyPost_ret (results_blk rfl _ _ rfl HR.out Tryz.underlying228 rfl (by kernel_rfl)) rfl ⟨rfl, HK.out⟩
theorem sort_list (w : World) (p : Value) : Calls Tryz.prog 299 #[p] w fun e w' => e = .returned (.int .i64 5) ∧ Keeps (fun _ => False) w w' := by
 go_enter Tryz.func299, Tryz.ntmps299
 go_wp2
 go_ret
 exact ⟨rfl, Keeps.refl _ _⟩
theorem sort_object (w : World) (p : Value) : Calls Tryz.prog 300 #[p] w fun e w' => e = .returned (.int .i64 6) ∧ Keeps (fun _ => False) w w' := by
 go_enter Tryz.func300, Tryz.ntmps300
 go_wp2
 go_ret
 exact ⟨rfl, Keeps.refl _ _⟩
theorem sized_inv {D : Nat → Prop} {w : World} {v : Value} {j : JV} (h : JAt D w v j) : ∃ T x f u, v = .iface T x ∧ (∀ W, Keeps (fun _ => False) w W → (Go.method 529 T x "affidavit/node.sized").run Tryz.prog W = .ok (f, u) W) ∧ Ent f ∧
  ∀ W, Calls Tryz.prog f #[u] W fun e w' => e = .returned (.agg (sizeV j).toArray) ∧ Keeps (fun _ => False) W w' := by
 cases h with
 | null => exact ⟨_, _, _, _, rfl, fun W _ => method_null _ W, enters_of Tryz.func301 (by kernel_rfl) rfl, fun W => by
   simpa [sizeV, JV.nodes, JV.bytes, JV.deep] using sized_null W⟩
 | flag b => exact ⟨_, _, _, _, rfl, fun W _ => method_flag _ W, enters_of Tryz.func303 (by kernel_rfl) rfl, fun W => by
   simpa [sizeV, JV.nodes, JV.bytes, JV.deep] using sized_flag W b⟩
 | num b => exact ⟨_, _, _, _, rfl, fun W _ => method_number _ W, enters_of Tryz.func305 (by kernel_rfl) rfl, fun W => by
   simpa [sizeV, JV.nodes, JV.bytes, JV.deep] using sized_number W b⟩
 | text s => exact ⟨_, _, _, _, rfl, fun W _ => method_text _ W, enters_of Tryz.func307 (by kernel_rfl) rfl, fun W => by
   simpa [sizeV, JV.nodes, JV.bytes, JV.deep] using sized_text W s⟩
 | list hD hb hr ho hl => exact ⟨_, _, _, _, rfl, fun W hW => (method_list _ W).trans (run_bound _ (load_size W _ _ _ _ _ _ (hW.blk hb (fun h => h)))), enters_of Tryz.func298 (by kernel_rfl) rfl, fun W => sized_size W _ _ _⟩
 | obj hD hb hk hok hr ho hl => exact ⟨_, _, _, _, rfl, fun W hW => (method_object _ W).trans (run_bound _ (load_size W _ _ _ _ _ _ (hW.blk hb (fun h => h)))), enters_of Tryz.func298 (by kernel_rfl) rfl, fun W => sized_size W _ _ _⟩
theorem sort_inv {D : Nat → Prop} {w : World} {v : Value} {j : JV} (h : JAt D w v j) : ∃ T x f u, v = .iface T x ∧ (∀ W, (Go.method 529 T x "affidavit/node.sort").run Tryz.prog W = .ok (f, u) W) ∧ Ent f ∧
  ∀ W, Calls Tryz.prog f #[u] W fun e w' => e = .returned (.int .i64 j.sort) ∧ Keeps (fun _ => False) W w' := by
 cases h with
 | null => exact ⟨_, _, _, _, rfl, fun W => methodS_null _ W, enters_of Tryz.func302 (by kernel_rfl) rfl, fun W => sort_null W⟩
 | flag b => exact ⟨_, _, _, _, rfl, fun W => methodS_flag _ W, enters_of Tryz.func304 (by kernel_rfl) rfl, fun W => sort_flag W b⟩
 | num b => exact ⟨_, _, _, _, rfl, fun W => methodS_number _ W, enters_of Tryz.func306 (by kernel_rfl) rfl, fun W => sort_number W b⟩
 | text s => exact ⟨_, _, _, _, rfl, fun W => methodS_text _ W, enters_of Tryz.func308 (by kernel_rfl) rfl, fun W => sort_text W s⟩
 | list => exact ⟨_, _, _, _, rfl, fun W => methodS_list _ W, enters_of Tryz.func299 (by kernel_rfl) rfl, fun W => sort_list W _⟩
 | obj => exact ⟨_, _, _, _, rfl, fun W => methodS_object _ W, enters_of Tryz.func300 (by kernel_rfl) rfl, fun W => sort_object W _⟩
theorem refsort_any {D : Nat → Prop} {w : World} {v : Value} {j : JV} (h : JAt D w v j) (W : World) : Calls Tryz.prog 47 #[.agg #[v]] W fun e w' => e = .returned (.int .i64 j.sort) ∧ Keeps (fun _ => False) W w' := by
 obtain ⟨T, x, f, u, rfl, hm, he, hc⟩ := sort_inv h
 have c0 := (Blk.new W 95 [.iface T x]).cell 0
 have HC := H_ (hc (W.alloc (.cells #[.iface T x] 95)))
 have HK := H_ ((Keeps.refl (fun _ => False) W).alloc (.cells #[.iface T x] 95))
 unfold Ent at he
 clear hc h
 go_enter Tryz.func47, Tryz.ntmps47
 go_wp2_with (go_at_fn f; refine HC.out.mono ?_; rintro e w2 ⟨rfl, hk2⟩; have HK2 := H_ hk2; clear hk2)
 go_ret
 exact ⟨rfl, HK.out.trans HK2.out (fun _ _ h => h)⟩
structure Items (D : Nat → Prop) (w : World) (j : JV) (A : Option Addr) (vs : List Value) : Prop where
 rd : Rd w A j.items.length vs
 inb : InB D A j.items.length
 at_ : ∀ (i : Nat) (v : Value) (x : JV), vs[i]? = some v → j.items[i]? = some x → JAt D w v x
theorem Items.none (D : Nat → Prop) (w : World) (j : JV) (h : j.items = []) : Items D w j none [] := ⟨by rw [h]; exact Rd.nil _ _, by rw [h]; exact InB.zero _ _, fun i v x hv => by cases hv⟩
theorem items_inv {D : Nat → Prop} {w : World} {v : Value} {j : JV} (h : JAt D w v j) : ∃ A c vs, Items D w j A vs ∧ ∀ W, Keeps (fun _ => False) w W → Calls Tryz.prog 84 #[.agg #[v]] W fun e w' => e = .returned (.slice A j.items.length c) ∧ Keeps (fun _ => False) W w' := by
 cases h with
 | null =>
  refine ⟨none, 0, [], Items.none _ _ _ rfl, fun W _ => ?_⟩
  show Calls _ _ _ _ fun e w' => e = .returned (.slice none 0 0) ∧ _
  have c0 := (Blk.new W 95 [.iface 217 (.agg #[])]).cell 0
  have HK := H_ ((Keeps.refl (fun _ => False) W).alloc (.cells #[.iface 217 (.agg #[])] 95))
  have as1 := as_null_list
  have as2 := as_null_obj
  go_enter Tryz.func84, Tryz.ntmps84
  go_wp2
  go_ret
  exact ⟨rfl, HK.out⟩
 | flag b =>
  refine ⟨none, 0, [], Items.none _ _ _ rfl, fun W _ => ?_⟩
  show Calls _ _ _ _ fun e w' => e = .returned (.slice none 0 0) ∧ _
  have c0 := (Blk.new W 95 [.iface 218 (.bool b)]).cell 0
  have HK := H_ ((Keeps.refl (fun _ => False) W).alloc (.cells #[.iface 218 (.bool b)] 95))
  have as1 := as_flag_list
  have as2 := as_flag_obj
  go_enter Tryz.func84, Tryz.ntmps84
  go_wp2
  go_ret
  exact ⟨rfl, HK.out⟩
 | num b hf hz hlt =>
  refine ⟨none, 0, [], Items.none _ _ _ rfl, fun W _ => ?_⟩
  show Calls _ _ _ _ fun e w' => e = .returned (.slice none 0 0) ∧ _
  have c0 := (Blk.new W 95 [.iface 223 (.float .f64 b)]).cell 0
  have HK := H_ ((Keeps.refl (fun _ => False) W).alloc (.cells #[.iface 223 (.float .f64 b)] 95))
  have as1 := as_num_list
  have as2 := as_num_obj
  go_enter Tryz.func84, Tryz.ntmps84
  go_wp2
  go_ret
  exact ⟨rfl, HK.out⟩
 | text s =>
  refine ⟨none, 0, [], Items.none _ _ _ rfl, fun W _ => ?_⟩
  show Calls _ _ _ _ fun e w' => e = .returned (.slice none 0 0) ∧ _
  have c0 := (Blk.new W 95 [.iface 224 (.string s)]).cell 0
  have HK := H_ ((Keeps.refl (fun _ => False) W).alloc (.cells #[.iface 224 (.string s)] 95))
  have as1 := as_text_list
  have as2 := as_text_obj
  go_enter Tryz.func84, Tryz.ntmps84
  go_wp2
  go_ret
  exact ⟨rfl, HK.out⟩
 | @list b A c vs l hD hb hr ho hl =>
  obtain ⟨n, hn⟩ : ∃ n, n = l.length := ⟨_, rfl⟩
  refine ⟨A, c, vs, ⟨hr, ho, hl⟩, fun W hW => ?_⟩
  have hbW := hW.blk hb (fun h => h)
  have d3 : (W.alloc (.cells #[.iface 186 (.pointer (some ⟨b, 0, none⟩))] 95)).cell? ⟨b, 3, none⟩ = some (.slice A l.length c) := (hbW.alloc _).cell 3
  show Calls _ _ _ _ fun e w' => e = .returned (.slice A l.length c) ∧ _
  rw [← hn] at d3 ⊢
  clear hb hr ho hl hbW hn
  have c0 := (Blk.new W 95 [.iface 186 (.pointer (some ⟨b, 0, none⟩))]).cell 0
  have HK := H_ ((Keeps.refl (fun _ => False) W).alloc (.cells #[.iface 186 (.pointer (some ⟨b, 0, none⟩))] 95))
  have as1 := as_list_list
  go_enter Tryz.func84, Tryz.ntmps84
  go_wp2
  go_ret
  exact ⟨rfl, HK.out⟩
 | @obj b A B c d vs ks l hD hb hk hok hr ho hl =>
  obtain ⟨n, hn⟩ : ∃ n, n = l.length := ⟨_, rfl⟩
  refine ⟨A, c, vs, ⟨hr, ho, hl⟩, fun W hW => ?_⟩
  have hbW := hW.blk hb (fun h => h)
  have d4 : (W.alloc (.cells #[.iface 187 (.pointer (some ⟨b, 0, none⟩))] 95)).cell? ⟨b, 4, none⟩ = some (.slice A l.length c) := (hbW.alloc _).cell 4
  show Calls _ _ _ _ fun e w' => e = .returned (.slice A l.length c) ∧ _
  rw [← hn] at d4 ⊢
  clear hb hk hok hr ho hl hbW hn
  have c0 := (Blk.new W 95 [.iface 187 (.pointer (some ⟨b, 0, none⟩))]).cell 0
  have HK := H_ ((Keeps.refl (fun _ => False) W).alloc (.cells #[.iface 187 (.pointer (some ⟨b, 0, none⟩))] 95))
  have as1 := as_obj_list
  have as2 := as_obj_obj
  go_enter Tryz.func84, Tryz.ntmps84
  go_wp2
  go_ret
  exact ⟨rfl, HK.out⟩
theorem keys_inv {D : Nat → Prop} {w : World} {v : Value} {j : JV} (h : JAt D w v j) : ∃ A c, Rd w A j.keys.length (j.keys.map .string) ∧ InB D A j.keys.length ∧ ∀ W, Keeps (fun _ => False) w W → Calls Tryz.prog 83 #[.agg #[v]] W fun e w' => e = .returned (.slice A j.keys.length c) ∧ Keeps (fun _ => False) W w' := by
 cases h with
 | null =>
  refine ⟨none, 0, Rd.nil _ _, InB.zero _ _, fun W _ => ?_⟩
  show Calls _ _ _ _ fun e w' => e = .returned (.slice none 0 0) ∧ _
  have c0 := (Blk.new W 95 [.iface 217 (.agg #[])]).cell 0
  have HK := H_ ((Keeps.refl (fun _ => False) W).alloc (.cells #[.iface 217 (.agg #[])] 95))
  have as2 := as_null_obj
  go_enter Tryz.func83, Tryz.ntmps83
  go_wp2
  go_ret
  exact ⟨rfl, HK.out⟩
 | flag b =>
  refine ⟨none, 0, Rd.nil _ _, InB.zero _ _, fun W _ => ?_⟩
  show Calls _ _ _ _ fun e w' => e = .returned (.slice none 0 0) ∧ _
  have c0 := (Blk.new W 95 [.iface 218 (.bool b)]).cell 0
  have HK := H_ ((Keeps.refl (fun _ => False) W).alloc (.cells #[.iface 218 (.bool b)] 95))
  have as2 := as_flag_obj
  go_enter Tryz.func83, Tryz.ntmps83
  go_wp2
  go_ret
  exact ⟨rfl, HK.out⟩
 | num b hf hz hlt =>
  refine ⟨none, 0, Rd.nil _ _, InB.zero _ _, fun W _ => ?_⟩
  show Calls _ _ _ _ fun e w' => e = .returned (.slice none 0 0) ∧ _
  have c0 := (Blk.new W 95 [.iface 223 (.float .f64 b)]).cell 0
  have HK := H_ ((Keeps.refl (fun _ => False) W).alloc (.cells #[.iface 223 (.float .f64 b)] 95))
  have as2 := as_num_obj
  go_enter Tryz.func83, Tryz.ntmps83
  go_wp2
  go_ret
  exact ⟨rfl, HK.out⟩
 | text s =>
  refine ⟨none, 0, Rd.nil _ _, InB.zero _ _, fun W _ => ?_⟩
  show Calls _ _ _ _ fun e w' => e = .returned (.slice none 0 0) ∧ _
  have c0 := (Blk.new W 95 [.iface 224 (.string s)]).cell 0
  have HK := H_ ((Keeps.refl (fun _ => False) W).alloc (.cells #[.iface 224 (.string s)] 95))
  have as2 := as_text_obj
  go_enter Tryz.func83, Tryz.ntmps83
  go_wp2
  go_ret
  exact ⟨rfl, HK.out⟩
 | @list b A c vs l hD hb hr ho hl =>
  refine ⟨none, 0, Rd.nil _ _, InB.zero _ _, fun W _ => ?_⟩
  show Calls _ _ _ _ fun e w' => e = .returned (.slice none 0 0) ∧ _
  clear hb hr ho hl
  have c0 := (Blk.new W 95 [.iface 186 (.pointer (some ⟨b, 0, none⟩))]).cell 0
  have HK := H_ ((Keeps.refl (fun _ => False) W).alloc (.cells #[.iface 186 (.pointer (some ⟨b, 0, none⟩))] 95))
  have as2 := as_list_obj
  go_enter Tryz.func83, Tryz.ntmps83
  go_wp2
  go_ret
  exact ⟨rfl, HK.out⟩
 | @obj b A B c d vs ks l hD hb hk hok hr ho hl =>
  obtain ⟨n, hn⟩ : ∃ n, n = ks.length := ⟨_, rfl⟩
  refine ⟨B, d, hk, hok, fun W hW => ?_⟩
  have hbW := hW.blk hb (fun h => h)
  have d3 : (W.alloc (.cells #[.iface 187 (.pointer (some ⟨b, 0, none⟩))] 95)).cell? ⟨b, 3, none⟩ = some (.slice B ks.length d) := (hbW.alloc _).cell 3
  show Calls _ _ _ _ fun e w' => e = .returned (.slice B ks.length d) ∧ _
  rw [← hn] at d3 ⊢
  clear hb hk hok hr ho hl hbW hn
  have c0 := (Blk.new W 95 [.iface 187 (.pointer (some ⟨b, 0, none⟩))]).cell 0
  have HK := H_ ((Keeps.refl (fun _ => False) W).alloc (.cells #[.iface 187 (.pointer (some ⟨b, 0, none⟩))] 95))
  have as2 := as_obj_obj
  go_enter Tryz.func83, Tryz.ntmps83
  go_wp2
  go_ret
  exact ⟨rfl, HK.out⟩
theorem infoStr : (Tryz.prog.info? 9).map (fun i => (i.zero, i.size, i.bytes)) = some (some (.string ⟨#[]⟩), 1, 16) := by kernel_rfl
theorem mine_none (w : World) (e : TypeId) : Mine w w e none 0 0 [] := ⟨World.ownsRow_nil _ _ _ _, Keeps.refl _ _, fun g h => by cases h⟩
theorem iclone_any (w : World) (A : Option Addr) (n c : Nat) (vs : List Value) (hr : Rd w A n vs) (h1 : ∀ u ∈ vs, u.oneCell' = true) (hn : n ≤ 1099511627776) :
  Calls Tryz.prog 166 #[.slice A n c] w fun e w' => ∃ A' c', e = .returned (.slice A' n c') ∧ Mine w w' 93 A' n c' vs := by
 cases A with
 | none =>
  have hz : n = 0 := by
   rcases Nat.eq_zero_or_pos n with h | h
   ·exact h
   ·obtain ⟨g, o, e, _⟩ := hr.2 h
    cases e
  subst hz
  have hv : vs = [] := List.length_eq_zero_iff.1 hr.1
  subst hv
  clear hr h1
  have hnil := fun wx => Lib.run_eql_slice_nil (P := Tryz.prog) wx 127 93 none 0 c 0 0 Tryz.underlying127
  go_enter Tryz.func166, Tryz.ntmps166
  go_wp2
  go_ret
  exact ⟨none, 0, rfl, mine_none w _⟩
 | some a =>
  have HM := H_ (Mine.built w w 93 0 [] (Keeps.refl _ w) rfl (by unfold maxLen; omega))
  have HR := H_ (hr.alloc (.cells #[] 93))
  have H1 := H_ h1
  clear hr h1
  have hnil := fun wx => Lib.run_eql_slice_nil (P := Tryz.prog) wx 127 93 (some a) n c 0 0 Tryz.underlying127
  go_enter Tryz.func166, Tryz.ntmps166
  go_wp2_with (at_builtin; refine wpList_append_rd _ rfl (.tmp 5) (.tmp 6) 127 rfl 93 .nilIface 16 Tryz.underlying127 infoIt rfl _ 0 [] rfl HM.out.1 (some a) n c vs rfl HR.out H1.out (by unfold maxLen; omega) (by omega) ?_; intro A' c' w' hown hg hb; have HM2 := H_ (HM.out.app0 hown hg hb); clear hown hg hb)
  go_ret
  have hm := HM2.out
  rw [List.nil_append, Nat.zero_add] at hm
  exact ⟨A', c', rfl, hm⟩
theorem sclone_any (w : World) (A : Option Addr) (n c : Nat) (vs : List Value) (hr : Rd w A n vs) (h1 : ∀ u ∈ vs, u.oneCell' = true) (hn : n ≤ 1099511627776) :
  Calls Tryz.prog 167 #[.slice A n c] w fun e w' => ∃ A' c', e = .returned (.slice A' n c') ∧ Mine w w' 9 A' n c' vs := by
 cases A with
 | none =>
  have hz : n = 0 := by
   rcases Nat.eq_zero_or_pos n with h | h
   ·exact h
   ·obtain ⟨g, o, e, _⟩ := hr.2 h
    cases e
  subst hz
  have hv : vs = [] := List.length_eq_zero_iff.1 hr.1
  subst hv
  clear hr h1
  have hnil := fun wx => Lib.run_eql_slice_nil (P := Tryz.prog) wx 78 9 none 0 c 0 0 Tryz.underlying78
  go_enter Tryz.func167, Tryz.ntmps167
  go_wp2
  go_ret
  exact ⟨none, 0, rfl, mine_none w _⟩
 | some a =>
  have HM := H_ (Mine.built w w 9 0 [] (Keeps.refl _ w) rfl (by unfold maxLen; omega))
  have HR := H_ (hr.alloc (.cells #[] 9))
  have H1 := H_ h1
  clear hr h1
  have hnil := fun wx => Lib.run_eql_slice_nil (P := Tryz.prog) wx 78 9 (some a) n c 0 0 Tryz.underlying78
  go_enter Tryz.func167, Tryz.ntmps167
  go_wp2_with (at_builtin; refine wpList_append_rd _ rfl (.tmp 5) (.tmp 6) 78 rfl 9 (.string ⟨#[]⟩) 16 Tryz.underlying78 infoStr rfl _ 0 [] rfl HM.out.1 (some a) n c vs rfl HR.out H1.out (by unfold maxLen; omega) (by omega) ?_; intro A' c' w' hown hg hb; have HM2 := H_ (HM.out.app0 hown hg hb); clear hown hg hb)
  go_ret
  have hm := HM2.out
  rw [List.nil_append, Nat.zero_add] at hm
  exact ⟨A', c', rfl, hm⟩
end Go.Proofs.YtplleficmkfniaaGreatDoor
namespace Go.Json
theorem sumN_append (a b : List Nat) : sumN (a ++ b) = sumN a + sumN b := by
 induction a with
 | nil => simp [sumN]
 | cons x a ih => simp [sumN, ih]; omega
theorem maxN_append (a b : List Nat) : maxN (a ++ b) = max (maxN a) (maxN b) := by
 induction a with
 | nil => simp [maxN]
 | cons x a ih => simp only [List.cons_append, maxN, ih]; omega
theorem sumN_le {l : List Nat} {m : Nat} (h : ∀ x ∈ l, x ≤ m) : sumN l ≤ l.length * m := by
 induction l with
 | nil => simp [sumN]
 | cons x l ih =>
  have h1 := h x List.mem_cons_self
  have h2 := ih fun y hy => h y (List.mem_cons_of_mem _ hy)
  rw [sumN, List.length_cons, Nat.succ_mul]
  omega
theorem maxN_le {l : List Nat} {m : Nat} (h : ∀ x ∈ l, x ≤ m) : maxN l ≤ m := by
 induction l with
 | nil => simp [maxN]
 | cons x l ih =>
  have h1 := h x List.mem_cons_self
  have h2 := ih fun y hy => h y (List.mem_cons_of_mem _ hy)
  rw [maxN]; omega
end Go.Json
namespace Go.Proofs.YtplleficmkfniaaGreatDoor
open Go Go.RowKit Go.Aff Go.Json Go.Shelf
def sums (L : List JV) : Nat × Nat × Nat := (sumN (L.map fun x => x.nodes), sumN (L.map fun x => x.bytes), maxN (L.map fun x => x.deep))
theorem sums_take {L : List JV} {i : Nat} {x : JV} (h : L[i]? = some x) : sums (L.take (i + 1)) = ((sums (L.take i)).1 + x.nodes, (sums (L.take i)).2.1 + x.bytes, max (sums (L.take i)).2.2 x.deep) := by
 unfold sums
 rw [List.take_add_one, h]
 simp only [Option.toList, List.map_append, sumN_append, maxN_append, List.map_cons, List.map_nil, sumN, maxN, Nat.add_zero, Nat.max_zero]
theorem sums_small {L : List JV} {m : Nat} (h : ∀ x ∈ L, x.within) (hm : L.length ≤ m) : (sums L).1 ≤ m * 65536 ∧ (sums L).2.1 ≤ m * 2097152 ∧ (sums L).2.2 ≤ 512 := by
 refine ⟨?_, ?_, ?_⟩
 ·refine Nat.le_trans (sumN_le (m := 65536) fun y hy => ?_) (Nat.mul_le_mul_right _ (by rw [List.length_map]; exact hm))
  obtain ⟨x, hx, rfl⟩ := List.mem_map.1 hy
  exact (h x hx).1
 ·refine Nat.le_trans (sumN_le (m := 2097152) fun y hy => ?_) (Nat.mul_le_mul_right _ (by rw [List.length_map]; exact hm))
  obtain ⟨x, hx, rfl⟩ := List.mem_map.1 hy
  exact (h x hx).2.1
 ·refine maxN_le fun y hy => ?_
  obtain ⟨x, hx, rfl⟩ := List.mem_map.1 hy
  exact (h x hx).2.2
structure Summing (w wr : World) (g : Nat) (by' : Nat) (L : List JV) (i : Nat) : Prop where
 keep : Keeps (fun _ => False) w wr
 lo : w.heap.size ≤ g
 res : Blk wr w.heap.size 228 [.int .i64 0, .int .i64 0, .int .i64 0]
 blk : Blk wr g 228 [.int .i64 (1 + (sums (L.take i)).1 : Nat), .int .i64 (by' + (sums (L.take i)).2.1 : Nat), .int .i64 (sums (L.take i)).2.2]
 ne : g ≠ w.heap.size
theorem summed_any {D : Nat → Prop} (w : World) (A : Option Addr) (n c by' : Nat) (vs : List Value) (L : List JV) (hL : L.length = n) (hn : n ≤ 1048576) (hby : by' ≤ 2199023255552) (hw : ∀ x ∈ L, x.within) (hr : Rd w A n vs)
  (hat : ∀ (i : Nat) (v : Value) (x : JV), vs[i]? = some v → L[i]? = some x → JAt D w v x) :
  Calls Tryz.prog 115 #[.slice A n c, .int .i64 by'] w fun e w' => e = .returned (.agg #[.int .i64 (1 + (sums L).1 : Nat), .int .i64 (by' + (sums L).2.1 : Nat), .int .i64 ((sums L).2.2 + 1 : Nat)]) ∧ Keeps (fun _ => False) w w' := by
 have HSM : Hid (∀ i, (sums (L.take i)).1 ≤ 68719476736 ∧ (sums (L.take i)).2.1 ≤ 2199023255552 ∧ (sums (L.take i)).2.2 ≤ 512) := H_ fun i => by
  have := sums_small (L := L.take i) (m := 1048576) (fun x hx => hw x (List.mem_of_mem_take hx)) (by rw [List.length_take]; omega)
  omega
 have HE : Hid (∀ i, i < n → ∃ g o T y f u x, A = some ⟨g, o, none⟩ ∧ w.cell? ⟨g, o + i, none⟩ = some (.iface T y) ∧ L[i]? = some x ∧ (∀ W, Keeps (fun _ => False) w W → (Go.method 529 T y "affidavit/node.sized").run Tryz.prog W = .ok (f, u) W) ∧ Ent f ∧
   ∀ W, Calls Tryz.prog f #[u] W fun e w' => e = .returned (.agg (sizeV x).toArray) ∧ Keeps (fun _ => False) W w') := H_ fun i hi => by
  obtain ⟨g, o, e, hc⟩ := hr.2 (by omega)
  obtain ⟨v, hv⟩ : ∃ v, vs[i]? = some v := ⟨_, List.getElem?_eq_getElem (by rw [hr.1]; exact hi)⟩
  obtain ⟨x, hx⟩ : ∃ x, L[i]? = some x := ⟨_, List.getElem?_eq_getElem (by omega)⟩
  obtain ⟨T, y, f, u, rfl, hm, he, hcl⟩ := sized_inv (hat i v x hv hx)
  exact ⟨g, o, T, y, f, u, x, e, (hc i hi).trans hv, hx, hm, he, hcl⟩
 have HLN := H_ hL
 have hb1 := Blk.new w 228 [.int .i64 0, .int .i64 0, .int .i64 0]
 have HB1 := H_ hb1
 clear hr hat hw hL hb1
 go_enter Tryz.func115, Tryz.ntmps115
 go_upto_region 2 with fail
 have hS0 : Summing w ((w.alloc (.cells #[.int .i64 0, .int .i64 0, .int .i64 0] 228)).alloc (.cells #[.int .i64 1, .int .i64 by', .int .i64 0] 228)) (w.heap.size + 1) by' L 0 := by
  have hb2 := Blk.new (w.alloc (.cells #[.int .i64 0, .int .i64 0, .int .i64 0] 228)) 228 [.int .i64 1, .int .i64 by', .int .i64 0]
  rw [World.size_alloc] at hb2
  exact ⟨((Keeps.refl _ w).alloc _).alloc _, by omega, HB1.out.alloc _, hb2, by omega⟩
 obtain ⟨g, hg⟩ : ∃ g, g = w.heap.size + 1 := ⟨_, rfl⟩
 rw [← hg] at hS0 ⊢
 have HS0 := H_ hS0
 clear hS0 hg HB1
 refine gen_codeF (fun W => Summing w W g by' L 0) HS0.out ?_
 intro w1 hs1
 have HS1 := H_ hs1
 clear hs1 HS0
 go_upto_block 0 with fail
 go_wp2
 go_loopg [13] n (fun gk t wx => ∃ (i : Nat), i ≤ n ∧ t = .int .i64 i ∧ gk = n - i ∧ Hid (Summing w wx g by' L i))
 case atStart => exact ⟨0, by omega, rfl, by omega, HS1⟩
 case round =>
  obtain ⟨i, hi, rfl, hgk, HS⟩ := hrel
  have HGK := H_ hgk
  clear hgk HS1
  by_cases hlt : i < n
  ·obtain ⟨ga, o, T, y, f, u, x, rfl, hcl, hx, hm, he, hc⟩ := HE.out i hlt
   unfold Ent at he
   have HC := H_ hc
   have HX := H_ hx
   have HM := H_ hm
   have ce := cell_keep HS.out.keep hcl
   have hmm := hm wr HS.out.keep
   obtain ⟨a1, ha1⟩ : ∃ a, a = (sums (L.take i)).1 := ⟨_, rfl⟩
   obtain ⟨a2, ha2⟩ : ∃ a, a = (sums (L.take i)).2.1 := ⟨_, rfl⟩
   obtain ⟨a3, ha3⟩ : ∃ a, a = (sums (L.take i)).2.2 := ⟨_, rfl⟩
   have hsm := HSM.out i
   have hsm2 := HSM.out (i + 1)
   rw [sums_take hx] at hsm2
   simp only at hsm2
   rw [← ha1, ← ha2, ← ha3] at hsm2
   have hbs := HS.out.blk
   rw [← ha1, ← ha2, ← ha3] at hbs hsm
   have HA := H_ (And.intro ha1 (And.intro ha2 ha3))
   have HBS := H_ hbs
   obtain ⟨p1, hp1⟩ : ∃ a, a = x.nodes := ⟨_, rfl⟩
   obtain ⟨p2, hp2⟩ : ∃ a, a = x.bytes := ⟨_, rfl⟩
   obtain ⟨p3, hp3⟩ : ∃ a, a = x.deep := ⟨_, rfl⟩
   have hcall : ∀ W, Calls Tryz.prog f #[u] W fun e w' => e = .returned (.agg #[.int .i64 p1, .int .i64 p2, .int .i64 p3]) ∧ Keeps (fun _ => False) W w' := by rw [hp1, hp2, hp3]; exact hc
   rw [← hp1, ← hp2, ← hp3] at hsm2
   have HP := H_ (And.intro hp1 (And.intro hp2 hp3))
   have HCA := H_ hcall
   clear hc hx hm hcl ha1 ha2 ha3 hbs hp1 hp2 hp3 hcall HC
   go_upto_region 6 with (first
    | (go_at_fn f; refine (HCA.out _).mono ?_; rintro e w2 ⟨rfl, hk2⟩; have HK2 := H_ hk2; have fz := (Blk.new w2 228 [.int .i64 0, .int .i64 0, .int .i64 0]).frozen; have z0 := fz 0; have z1 := fz 1; have z2 := fz 2; clear hk2 fz))
   obtain ⟨zb, hzb⟩ : ∃ zb, zb = w2.heap.size := ⟨_, rfl⟩
   have hk3 := HK2.out.alloc (.cells #[.int .i64 p1, .int .i64 p2, .int .i64 p3] 228)
   have hz3 := Blk.new w2 228 [.int .i64 p1, .int .i64 p2, .int .i64 p3]
   have hgz : g ≠ w2.heap.size := by have h1 := HBS.out.lt; have h2 := HK2.out.size; omega
   rw [← hzb] at hz3 hgz ⊢
   have HX6 := H_ (And.intro (hk3.blk HBS.out (fun h => h)) (And.intro hz3 hk3))
   clear hk3 hz3 hzb z0 z1 z2 HK2
   obtain ⟨t1, ht1⟩ : ∃ t, t = 1 + a1 := ⟨_, rfl⟩
   obtain ⟨t2, ht2⟩ : ∃ t, t = by' + a2 := ⟨_, rfl⟩
   rw [← ht1, ← ht2] at HX6
   have HT := H_ (And.intro ht1 ht2)
   have r1 : (t1 : Int) ≤ 68719476737 := by omega
   have r2 : (t2 : Int) ≤ 4398046511104 := by omega
   have r3 : (a3 : Int) ≤ 512 := by omega
   have r4 : (p1 : Int) ≤ 68719476736 := by omega
   have r5 : (p2 : Int) ≤ 4398046511104 := by omega
   have r6 : (p3 : Int) ≤ 512 := by omega
   clear ht1 ht2 hsm hsm2
   refine gen_codeF (fun W => Blk W g 228 [.int .i64 t1, .int .i64 t2, .int .i64 a3] ∧ Blk W zb 228 [.int .i64 p1, .int .i64 p2, .int .i64 p3] ∧ Keeps (fun _ => False) wr W) HX6.out ?_
   clear HX6
   rintro w6 ⟨hb6, hz6, hk6⟩
   have HB6 := H_ hb6
   have HZ6 := H_ hz6
   have HK6 := H_ hk6
   have d0 := hb6.cell 0
   have e0 := hb6.frozen 0
   have y0 := hz6.cell 0
   clear hb6 hz6 hk6
   have hb7 := HB6.out.set_ 0 (.int .i64 ((t1 : Int) + p1))
   have hz7 := HZ6.out.far (p := ⟨g, 0, none⟩) (Ne.symm hgz) (.int .i64 ((t1 : Int) + p1))
   have d1 := hb7.cell 1
   have e1 := hb7.frozen 1
   have y1 := hz7.cell 1
   have hb8 := hb7.set_ 1 (.int .i64 ((t2 : Int) + p2))
   have hz8 := hz7.far (p := ⟨g, 1, none⟩) (Ne.symm hgz) (.int .i64 ((t2 : Int) + p2))
   have d2 := hb8.cell 2
   have e2 := hb8.frozen 2
   have y2 := hz8.cell 2
   have HB8 := H_ hb8
   have HK8 := H_ ((HK6.out.mono (G := fun i => i = g) (fun _ _ h => h.elim)).setCell (p := ⟨g, 0, none⟩) (.inl rfl) (.int .i64 ((t1 : Int) + p1)) |>.setCell (p := ⟨g, 1, none⟩) (.inl rfl) (.int .i64 ((t2 : Int) + p2)))
   clear hb7 hz7 hb8 hz8
   rcases Nat.lt_or_ge a3 p3 with hle | hle
   rotate_left
   ·have hle' : (p3 : Int) ≤ a3 := by omega
    have HK9 := H_ (HK8.out.setCell (p := ⟨g, 2, none⟩) (.inl rfl) (.int .i64 a3))
    have HLE := H_ hle
    clear hle
    go_wp2
    go_roundg (n - (i + 1))
    case measure => rw [HGK.out]; omega
    case rel =>
     refine ⟨i + 1, by omega, by go_num, rfl, H_ ⟨HS.out.keep.trans HK9.out (fun k hk e => by have := HS.out.lo; omega), HS.out.lo, HK9.out.blk HS.out.res (fun e => HS.out.ne e.symm), ?_, HS.out.ne⟩⟩
     have hb := HB8.out.set_ 2 (.int .i64 (a3 : Int))
     rw [sums_take HX.out]
     obtain ⟨e1, e2, e3⟩ := HA.out
     obtain ⟨e4, e5, e6⟩ := HP.out
     rw [← e1, ← e2, ← e3, ← e4, ← e5, ← e6]
     have x1 : ((1 + (a1 + p1) : Nat) : Int) = (t1 : Int) + p1 := by rw [HT.out.1]; omega
     have x2 : ((by' + (a2 + p2) : Nat) : Int) = (t2 : Int) + p2 := by rw [HT.out.2]; omega
     have x3 : ((max a3 p3 : Nat) : Int) = (a3 : Int) := by have := HLE.out; omega
     show Blk _ g 228 [.int .i64 ((1 + (a1 + p1) : Nat) : Int), .int .i64 ((by' + (a2 + p2) : Nat) : Int), .int .i64 ((max a3 p3 : Nat) : Int)]
     rw [x1, x2, x3]
     exact hb
   ·have hle' : (a3 : Int) < p3 := by omega
    have HK9 := H_ (HK8.out.setCell (p := ⟨g, 2, none⟩) (.inl rfl) (.int .i64 p3))
    have HLE := H_ hle
    clear hle
    go_wp2
    go_roundg (n - (i + 1))
    case measure => rw [HGK.out]; omega
    case rel =>
     refine ⟨i + 1, by omega, by go_num, rfl, H_ ⟨HS.out.keep.trans HK9.out (fun k hk e => by have := HS.out.lo; omega), HS.out.lo, HK9.out.blk HS.out.res (fun e => HS.out.ne e.symm), ?_, HS.out.ne⟩⟩
     have hb := HB8.out.set_ 2 (.int .i64 (p3 : Int))
     rw [sums_take HX.out]
     obtain ⟨e1, e2, e3⟩ := HA.out
     obtain ⟨e4, e5, e6⟩ := HP.out
     rw [← e1, ← e2, ← e3, ← e4, ← e5, ← e6]
     have x1 : ((1 + (a1 + p1) : Nat) : Int) = (t1 : Int) + p1 := by rw [HT.out.1]; omega
     have x2 : ((by' + (a2 + p2) : Nat) : Int) = (t2 : Int) + p2 := by rw [HT.out.2]; omega
     have x3 : ((max a3 p3 : Nat) : Int) = (p3 : Int) := by have := HLE.out; omega
     show Blk _ g 228 [.int .i64 ((1 + (a1 + p1) : Nat) : Int), .int .i64 ((by' + (a2 + p2) : Nat) : Int), .int .i64 ((max a3 p3 : Nat) : Int)]
     rw [x1, x2, x3]
     exact hb
  ·obtain rfl : i = n := by omega
   have hbs := HS.out.blk
   rw [List.take_of_length_le (by rw [HLN.out]; exact Nat.le_refl _)] at hbs
   have hsm := HSM.out i
   rw [List.take_of_length_le (by rw [HLN.out]; exact Nat.le_refl _)] at hsm
   obtain ⟨t1, ht1⟩ : ∃ t, t = 1 + (sums L).1 := ⟨_, rfl⟩
   obtain ⟨t2, ht2⟩ : ∃ t, t = by' + (sums L).2.1 := ⟨_, rfl⟩
   obtain ⟨t3, ht3⟩ : ∃ t, t = (sums L).2.2 := ⟨_, rfl⟩
   rw [← ht1, ← ht2, ← ht3] at hbs
   have HT := H_ (And.intro ht1 (And.intro ht2 ht3))
   have r3 : (t3 : Int) ≤ 512 := by omega
   have HB := H_ hbs
   have HS3 := H_ (HS.out)
   have d2 := hbs.cell 2
   have e2 := hbs.frozen 2
   have hb9 := hbs.set_ 2 (.int .i64 ((t3 : Int) + 1))
   have c0 := hb9.cell 0
   have c1 := hb9.cell 1
   have c2 := hb9.cell 2
   have hr9 := HS.out.res.far (p := ⟨g, 2, none⟩) (Ne.symm HS.out.ne) (.int .i64 ((t3 : Int) + 1))
   have f0 := hr9.frozen 0
   have f1 := hr9.frozen 1
   have f2 := hr9.frozen 2
   have HR9 := H_ hr9
   have HB9 := H_ hb9
   have HK9 : Hid (Keeps (fun _ => False) w (wr.setCell ⟨g, 2, none⟩ (.int .i64 ((t3 : Int) + 1)))) := H_ (HS.out.keep.setCell (p := ⟨g, 2, none⟩) (.inr HS.out.lo) _)
   clear hsm ht1 ht2 ht3 hbs hb9 hr9
   clear f0 f1 f2
   go_wp2_with ((with_reducible show wpList _ _ _ (⟨none, Op.store 228 (.tmp 4) _, _, _, _, _⟩ :: _) _ _); refine wpList_store_whole rfl 228 _ _ rfl [.int .i64 t1, .int .i64 t2, .int .i64 ((t3 : Int) + 1)] rfl rfl HR9.out rfl (by kernel_rfl) (by intro u hu; simp only [List.mem_cons, List.not_mem_nil, or_false] at hu; rcases hu with rfl | rfl | rfl <;> rfl) ?_)
   have hres := HR9.out.setRow [.int .i64 t1, .int .i64 t2, .int .i64 ((t3 : Int) + 1)]
   refine bodyPost_ret (results_blk rfl _ _ rfl hres Tryz.underlying228 rfl (by kernel_rfl)) rfl ⟨?_, HK9.out.setRow (.inr (Nat.le_refl _)) _⟩
   obtain ⟨e1, e2, e3⟩ := HT.out
   rw [← e1, ← e2, ← e3]
   rfl
end Go.Proofs.YtplleficmkfniaaGreatDoor
namespace Go.Json
theorem sumN_perm {a b : List Nat} (h : a.Perm b) : sumN a = sumN b := by
 induction h with
 | nil => rfl
 | cons x _ ih => simp [sumN, ih]
 | swap x y l => simp only [sumN]; omega
 | trans _ _ h1 h2 => exact h1.trans h2
theorem maxN_perm {a b : List Nat} (h : a.Perm b) : maxN a = maxN b := by
 induction h with
 | nil => rfl
 | cons x _ ih => simp [maxN, ih]
 | swap x y l => simp only [maxN]; omega
 | trans _ _ h1 h2 => exact h1.trans h2
theorem keys_rise {ks : List ByteArray} (h : ks.Pairwise fun a b => ¬ ltS b a) (hn : ks.Nodup) (hr : ∀ s ∈ ks, rightS s = true) : ks.Pairwise ltS := by
 induction ks with
 | nil => exact .nil
 | cons a ks ih =>
  have h' := List.pairwise_cons.1 h
  rw [List.nodup_cons] at hn
  refine List.pairwise_cons.2 ⟨fun b hb => ?_, ih h'.2 hn.2 fun s hs => hr s (List.mem_cons_of_mem _ hs)⟩
  rcases ltS_tri (hr a List.mem_cons_self) (hr b (List.mem_cons_of_mem _ hb)) with h1 | h1 | h1
  ·exact h1
  ·exact absurd (h1 ▸ hb) hn.1
  ·exact absurd h1 (h'.1 b hb)
theorem rising_map {l : List (ByteArray × JV)} (h : Rising l) : (l.map (·.1)).Pairwise ltS := List.pairwise_map.2 h
section
variable {ks : List ByteArray} {L : List JV}
theorem zip_fst (hl : ks.length = L.length) : (ks.zip L).map (·.1) = ks := List.map_fst_zip (by omega)
theorem zip_snd (hl : ks.length = L.length) : (ks.zip L).map (·.2) = L := List.map_snd_zip (by omega)
theorem sorted_rising (hl : ks.length = L.length) (hn : ks.Nodup) (hr : ∀ s ∈ ks, rightS s = true) : Rising (sortM (ks.zip L)) :=
 sortM_rising _ (by rw [zip_fst hl]; exact hn) fun p hp => hr p.1 (by rw [← zip_fst hl]; exact List.mem_map.2 ⟨p, hp, rfl⟩)
theorem keys_sorted {ks' : List ByteArray} (hl : ks.length = L.length) (hn : ks.Nodup) (hr : ∀ s ∈ ks, rightS s = true) (hp : ks'.Perm ks) (hs : ks'.Pairwise fun a b => ¬ ltS b a) : ks' = (sortM (ks.zip L)).map (·.1) := by
 refine rising_keys (keys_rise hs (hp.nodup_iff.2 hn) fun s h => hr s (hp.mem_iff.1 h)) (rising_map (sorted_rising hl hn hr)) fun x => ?_
 have h2 : ((sortM (ks.zip L)).map (·.1)).Perm ks := by
  have := (sortM_perm (ks.zip L)).map (·.1)
  rwa [zip_fst hl] at this
 rw [hp.mem_iff, h2.mem_iff]
theorem snd_perm (hl : ks.length = L.length) : ((sortM (ks.zip L)).map (·.2)).Perm L := by
 have := (sortM_perm (ks.zip L)).map (·.2)
 rwa [zip_snd hl] at this
theorem fst_perm (hl : ks.length = L.length) : ((sortM (ks.zip L)).map (·.1)).Perm ks := by
 have := (sortM_perm (ks.zip L)).map (·.1)
 rwa [zip_fst hl] at this
end
end Go.Json
namespace Go.Proofs.YtplleficmkfniaaGreatDoor
open Go Go.RowKit Go.Aff Go.Json
theorem sums_perm {a b : List JV} (h : a.Perm b) : sums a = sums b := by
 unfold sums
 rw [sumN_perm (h.map _), sumN_perm (h.map _), maxN_perm (h.map _)]
theorem obj_sizes {ks : List ByteArray} {L : List JV} (hl : ks.length = L.length) : sizeV (mkObj ks L) = [.int .i64 (1 + (sums L).1 : Nat), .int .i64 (sumN (ks.map fun k => k.size) + (sums L).2.1 : Nat), .int .i64 ((sums L).2.2 + 1 : Nat)] := by
 have h1 := sums_perm (snd_perm hl)
 have h2 : sumN (((sortM (ks.zip L)).map (·.1)).map fun k => k.size) = sumN (ks.map fun k => k.size) := sumN_perm ((fst_perm hl).map _)
 rw [← h1, ← h2]
 unfold sizeV
 rw [JV.nodes_eq, JV.bytes_eq, JV.deep_eq]
 rfl
theorem doF_obj_wrong {P : List JV} {s : StepV} (hu : usedF s = true) (hs : s.sort = 6) (hr : s.keys.all rightS = false) : doF P s = .inl 100 := by
 unfold doF
 rw [if_neg (by rw [hu]; decide), if_neg (by omega), if_pos (.inr hr)]
theorem doF_obj {P : List JV} {s : StepV} (hu : usedF s = true) (hs : s.sort = 6) (hr : s.keys.all rightS = true) :
  doF P s = if ¬ s.keys.Nodup then .inl 101 else if P.length < s.keys.length then .inl 102 else if ¬ (mkObj s.keys (P.drop (P.length - s.keys.length))).within then .inl 3
   else .inr (P.take (P.length - s.keys.length) ++ [mkObj s.keys (P.drop (P.length - s.keys.length))]) := by
 obtain ⟨u1, u2, _, _, _, _⟩ := used_parts hu
 have ht := right_empty (u1 (by omega))
 have hc := u2 (by omega)
 have hz : s.count.toNat + s.keys.length = s.keys.length := by rw [hc]; simp
 have hm : ∀ L, mkV s L = mkObj s.keys L := fun L => by simp [mkV, hs]
 unfold doF
 rw [if_neg (by rw [hu]; decide), if_neg (by omega), if_neg (by rw [ht, hr]; simp), hz, hm]
theorem textAt {w : World} {A : Option Addr} {n : Nat} {ks : List ByteArray} (h : Rd w A n (ks.map .string)) {j : Nat} (hj : j < n) : ∃ g o s, A = some ⟨g, o, none⟩ ∧ ks[j]? = some s ∧ w.cell? ⟨g, o + j, none⟩ = some (.string s) := by
 obtain ⟨g, o, e, q⟩ := h.2 (by omega)
 have hl : ks.length = n := by simpa using h.1
 obtain ⟨s, hs⟩ : ∃ s, ks[j]? = some s := ⟨_, List.getElem?_eq_getElem (by omega)⟩
 refine ⟨g, o, s, e, hs, ?_⟩
 rw [q j hj, List.getElem?_map, hs]; rfl
def byF (ks : List ByteArray) : Nat := sumN (ks.map fun k => k.size)
theorem byF_take {ks : List ByteArray} {i : Nat} {s : ByteArray} (h : ks[i]? = some s) : byF (ks.take (i + 1)) = byF (ks.take i) + s.size := by
 unfold byF
 rw [List.take_add_one, h]
 simp [sumN_append, sumN]
theorem byF_le (ks : List ByteArray) (i : Nat) : byF (ks.take i) ≤ byF ks := by
 have : byF ks = byF (ks.take i) + byF (ks.drop i) := by
  unfold byF
  rw [← sumN_append, ← List.map_append, List.take_append_drop]
 omega
theorem size_le {ks : List ByteArray} {s : ByteArray} (h : s ∈ ks) : s.size ≤ byF ks := by
 induction ks with
 | nil => cases h
 | cons a ks ih =>
  have e : byF (a :: ks) = a.size + byF ks := rfl
  rcases List.mem_cons.1 h with rfl | h
  ·omega
  ·have := ih h; omega
end Go.Proofs.YtplleficmkfniaaGreatDoor
namespace Go.Aff
open Go Go.RowKit
structure Kp (F : Nat → Prop) (w w' : World) : Prop where
 keeps : Keeps F w w'
 drawn : w.drawn ≤ w'.drawn
section
variable {F G : Nat → Prop} {w w1 w2 : World}
theorem Kp.refl (F : Nat → Prop) (w : World) : Kp F w w := ⟨Keeps.refl F w, Nat.le_refl _⟩
theorem Kp.trans (h : Kp F w w1) (k : Kp G w1 w2) (hG : ∀ i, i < w.heap.size → G i → F i) : Kp F w w2 := ⟨h.keeps.trans k.keeps hG, Nat.le_trans h.drawn k.drawn⟩
theorem Kp.mono (h : Kp F w w1) (hG : ∀ i, i < w.heap.size → F i → G i) : Kp G w w1 := ⟨h.keeps.mono hG, h.drawn⟩
theorem Kp.drewN (h : Kp F w w1) (n : Nat) : Kp F w (w1.drewN n) := ⟨h.keeps.drewN n, Nat.le_trans h.drawn (Nat.le_add_right _ _)⟩
theorem Kp.drew (h : Kp F w w1) : Kp F w w1.drew := ⟨h.keeps.drew, Nat.le_trans h.drawn (Nat.le_add_right _ 1)⟩
theorem Kp.alloc (h : Kp F w w1) (o : Obj) : Kp F w (w1.alloc o) := ⟨h.keeps.alloc o, h.drawn⟩
theorem Kp.setCell (h : Kp F w w1) {p : Addr} (hp : F p.block ∨ w.heap.size ≤ p.block) (u : Value) : Kp F w (w1.setCell p u) := ⟨h.keeps.setCell hp u, h.drawn⟩
theorem Kp.size (h : Kp F w w1) : w.heap.size ≤ w1.heap.size := h.keeps.size
theorem Kp.blk {g : Nat} {t : TypeId} {cs : List Value} (h : Kp F w w1) (hb : Blk w g t cs) (hn : ¬ F g) : Blk w1 g t cs := h.keeps.blk hb hn
theorem Rd.keepK {A : Option Addr} {n : Nat} {xs : List Value} (h : Rd w A n xs) (hk : Kp F w w1) (ho : Out F A n) : Rd w1 A n xs := h.keep hk.keeps ho
theorem bytesWorld_kp (w : World) (e : TypeId) (s : ByteArray) : Kp (fun _ => False) w (Lib.bytesWorld w e s) :=
 ⟨⟨rfl, rfl, rfl, by rw [Lib.bytesWorld_size]; omega, fun i hi _ => Lib.bytesWorld_at_old w e s i hi⟩, Nat.le_succ _⟩
theorem Kp.grows (h : Kp (fun _ => False) w w1) : ∃ q os, w1 = Go.Sort.grow (w.drewN q) os := by
 refine ⟨w1.drawn - w.drawn, w1.heap.extract w.heap.size w1.heap.size, ?_⟩
 have hs := h.keeps.size
 have hh : w1.heap = w.heap ++ w1.heap.extract w.heap.size w1.heap.size := by
  apply Array.ext_getElem?
  intro i
  rw [Array.getElem?_append]
  by_cases hi : i < w.heap.size
  ·rw [if_pos hi]; exact h.keeps.block i hi (fun h => h)
  ·rw [if_neg hi, Array.getElem?_extract]
   by_cases h2 : i - w.heap.size < min w1.heap.size w1.heap.size - w.heap.size
   ·rw [if_pos h2]; congr 1; omega
   ·rw [if_neg h2]; exact Array.getElem?_eq_none (by omega)
 have hd : w.drawn + (w1.drawn - w.drawn) = w1.drawn := by have := h.drawn; omega
 have e1 := h.keeps.os
 have e2 := h.keeps.tape
 have e3 := h.keeps.output
 cases w1 with
 | mk heap1 tape1 drawn1 os1 output1 =>
 cases w with
 | mk heap tape drawn os output =>
 simp only at hh hd e1 e2 e3
 subst e1 e2 e3
 show World.mk _ _ _ _ _ = World.mk (heap ++ _) _ _ _ _
 congr 1
 exact hd.symm
end
end Go.Aff
namespace Go.Proofs.YtplleficmkfniaaGreatDoor
open Go Go.RowKit Go.Aff Go.Utf
def formV (f : Int × Int × Int) : List Value := [.int .i64 f.1, .int .u8 f.2.1, .int .u8 f.2.2]
theorem form_any (w : World) (c : Int) : Calls Tryz.prog 239 #[.int .u8 c] w fun e w' => e = .returned (.agg (formV (formF c)).toArray) ∧ Kp (fun _ => False) w w' := by
 have hb := Blk.new w 376 [.int .i64 0, .int .u8 0, .int .u8 0]
 have f0 := hb.frozen 0
 have f1 := hb.frozen 1
 have f2 := hb.frozen 2
 have HK := H_ fun vs => (Kp.refl (fun _ => False) w).alloc (.cells vs 376)
 have HR := H_ fun x y z => Blk.new w 376 [.int .i64 x, .int .u8 y, .int .u8 z]
 clear hb
 by_cases h0 : c < 128
 ·have HF : Hid (formF c = (1, 0, 0)) := H_ (by simp [formF, h0])
  go_enter Tryz.func239, Tryz.ntmps239
  go_wp2
  rw [HF.out]
  exact bodyPost_ret (results_blk rfl _ _ rfl (HR.out 1 0 0) Tryz.underlying376 rfl (by kernel_rfl)) rfl ⟨rfl, HK.out _⟩
 ·skip
  by_cases h1 : c < 194
  ·have HF : Hid (formF c = (0, 0, 0)) := H_ (by simp [formF, h0, h1])
   go_enter Tryz.func239, Tryz.ntmps239
   go_wp2
   rw [HF.out]
   exact bodyPost_ret (results_blk rfl _ _ rfl (HR.out 0 0 0) Tryz.underlying376 rfl (by kernel_rfl)) rfl ⟨rfl, HK.out _⟩
  ·skip
   by_cases h2 : c < 224
   ·have HF : Hid (formF c = (2, 128, 191)) := H_ (by simp [formF, h0, h1, h2])
    go_enter Tryz.func239, Tryz.ntmps239
    go_wp2
    rw [HF.out]
    exact bodyPost_ret (results_blk rfl _ _ rfl (HR.out 2 128 191) Tryz.underlying376 rfl (by kernel_rfl)) rfl ⟨rfl, HK.out _⟩
   ·skip
    by_cases h3 : c = 224
    ·subst h3
     have HF : Hid (formF 224 = (3, 160, 191)) := H_ (by decide)
     go_enter Tryz.func239, Tryz.ntmps239
     go_wp2
     rw [HF.out]
     exact bodyPost_ret (results_blk rfl _ _ rfl (HR.out 3 160 191) Tryz.underlying376 rfl (by kernel_rfl)) rfl ⟨rfl, HK.out _⟩
    ·have e3 : (c == 224) = false := by simp [h3]
     by_cases h4 : c = 237
     ·subst h4
      have HF : Hid (formF 237 = (3, 128, 159)) := H_ (by decide)
      go_enter Tryz.func239, Tryz.ntmps239
      go_wp2
      rw [HF.out]
      exact bodyPost_ret (results_blk rfl _ _ rfl (HR.out 3 128 159) Tryz.underlying376 rfl (by kernel_rfl)) rfl ⟨rfl, HK.out _⟩
     ·have e4 : (c == 237) = false := by simp [h4]
      by_cases h5 : c < 240
      ·have HF : Hid (formF c = (3, 128, 191)) := H_ (by simp [formF, h0, h1, h2, h3, h4, h5])
       go_enter Tryz.func239, Tryz.ntmps239
       go_wp2
       rw [HF.out]
       exact bodyPost_ret (results_blk rfl _ _ rfl (HR.out 3 128 191) Tryz.underlying376 rfl (by kernel_rfl)) rfl ⟨rfl, HK.out _⟩
      ·skip
       by_cases h6 : c = 240
       ·subst h6
        have HF : Hid (formF 240 = (4, 144, 191)) := H_ (by decide)
        go_enter Tryz.func239, Tryz.ntmps239
        go_wp2
        rw [HF.out]
        exact bodyPost_ret (results_blk rfl _ _ rfl (HR.out 4 144 191) Tryz.underlying376 rfl (by kernel_rfl)) rfl ⟨rfl, HK.out _⟩
       ·have e6 : (c == 240) = false := by simp [h6]
        by_cases h7 : c < 244
        ·have HF : Hid (formF c = (4, 128, 191)) := H_ (by simp [formF, h0, h1, h2, h3, h4, h5, h6, h7])
         go_enter Tryz.func239, Tryz.ntmps239
         go_wp2
         rw [HF.out]
         exact bodyPost_ret (results_blk rfl _ _ rfl (HR.out 4 128 191) Tryz.underlying376 rfl (by kernel_rfl)) rfl ⟨rfl, HK.out _⟩
        ·skip
         by_cases h8 : c = 244
         ·subst h8
          have HF : Hid (formF 244 = (4, 128, 143)) := H_ (by decide)
          go_enter Tryz.func239, Tryz.ntmps239
          go_wp2
          rw [HF.out]
          exact bodyPost_ret (results_blk rfl _ _ rfl (HR.out 4 128 143) Tryz.underlying376 rfl (by kernel_rfl)) rfl ⟨rfl, HK.out _⟩
         ·have e8 : (c == 244) = false := by simp [h8]
          have HF : Hid (formF c = (0, 0, 0)) := H_ (by simp [formF, h0, h1, h2, h3, h4, h5, h6, h7, h8])
          go_enter Tryz.func239, Tryz.ntmps239
          go_wp2
          rw [HF.out]
          exact bodyPost_ret (results_blk rfl _ _ rfl (HR.out 0 0 0) Tryz.underlying376 rfl (by kernel_rfl)) rfl ⟨rfl, HK.out _⟩
theorem may_any (w : World) (f : Int × Int × Int) (i c : Int) : Calls Tryz.prog 240 #[.agg (formV f).toArray, .int .i64 i, .int .u8 c] w fun e w' => e = .returned (.bool (mayF f i c)) ∧ Kp (fun _ => False) w w' := by
 obtain ⟨n, lo, hi⟩ := f
 have hb := Blk.new w 376 [.int .i64 n, .int .u8 lo, .int .u8 hi]
 have c1 := hb.cell 1
 have c2 := hb.cell 2
 have HK := H_ ((Kp.refl (fun _ => False) w).alloc (.cells #[.int .i64 n, .int .u8 lo, .int .u8 hi] 376))
 clear hb
 show Calls _ _ #[.agg #[.int .i64 n, .int .u8 lo, .int .u8 hi], .int .i64 i, .int .u8 c] w _
 by_cases h0 : i = 1
 ·subst h0
  by_cases h1 : lo ≤ c
  ·have h1d : decide (lo ≤ c) = true := by simp [h1]
   by_cases h2 : c ≤ hi
   ·have h2d : decide (c ≤ hi) = true := by simp [h2]
    have HF : Hid (mayF (n, lo, hi) 1 c = true) := H_ (by simp [mayF, if_true, h1, h2])
    go_enter Tryz.func240, Tryz.ntmps240
    go_wp2
    go_ret
    exact ⟨by rw [HF.out]; rfl, HK.out⟩
   ·have h2d : decide (c ≤ hi) = false := by simp [h2]
    have HF : Hid (mayF (n, lo, hi) 1 c = false) := H_ (by simp [mayF, if_true, h2])
    go_enter Tryz.func240, Tryz.ntmps240
    go_wp2
    go_ret
    exact ⟨by rw [HF.out]; rfl, HK.out⟩
  ·have h1d : decide (lo ≤ c) = false := by simp [h1]
   have HF : Hid (mayF (n, lo, hi) 1 c = false) := H_ (by simp [mayF, if_true, h1])
   go_enter Tryz.func240, Tryz.ntmps240
   go_wp2
   go_ret
   exact ⟨by rw [HF.out]; rfl, HK.out⟩
 ·have e0 : (i == 1) = false := by simp [h0]
  by_cases h1 : 128 ≤ c
  ·have h1d : decide (128 ≤ c) = true := by simp [h1]
   by_cases h2 : c ≤ 191
   ·have h2d : decide (c ≤ 191) = true := by simp [h2]
    have HF : Hid (mayF (n, lo, hi) i c = true) := H_ (by simp [mayF, h0, h1, h2])
    go_enter Tryz.func240, Tryz.ntmps240
    go_wp2
    go_ret
    exact ⟨by rw [HF.out]; rfl, HK.out⟩
   ·have h2d : decide (c ≤ 191) = false := by simp [h2]
    have HF : Hid (mayF (n, lo, hi) i c = false) := H_ (by simp [mayF, h0, h2])
    go_enter Tryz.func240, Tryz.ntmps240
    go_wp2
    go_ret
    exact ⟨by rw [HF.out]; rfl, HK.out⟩
  ·have h1d : decide (128 ≤ c) = false := by simp [h1]
   have HF : Hid (mayF (n, lo, hi) i c = false) := H_ (by simp [mayF, h0, h1])
   go_enter Tryz.func240, Tryz.ntmps240
   go_wp2
   go_ret
   exact ⟨by rw [HF.out]; rfl, HK.out⟩
end Go.Proofs.YtplleficmkfniaaGreatDoor
