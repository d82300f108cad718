/- Texts. -/
import Derived.Test.YtplleficmkfniaaGreatDoorS26
import Derived.Test.YtplleficmkfniaaGreatDoorS27
set_option linter.unusedSimpArgs false
set_option maxRecDepth 100000
set_option maxHeartbeats 4000000
namespace Go.Proofs.YtplleficmkfniaaGreatDoor
open Go Go.RowKit Go.Aff Go.Json Go.Dig Go.Book
attribute [local go_sem] Oper.semAt_some
theorem va_null_null (v : Value) (w : World) : (Instr.typeAssert (.iface 263 v) 261 263 true).run Tryz.prog w = .ok (.tuple #[v, .bool true]) w := by kernel_rfl
theorem va_flag_null (v : Value) (w : World) : (Instr.typeAssert (.iface 265 v) 261 263 true).run Tryz.prog w = .ok (.tuple #[.agg #[], .bool false]) w := by kernel_rfl
theorem va_flag_flag (v : Value) (w : World) : (Instr.typeAssert (.iface 265 v) 261 265 true).run Tryz.prog w = .ok (.tuple #[v, .bool true]) w := by kernel_rfl
theorem va_num_null (v : Value) (w : World) : (Instr.typeAssert (.iface 266 v) 261 263 true).run Tryz.prog w = .ok (.tuple #[.agg #[], .bool false]) w := by kernel_rfl
theorem va_num_flag (v : Value) (w : World) : (Instr.typeAssert (.iface 266 v) 261 265 true).run Tryz.prog w = .ok (.tuple #[.bool false, .bool false]) w := by kernel_rfl
theorem va_num_num (v : Value) (w : World) : (Instr.typeAssert (.iface 266 v) 261 266 true).run Tryz.prog w = .ok (.tuple #[v, .bool true]) w := by kernel_rfl
theorem va_text_null (v : Value) (w : World) : (Instr.typeAssert (.iface 268 v) 261 263 true).run Tryz.prog w = .ok (.tuple #[.agg #[], .bool false]) w := by kernel_rfl
theorem va_text_flag (v : Value) (w : World) : (Instr.typeAssert (.iface 268 v) 261 265 true).run Tryz.prog w = .ok (.tuple #[.bool false, .bool false]) w := by kernel_rfl
theorem va_text_num (v : Value) (w : World) : (Instr.typeAssert (.iface 268 v) 261 266 true).run Tryz.prog w = .ok (.tuple #[.float .f64 0, .bool false]) w := by kernel_rfl
theorem va_text_text (v : Value) (w : World) : (Instr.typeAssert (.iface 268 v) 261 268 true).run Tryz.prog w = .ok (.tuple #[v, .bool true]) w := by kernel_rfl
theorem va_list_null (v : Value) (w : World) : (Instr.typeAssert (.iface 317 v) 261 263 true).run Tryz.prog w = .ok (.tuple #[.agg #[], .bool false]) w := by kernel_rfl
theorem va_list_flag (v : Value) (w : World) : (Instr.typeAssert (.iface 317 v) 261 265 true).run Tryz.prog w = .ok (.tuple #[.bool false, .bool false]) w := by kernel_rfl
theorem va_list_num (v : Value) (w : World) : (Instr.typeAssert (.iface 317 v) 261 266 true).run Tryz.prog w = .ok (.tuple #[.float .f64 0, .bool false]) w := by kernel_rfl
theorem va_list_text (v : Value) (w : World) : (Instr.typeAssert (.iface 317 v) 261 268 true).run Tryz.prog w = .ok (.tuple #[.string ⟨#[]⟩, .bool false]) w := by kernel_rfl
theorem va_obj_null (v : Value) (w : World) : (Instr.typeAssert (.iface 319 v) 261 263 true).run Tryz.prog w = .ok (.tuple #[.agg #[], .bool false]) w := by kernel_rfl
theorem va_obj_flag (v : Value) (w : World) : (Instr.typeAssert (.iface 319 v) 261 265 true).run Tryz.prog w = .ok (.tuple #[.bool false, .bool false]) w := by kernel_rfl
theorem va_obj_num (v : Value) (w : World) : (Instr.typeAssert (.iface 319 v) 261 266 true).run Tryz.prog w = .ok (.tuple #[.float .f64 0, .bool false]) w := by kernel_rfl
theorem va_obj_text (v : Value) (w : World) : (Instr.typeAssert (.iface 319 v) 261 268 true).run Tryz.prog w = .ok (.tuple #[.string ⟨#[]⟩, .bool false]) w := by kernel_rfl
def DOf (fv : Value) (E : Nat → Prop) (w : World) (l : List (List Int)) (j : JV) (e : Ending) (w' : World) : Prop := e = .returned (.agg (vb j.dg).toArray) ∧ ∃ E', Took (TkSt fv) E E' w w' (l ++ j.tx)
theorem parts_none (E : Nat → Prop) (w : World) : RdPartsO E w none [] := ⟨[], Rd.nil _ _, fun h => absurd h (by simp), fun i bs h => by simp at h⟩
theorem of_null {fv : Value} {E : Nat → Prop} {w : World} {l : List (List Int)} (hT : Tkg (TkSt fv) E w l) (hl : l.length ≤ 1099511627776) (T : TypeId) (y : Value)
  (hv : ∀ W, Keeps (fun _ => False) w W → Calls Tryz.prog 137 #[.agg #[.iface T y]] W fun e w' => e = .returned (.iface 263 (.agg #[])) ∧ Keeps (fun _ => False) W w') :
  Calls Tryz.prog 67 #[fv, .agg #[.iface T y]] w (DOf fv E w l (JV.null)) := by
 unfold DOf
 rw [JV.dg, JV.tx]
 obtain ⟨X, hX⟩ : ∃ X : List Int, X = [110] := ⟨_, rfl⟩
 rw [← hX]
 obtain ⟨N, hN⟩ : ∃ N, N = w.heap.size := ⟨_, rfl⟩
 have HW0 : Hid (Keeps (fun _ => False) w ((w.alloc (.cells #[.iface T y] 95)).alloc (.cells (List.replicate 32 (Value.int .u8 0)).toArray 23)) ∧ Blk ((w.alloc (.cells #[.iface T y] 95)).alloc (.cells (List.replicate 32 (Value.int .u8 0)).toArray 23)) N 95 [.iface T y] ∧ Blk ((w.alloc (.cells #[.iface T y] 95)).alloc (.cells (List.replicate 32 (Value.int .u8 0)).toArray 23)) (N + 1) 23 (List.replicate 32 (Value.int .u8 0))) := H_ ⟨((Keeps.refl _ w).alloc _).alloc _, by rw [hN]; exact (Blk.new _ _ _).alloc _, by
  have h := Blk.new (w.alloc (.cells #[.iface T y] 95)) 23 (List.replicate 32 (Value.int .u8 0))
  rwa [World.size_alloc, ← hN] at h⟩
 obtain ⟨DV, hDV⟩ : ∃ DV, DV = vb (hsh X) := ⟨_, rfl⟩
 have HD1 : Hid (∀ u ∈ DV, u.oneCell' = true) := H_ (by rw [hDV]; exact vb_one _)
 have HDL : Hid (DV.length = 32) := H_ (by rw [hDV, vb_length]; exact hsh_len _)
 have HIN : Hid ((Tryz.prog.info? 23).map (·.size) = some DV.length) := H_ (infoDg DV HDL.out)
 have HVA := H_ hv
 have HTT := H_ hT
 have HHA : Hid (∀ W, Keeps (fun _ => False) w W → Calls Tryz.prog 138 #[fv, .int .u8 110, .slice none 0 0] W fun e w' => e = .returned (.agg DV.toArray) ∧ ∃ E', Took (TkSt fv) E E' W w' (l ++ [X])) := H_ fun W hW => by
  have h := hash_any (hT.stay (tkLasts _) hW) hl 110 (by omega) none 0 [] (parts_none E W) 0 rfl (by omega) 0 rfl (by omega)
  rw [hX, hDV, hX]
  exact h
 rw [← hDV]
 have HNN := H_ hN
 have HNE : Hid (¬ E (N + 1)) := H_ fun he => by have := hT.lt _ he; omega
 clear hT hv hX hDV hN
 have a0 := va_null_null
 go_enter Tryz.func67, Tryz.ntmps67
 go_upto_region 1 with fail
 refine gen_codeF (fun W => Keeps (fun _ => False) w W ∧ Blk W N 95 [.iface T y] ∧ Blk W (N + 1) 23 (List.replicate 32 (Value.int .u8 0))) HW0.out ?_
 rintro w1 ⟨k1, b1, z1⟩
 have hNN := HNN.out
 rw [← hNN]
 clear hNN
 have c0 := b1.cell 0
 have HK1 := H_ k1
 have HZ1 := H_ z1
 clear k1 b1 z1
 go_wp2_with (first
  | (go_at_call 137; refine (HVA.out _ HK1.out).mono ?_; rintro e w2 ⟨rfl, hk2⟩; have HK2 := H_ (HK1.out.trans hk2 fun _ _ h => h); have HZ2 := H_ (hk2.blk HZ1.out fun h => h); clear hk2)
  | (go_at_call 138; refine (HHA.out _ (HK2.out.alloc _)).mono ?_; rintro e w7 ⟨rfl, E7, hT7⟩; have HT7 := H_ hT7; have HK7 := H_ (HK2.out.alloc (.cells #[] 263)); have HZ6 := H_ (HZ2.out.alloc (.cells #[] 263)); have HZ7 := H_ (hT7.keep.blk HZ6.out HNE.out); clear hT7)
  | ((with_reducible show wpList _ _ _ (⟨none, Op.store 23 _ _, _, _, _, _⟩ :: _) _ _); refine wpList_store_whole rfl 23 _ _ rfl DV rfl rfl HZ7.out (by rw [HDL.out]; simp) HIN.out HD1.out ?_))
 refine bodyPost_ret (results_blk rfl _ _ rfl (HZ7.out.setRow DV) Tryz.underlying23 rfl HIN.out) rfl ⟨rfl, E7, ?_⟩
 refine (Took.begin HK7.out HT7.out).more (tkLasts _) (setRow_keep _ _ _) fun i hi => ?_
 subst hi
 refine ⟨by have := HNN.out; omega, fun he => ?_⟩
 rcases HT7.out.new _ he with h1 | h1
 ·exact HNE.out h1
 ·exact absurd h1 (Nat.not_le.2 (HZ6.out.lt))
theorem of_flag {fv : Value} {E : Nat → Prop} {w : World} {l : List (List Int)} (hT : Tkg (TkSt fv) E w l) (hl : l.length ≤ 1099511627776) (b : Bool) (T : TypeId) (y : Value)
  (hv : ∀ W, Keeps (fun _ => False) w W → Calls Tryz.prog 137 #[.agg #[.iface T y]] W fun e w' => e = .returned (.iface 265 (.bool b)) ∧ Keeps (fun _ => False) W w') :
  Calls Tryz.prog 67 #[fv, .agg #[.iface T y]] w (DOf fv E w l (JV.flag b)) := by
 unfold DOf
 rw [JV.dg, JV.tx]
 obtain ⟨X, hX⟩ : ∃ X : List Int, X = [if b then 116 else 102] := ⟨_, rfl⟩
 rw [← hX]
 obtain ⟨N, hN⟩ : ∃ N, N = w.heap.size := ⟨_, rfl⟩
 have HW0 : Hid (Keeps (fun _ => False) w ((w.alloc (.cells #[.iface T y] 95)).alloc (.cells (List.replicate 32 (Value.int .u8 0)).toArray 23)) ∧ Blk ((w.alloc (.cells #[.iface T y] 95)).alloc (.cells (List.replicate 32 (Value.int .u8 0)).toArray 23)) N 95 [.iface T y] ∧ Blk ((w.alloc (.cells #[.iface T y] 95)).alloc (.cells (List.replicate 32 (Value.int .u8 0)).toArray 23)) (N + 1) 23 (List.replicate 32 (Value.int .u8 0))) := H_ ⟨((Keeps.refl _ w).alloc _).alloc _, by rw [hN]; exact (Blk.new _ _ _).alloc _, by
  have h := Blk.new (w.alloc (.cells #[.iface T y] 95)) 23 (List.replicate 32 (Value.int .u8 0))
  rwa [World.size_alloc, ← hN] at h⟩
 obtain ⟨DV, hDV⟩ : ∃ DV, DV = vb (hsh X) := ⟨_, rfl⟩
 have HD1 : Hid (∀ u ∈ DV, u.oneCell' = true) := H_ (by rw [hDV]; exact vb_one _)
 have HDL : Hid (DV.length = 32) := H_ (by rw [hDV, vb_length]; exact hsh_len _)
 have HIN : Hid ((Tryz.prog.info? 23).map (·.size) = some DV.length) := H_ (infoDg DV HDL.out)
 have HVA := H_ hv
 have HTT := H_ hT
 have HHA : Hid (∀ W, Keeps (fun _ => False) w W → Calls Tryz.prog 138 #[fv, .int .u8 (if b then 116 else 102), .slice none 0 0] W fun e w' => e = .returned (.agg DV.toArray) ∧ ∃ E', Took (TkSt fv) E E' W w' (l ++ [X])) := H_ fun W hW => by
  have h := hash_any (hT.stay (tkLasts _) hW) hl (if b then 116 else 102) (by split <;> omega) none 0 [] (parts_none E W) 0 rfl (by omega) 0 rfl (by omega)
  rw [hX, hDV, hX]
  exact h
 rw [← hDV]
 have HNN := H_ hN
 have HNE : Hid (¬ E (N + 1)) := H_ fun he => by have := hT.lt _ he; omega
 clear hT hv hX hDV hN
 have a0 := va_flag_null
 have a1 := va_flag_flag
 cases b
 ·go_enter Tryz.func67, Tryz.ntmps67
  go_upto_region 1 with fail
  refine gen_codeF (fun W => Keeps (fun _ => False) w W ∧ Blk W N 95 [.iface T y] ∧ Blk W (N + 1) 23 (List.replicate 32 (Value.int .u8 0))) HW0.out ?_
  rintro w1 ⟨k1, b1, z1⟩
  have hNN := HNN.out
  rw [← hNN]
  clear hNN
  have c0 := b1.cell 0
  have HK1 := H_ k1
  have HZ1 := H_ z1
  clear k1 b1 z1
  go_wp2_with (first
   | (go_at_call 137; refine (HVA.out _ HK1.out).mono ?_; rintro e w2 ⟨rfl, hk2⟩; have HK2 := H_ (HK1.out.trans hk2 fun _ _ h => h); have HZ2 := H_ (hk2.blk HZ1.out fun h => h); clear hk2)
   | (go_at_call 138; refine (HHA.out _ HK2.out).mono ?_; rintro e w7 ⟨rfl, E7, hT7⟩; have HT7 := H_ hT7; have HK7 := H_ HK2.out; have HZ6 := H_ HZ2.out; have HZ7 := H_ (hT7.keep.blk HZ6.out HNE.out); clear hT7)
   | ((with_reducible show wpList _ _ _ (⟨none, Op.store 23 _ _, _, _, _, _⟩ :: _) _ _); refine wpList_store_whole rfl 23 _ _ rfl DV rfl rfl HZ7.out (by rw [HDL.out]; simp) HIN.out HD1.out ?_))
  refine bodyPost_ret (results_blk rfl _ _ rfl (HZ7.out.setRow DV) Tryz.underlying23 rfl HIN.out) rfl ⟨rfl, E7, ?_⟩
  refine (Took.begin HK7.out HT7.out).more (tkLasts _) (setRow_keep _ _ _) fun i hi => ?_
  subst hi
  refine ⟨by have := HNN.out; omega, fun he => ?_⟩
  rcases HT7.out.new _ he with h1 | h1
  ·exact HNE.out h1
  ·exact absurd h1 (Nat.not_le.2 (HZ6.out.lt))
 ·go_enter Tryz.func67, Tryz.ntmps67
  go_upto_region 1 with fail
  refine gen_codeF (fun W => Keeps (fun _ => False) w W ∧ Blk W N 95 [.iface T y] ∧ Blk W (N + 1) 23 (List.replicate 32 (Value.int .u8 0))) HW0.out ?_
  rintro w1 ⟨k1, b1, z1⟩
  have hNN := HNN.out
  rw [← hNN]
  clear hNN
  have c0 := b1.cell 0
  have HK1 := H_ k1
  have HZ1 := H_ z1
  clear k1 b1 z1
  go_wp2_with (first
   | (go_at_call 137; refine (HVA.out _ HK1.out).mono ?_; rintro e w2 ⟨rfl, hk2⟩; have HK2 := H_ (HK1.out.trans hk2 fun _ _ h => h); have HZ2 := H_ (hk2.blk HZ1.out fun h => h); clear hk2)
   | (go_at_call 138; refine (HHA.out _ HK2.out).mono ?_; rintro e w7 ⟨rfl, E7, hT7⟩; have HT7 := H_ hT7; have HK7 := H_ HK2.out; have HZ6 := H_ HZ2.out; have HZ7 := H_ (hT7.keep.blk HZ6.out HNE.out); clear hT7)
   | ((with_reducible show wpList _ _ _ (⟨none, Op.store 23 _ _, _, _, _, _⟩ :: _) _ _); refine wpList_store_whole rfl 23 _ _ rfl DV rfl rfl HZ7.out (by rw [HDL.out]; simp) HIN.out HD1.out ?_))
  refine bodyPost_ret (results_blk rfl _ _ rfl (HZ7.out.setRow DV) Tryz.underlying23 rfl HIN.out) rfl ⟨rfl, E7, ?_⟩
  refine (Took.begin HK7.out HT7.out).more (tkLasts _) (setRow_keep _ _ _) fun i hi => ?_
  subst hi
  refine ⟨by have := HNN.out; omega, fun he => ?_⟩
  rcases HT7.out.new _ he with h1 | h1
  ·exact HNE.out h1
  ·exact absurd h1 (Nat.not_le.2 (HZ6.out.lt))
theorem of_num {fv : Value} {E : Nat → Prop} {w : World} {l : List (List Int)} (hT : Tkg (TkSt fv) E w l) (hl : l.length ≤ 1099511627776) (b : Nat) (hb : b < 18446744073709551616) (T : TypeId) (y : Value)
  (hv : ∀ W, Keeps (fun _ => False) w W → Calls Tryz.prog 137 #[.agg #[.iface T y]] W fun e w' => e = .returned (.iface 266 (.float .f64 b)) ∧ Keeps (fun _ => False) W w') :
  Calls Tryz.prog 67 #[fv, .agg #[.iface T y]] w (DOf fv E w l (JV.num b)) := by
 unfold DOf
 rw [JV.dg, JV.tx]
 obtain ⟨X, hX⟩ : ∃ X : List Int, X = 100 :: eight b := ⟨_, rfl⟩
 rw [← hX]
 obtain ⟨N, hN⟩ : ∃ N, N = w.heap.size := ⟨_, rfl⟩
 have HW0 : Hid (Keeps (fun _ => False) w ((w.alloc (.cells #[.iface T y] 95)).alloc (.cells (List.replicate 32 (Value.int .u8 0)).toArray 23)) ∧ Blk ((w.alloc (.cells #[.iface T y] 95)).alloc (.cells (List.replicate 32 (Value.int .u8 0)).toArray 23)) N 95 [.iface T y] ∧ Blk ((w.alloc (.cells #[.iface T y] 95)).alloc (.cells (List.replicate 32 (Value.int .u8 0)).toArray 23)) (N + 1) 23 (List.replicate 32 (Value.int .u8 0))) := H_ ⟨((Keeps.refl _ w).alloc _).alloc _, by rw [hN]; exact (Blk.new _ _ _).alloc _, by
  have h := Blk.new (w.alloc (.cells #[.iface T y] 95)) 23 (List.replicate 32 (Value.int .u8 0))
  rwa [World.size_alloc, ← hN] at h⟩
 obtain ⟨DV, hDV⟩ : ∃ DV, DV = vb (hsh X) := ⟨_, rfl⟩
 have HD1 : Hid (∀ u ∈ DV, u.oneCell' = true) := H_ (by rw [hDV]; exact vb_one _)
 have HDL : Hid (DV.length = 32) := H_ (by rw [hDV, vb_length]; exact hsh_len _)
 have HIN : Hid ((Tryz.prog.info? 23).map (·.size) = some DV.length) := H_ (infoDg DV HDL.out)
 have HVA := H_ hv
 have HTT := H_ hT
 have HEI : Hid (∀ W, Calls Tryz.prog 139 #[.int .u64 b] W fun e w' => e = .returned (.slice (some ⟨W.heap.size, 0, none⟩) 8 8) ∧ Hid (Blk w' W.heap.size 322 (vb (eight b)) ∧ Keeps (fun _ => False) W w')) := H_ fun W => (eight_any b W hb).mono fun e w' h => ⟨h.1, H_ h.2⟩
 have HHA : Hid (∀ W g, Keeps (fun _ => False) w W → Blk W g 322 (vb (eight b)) → w.heap.size ≤ g → Calls Tryz.prog 138 #[fv, .int .u8 100, .slice (some ⟨W.heap.size, 0, none⟩) 1 1] (W.alloc (.cells #[.slice (some ⟨g, 0, none⟩) 8 8] 48)) fun e w' => e = .returned (.agg DV.toArray) ∧ ∃ E', Took (TkSt fv) E E' (W.alloc (.cells #[.slice (some ⟨g, 0, none⟩) 8 8] 48)) w' (l ++ [X])) := H_ fun W g hW hbk hg => by
  have hp := parts_one E W 48 (some ⟨g, 0, none⟩) 8 8 (eight b) (fun i hi => Nat.lt_of_lt_of_le (hT.lt i hi) hW.size) (eight_len b) (Rd.of_blk hbk (by simp [vb, eight_len])) (fun _ a e he => by injection e with e; subst e; have h1 : g < w.heap.size := hT.lt _ he; omega) (eight_bytes b) (by omega) (by omega)
  have h := hash_any (hT.stay (tkLasts _) (hW.alloc (.cells #[.slice (some ⟨g, 0, none⟩) 8 8] 48))) hl 100 (by omega) (some ⟨W.heap.size, 0, none⟩) 1 [eight b] hp 1 rfl (by omega) 8 (by simp [eight_len]) (by omega)
  have hf : (100 : Int) :: [eight b].flatten = X := by rw [hX]; simp
  rw [hf, ← hDV] at h
  exact h
 have hbo := bitsof b
 rw [← hDV]
 have HNN := H_ hN
 have HNE : Hid (¬ E (N + 1)) := H_ fun he => by have := hT.lt _ he; omega
 clear hT hv hX hDV hN
 have a0 := va_num_null
 have a1 := va_num_flag
 have a2 := va_num_num
 go_enter Tryz.func67, Tryz.ntmps67
 go_upto_region 1 with fail
 refine gen_codeF (fun W => Keeps (fun _ => False) w W ∧ Blk W N 95 [.iface T y] ∧ Blk W (N + 1) 23 (List.replicate 32 (Value.int .u8 0))) HW0.out ?_
 rintro w1 ⟨k1, b1, z1⟩
 have hNN := HNN.out
 rw [← hNN]
 clear hNN
 have c0 := b1.cell 0
 have HK1 := H_ k1
 have HZ1 := H_ z1
 clear k1 b1 z1
 go_wp2_with (first
  | (go_at_call 137; refine (HVA.out _ HK1.out).mono ?_; rintro e w2 ⟨rfl, hk2⟩; have HK2 := H_ (HK1.out.trans hk2 fun _ _ h => h); have HZ2 := H_ (hk2.blk HZ1.out fun h => h); clear hk2)
  | (go_at_call 139; refine (HEI.out _).mono ?_; rintro e w5 ⟨rfl, HE5⟩; have HK5 := H_ (HK2.out.trans HE5.out.2 fun _ _ h => h); have HZ5 := H_ (HE5.out.2.blk HZ2.out fun h => h))
  | (go_at_call 138; refine (HHA.out w5 w2.heap.size HK5.out HE5.out.1 HK2.out.size).mono ?_; rintro e w7 ⟨rfl, E7, hT7⟩; have HT7 := H_ hT7; have HK7 := H_ (HK5.out.alloc (.cells #[.slice (some ⟨w2.heap.size, 0, none⟩) 8 8] 48)); have HZ6 := H_ (HZ5.out.alloc (.cells #[.slice (some ⟨w2.heap.size, 0, none⟩) 8 8] 48)); have HZ7 := H_ (hT7.keep.blk HZ6.out HNE.out); clear hT7)
  | ((with_reducible show wpList _ _ _ (⟨none, Op.store 23 _ _, _, _, _, _⟩ :: _) _ _); refine wpList_store_whole rfl 23 _ _ rfl DV rfl rfl HZ7.out (by rw [HDL.out]; simp) HIN.out HD1.out ?_))
 refine bodyPost_ret (results_blk rfl _ _ rfl (HZ7.out.setRow DV) Tryz.underlying23 rfl HIN.out) rfl ⟨rfl, E7, ?_⟩
 refine (Took.begin HK7.out HT7.out).more (tkLasts _) (setRow_keep _ _ _) fun i hi => ?_
 subst hi
 refine ⟨by have := HNN.out; omega, fun he => ?_⟩
 rcases HT7.out.new _ he with h1 | h1
 ·exact HNE.out h1
 ·exact absurd h1 (Nat.not_le.2 (HZ6.out.lt))
theorem of_text {fv : Value} {E : Nat → Prop} {w : World} {l : List (List Int)} (hT : Tkg (TkSt fv) E w l) (hl : l.length ≤ 1099511627776) (s : ByteArray) (hs : s.size ≤ 1099511627000) (T : TypeId) (y : Value)
  (hv : ∀ W, Keeps (fun _ => False) w W → Calls Tryz.prog 137 #[.agg #[.iface T y]] W fun e w' => e = .returned (.iface 268 (.string s)) ∧ Keeps (fun _ => False) W w') :
  Calls Tryz.prog 67 #[fv, .agg #[.iface T y]] w (DOf fv E w l (JV.text s)) := by
 unfold DOf
 rw [JV.dg, JV.tx]
 obtain ⟨X, hX⟩ : ∃ X : List Int, X = 115 :: sb s := ⟨_, rfl⟩
 rw [← hX]
 obtain ⟨N, hN⟩ : ∃ N, N = w.heap.size := ⟨_, rfl⟩
 have HW0 : Hid (Keeps (fun _ => False) w ((w.alloc (.cells #[.iface T y] 95)).alloc (.cells (List.replicate 32 (Value.int .u8 0)).toArray 23)) ∧ Blk ((w.alloc (.cells #[.iface T y] 95)).alloc (.cells (List.replicate 32 (Value.int .u8 0)).toArray 23)) N 95 [.iface T y] ∧ Blk ((w.alloc (.cells #[.iface T y] 95)).alloc (.cells (List.replicate 32 (Value.int .u8 0)).toArray 23)) (N + 1) 23 (List.replicate 32 (Value.int .u8 0))) := H_ ⟨((Keeps.refl _ w).alloc _).alloc _, by rw [hN]; exact (Blk.new _ _ _).alloc _, by
  have h := Blk.new (w.alloc (.cells #[.iface T y] 95)) 23 (List.replicate 32 (Value.int .u8 0))
  rwa [World.size_alloc, ← hN] at h⟩
 obtain ⟨DV, hDV⟩ : ∃ DV, DV = vb (hsh X) := ⟨_, rfl⟩
 have HD1 : Hid (∀ u ∈ DV, u.oneCell' = true) := H_ (by rw [hDV]; exact vb_one _)
 have HDL : Hid (DV.length = 32) := H_ (by rw [hDV, vb_length]; exact hsh_len _)
 have HIN : Hid ((Tryz.prog.info? 23).map (·.size) = some DV.length) := H_ (infoDg DV HDL.out)
 have HVA := H_ hv
 have HTT := H_ hT
 have hcv : ∀ W, (convert 268 48 (.string s)).run Tryz.prog W = .ok (.slice (some ⟨W.heap.size, 0, none⟩) s.size (grownCap W s.size 0 5)) (Lib.bytesWorld W 5 s) := fun W => Lib.run_convert_string_bytes W _ _ 5 s Tryz.underlying268 Tryz.underlying48 Tryz.underlying5
 have HHA : Hid (∀ V c, Keeps (fun _ => False) w V → s.size ≤ c → Calls Tryz.prog 138 #[fv, .int .u8 115, .slice (some ⟨(Lib.bytesWorld V 5 s).heap.size, 0, none⟩) 1 1] ((Lib.bytesWorld V 5 s).alloc (.cells #[.slice (some ⟨V.heap.size, 0, none⟩) s.size c] 48)) fun e w' => e = .returned (.agg DV.toArray) ∧ ∃ E', Took (TkSt fv) E E' ((Lib.bytesWorld V 5 s).alloc (.cells #[.slice (some ⟨V.heap.size, 0, none⟩) s.size c] 48)) w' (l ++ [X])) := H_ fun V c hV hc => by
  have hW := hV.trans (bytesW_keep V 5 s) fun _ _ h => h
  have hp := parts_one E (Lib.bytesWorld V 5 s) 48 (some ⟨V.heap.size, 0, none⟩) s.size c (sb s) (fun i hi => Nat.lt_of_lt_of_le (hT.lt i hi) hW.size) (sb_len s) (bytesW_rd V 5 s) (fun _ a e he => by injection e with e; subst e; have h1 : V.heap.size < w.heap.size := hT.lt _ he; have := hV.size; omega) (sb_bytes s) hc (by omega)
  have h := hash_any (hT.stay (tkLasts _) (hW.alloc (.cells #[.slice (some ⟨V.heap.size, 0, none⟩) s.size c] 48))) hl 115 (by omega) (some ⟨(Lib.bytesWorld V 5 s).heap.size, 0, none⟩) 1 [sb s] hp 1 rfl (by omega) s.size (by simp [sb_len]) (by omega)
  have hf : (115 : Int) :: [sb s].flatten = X := by rw [hX]; simp
  rw [hf, ← hDV] at h
  exact h
 have HGC := H_ fun W => grownCap_ge W s.size 0 5
 rw [← hDV]
 have HNN := H_ hN
 have HNE : Hid (¬ E (N + 1)) := H_ fun he => by have := hT.lt _ he; omega
 clear hT hv hX hDV hN
 have a0 := va_text_null
 have a1 := va_text_flag
 have a2 := va_text_num
 have a3 := va_text_text
 go_enter Tryz.func67, Tryz.ntmps67
 go_upto_region 1 with fail
 refine gen_codeF (fun W => Keeps (fun _ => False) w W ∧ Blk W N 95 [.iface T y] ∧ Blk W (N + 1) 23 (List.replicate 32 (Value.int .u8 0))) HW0.out ?_
 rintro w1 ⟨k1, b1, z1⟩
 have hNN := HNN.out
 rw [← hNN]
 clear hNN
 have c0 := b1.cell 0
 have HK1 := H_ k1
 have HZ1 := H_ z1
 clear k1 b1 z1
 go_wp2_with (first
  | (go_at_call 137; refine (HVA.out _ HK1.out).mono ?_; rintro e w2 ⟨rfl, hk2⟩; have HK2 := H_ (HK1.out.trans hk2 fun _ _ h => h); have HZ2 := H_ (hk2.blk HZ1.out fun h => h); clear hk2)
  | (go_at_call 138; refine (HHA.out w2 _ HK2.out (HGC.out _)).mono ?_; rintro e w7 ⟨rfl, E7, hT7⟩; have HT7 := H_ hT7; have HK7 := H_ ((HK2.out.trans (bytesW_keep w2 5 s) fun _ _ h => h).alloc (.cells #[.slice (some ⟨w2.heap.size, 0, none⟩) s.size (grownCap w2 s.size 0 5)] 48)); have HZ6 := H_ (((bytesW_keep w2 5 s).blk HZ2.out fun h => h).alloc (.cells #[.slice (some ⟨w2.heap.size, 0, none⟩) s.size (grownCap w2 s.size 0 5)] 48)); have HZ7 := H_ (hT7.keep.blk HZ6.out HNE.out); clear hT7)
  | ((with_reducible show wpList _ _ _ (⟨none, Op.store 23 _ _, _, _, _, _⟩ :: _) _ _); refine wpList_store_whole rfl 23 _ _ rfl DV rfl rfl HZ7.out (by rw [HDL.out]; simp) HIN.out HD1.out ?_))
 refine bodyPost_ret (results_blk rfl _ _ rfl (HZ7.out.setRow DV) Tryz.underlying23 rfl HIN.out) rfl ⟨rfl, E7, ?_⟩
 refine (Took.begin HK7.out HT7.out).more (tkLasts _) (setRow_keep _ _ _) fun i hi => ?_
 subst hi
 refine ⟨by have := HNN.out; omega, fun he => ?_⟩
 rcases HT7.out.new _ he with h1 | h1
 ·exact HNE.out h1
 ·exact absurd h1 (Nat.not_le.2 (HZ6.out.lt))
end Go.Proofs.YtplleficmkfniaaGreatDoor
namespace Go.Dig
open Go Go.Sha Go.Aff Go.Json Go.Book Go.Mac
def manyN (n i : Nat) : Nat := if _h : 2 ≤ n then 1 + (if i < spl n then manyN (spl n) i else manyN (n - spl n) (i - spl n)) else 0
termination_by n
decreasing_by
 ·exact spl_lt _h
 ·have := spl_pos n; omega
structure LevelV where
 sort : Int
 count : Int
 at_ : Int
 sides : List (List Int)
end Go.Dig
namespace Go.Mac
end Go.Mac
namespace Go.Json
open Go.Mac
def idxF (t : ByteArray) (n : Nat) : Option Nat := (List.range n).find? fun i => decide (sb t = lenF i)
def keyI (ks : List ByteArray) (t : ByteArray) : Option Nat := (List.range ks.length).find? fun i => decide (ks[i]? = some t)
def JV.onI (v : JV) (t : ByteArray) : Option Nat :=
 match v with
 | .list l => idxF t l.length
 | .obj ks _ => keyI ks t
 | _ => none
def JV.on (v : JV) (t : ByteArray) : Option JV := (v.onI t).bind fun i => v.items[i]?
end Go.Json
namespace Go.Dig
open Go Go.Sha Go.Aff Go.Json Go.Book Go.Mac
def StandsD (x : LevelV) (t : ByteArray) : Prop := (x.sort = 5 ∨ x.sort = 6) ∧ 1 ≤ x.count ∧ x.count ≤ 65536 ∧ 0 ≤ x.at_ ∧ x.at_ < x.count ∧ x.sides.length = manyN x.count.toNat x.at_.toNat ∧ (x.sort = 5 → idxF t x.count.toNat = some x.at_.toNat)
instance (x : LevelV) (t : ByteArray) : Decidable (StandsD x t) := inferInstanceAs (Decidable (_ ∧ _))
inductive Rise : JV → Prop
 | mk (j : JV) (hp : j.keys.Pairwise ltS) (h : ∀ x, x ∈ j.items → Rise x) : Rise j
theorem Rise.keys {j : JV} (h : Rise j) : j.keys.Pairwise ltS := by cases h with | mk _ hp _ => exact hp
theorem Rise.item {j x : JV} (h : Rise j) (hx : x ∈ j.items) : Rise x := by cases h with | mk _ _ h => exact h x hx
end Go.Dig
