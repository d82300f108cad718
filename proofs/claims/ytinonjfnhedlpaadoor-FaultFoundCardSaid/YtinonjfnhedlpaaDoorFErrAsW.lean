/-
  WALKS: errors.As, at the five targets.
-/
import Derived.Test.YtinonjfnhedlpaaDoorFAs1W
import Derived.Test.YtinonjfnhedlpaaDoorFAs2W
import Derived.Test.YtinonjfnhedlpaaDoorFAs3W
set_option linter.unusedSimpArgs false
namespace Go.Proofs.YtinonjfnhedlpaaDoor
open Go Go.RowKit Go.Extern.Stop Go.Stop Go.Extern Go.Aff Go.Fault
/-- What the listed variable holds. -/
def GlobE (w : World) : Prop := w.cell? ⟨0, 0, none⟩ = some (.iface 113 (.agg #[.pointer (some ⟨1, 24, none⟩)]))
theorem AsPost.ending {w w' : World} {tgt : Nat} {T : TypeId} {o : Option VT} {e : Ending} (h : AsPost w tgt T o e w') : e = .returned (.bool o.isSome) := by
  cases o with
  | none => exact h.1
  | some x => exact h.1
theorem GlobE.keep {w w' : World} (h : GlobE w) (k : Keeps (fun _ => False) w w') : GlobE w' := cell_keep k h
set_option maxHeartbeats 4000000 in
set_option maxRecDepth 100000 in
theorem errAs_num (w : World) (D : Nat → Prop) (t : VT) (tgt : Nat) (zs : List Value) (hg : GlobE w) (hat : At D w t) (htg : Blk w tgt 33 zs) (hzl : zs.length = 1) :
    Calls Tryd.prog 11 #[vv t, .iface 47 (.pointer (some ⟨tgt, 0, none⟩))] w (AsPost w tgt 33 (firstT (fun x => asP 2 (kindF x)) t)) := by
  cases hni : t.isNil with
  | true =>
    obtain rfl : t = .nil := by cases t <;> simp [VT.isNil] at hni ⊢
    have HP : Hid (firstT (fun x => asP 2 (kindF x)) .nil = none) := Lib.hid (firstT_nil _ rfl)
    obtain ⟨o, ho⟩ : ∃ o, o = firstT (fun x => asP 2 (kindF x)) .nil := ⟨_, rfl⟩
    rw [← ho] at HP ⊢
    clear hat htg hzl hg ho
    simp only [vv]
    go_enter Tryd.func11, Tryd.ntmps11
    go_wp2
    go_ret
    rw [HP.out]
    exact ⟨rfl, Keeps.refl _ _⟩
  | false =>
    obtain ⟨o, ho⟩ : ∃ o, o = firstT (fun x => asP 2 (kindF x)) t := ⟨_, rfl⟩
    obtain ⟨T0, xv, hx0⟩ := vv_iface hni
    obtain ⟨w2, hw2⟩ : ∃ w2, w2 = (w.alloc (.cells #[.pointer (some ⟨tgt, 0, none⟩)] 47)).alloc (.cells #[.pointer (some ⟨1, 47, none⟩), .pointer (some ⟨w.heap.size, 0, none⟩), .int .u64 150] 85) := ⟨_, rfl⟩
    have k2 : Keeps (fun _ => False) w w2 := by rw [hw2]; exact ((Keeps.refl _ w).alloc _).alloc _
    have hvb : Blk w2 w.heap.size 47 [.pointer (some ⟨tgt, 0, none⟩)] := by rw [hw2]; exact (Blk.new w _ _).alloc _
    have HAS : Hid (Calls Tryd.prog 26 #[.iface T0 xv, .iface 47 (.pointer (some ⟨tgt, 0, none⟩)), .agg #[.pointer (some ⟨1, 47, none⟩), .pointer (some ⟨w.heap.size, 0, none⟩), .int .u64 150], .iface 113 (.agg #[.pointer (some ⟨1, 33, none⟩)])] w2 (AsPost w2 tgt 33 o)) := Lib.hid (by
      rw [← hx0, ho]
      exact as_rec_num tgt w.heap.size _ t w2 D zs (Nat.le_refl _) hni (hat.keep k2 (fun _ _ h => h)) hvb (k2.blk htg (fun h => h)) hzl)
    have HK2 := Lib.hid k2
    have hg2 := hg.keep k2
    unfold GlobE at hg2
    have n8 := rf_isNil_num ⟨w.heap.size, 0, none⟩ ⟨tgt, 0, none⟩ w2 (hvb.cell 0)
    rw [hw2] at HAS hg2 HK2 n8
    rw [hx0]
    rw [← ho]
    clear hni hat htg hzl hg ho hx0 hw2 k2 hvb
    have h23 := @run_callFunc_extern Tryd.prog 23 _ (fun args => ReflectliteValue.unpack (args.getD 0 (.tuple #[]))) Tryd.func23 (by kernel_rfl) (by kernel_rfl) (by kernel_rfl) (by kernel_rfl)
    have h24 := @run_callFunc_extern Tryd.prog 24 _ (ReflectliteValue.methodAny (ReflectliteValue.valueError "reflectlite.Value.Type" 0) (fun t _ _ _ => ReflectliteType.toType t)) Tryd.func24 (by kernel_rfl) (by kernel_rfl) (by kernel_rfl) (by kernel_rfl)
    have h25 := @run_callFunc_extern Tryd.prog 25 _ (ReflectliteValue.method (ReflectliteValue.valueError "reflectlite.Value.IsNil" 0) ReflectliteValue.isNil) Tryd.func25 (by kernel_rfl) (by kernel_rfl) (by kernel_rfl) (by kernel_rfl)
    have h52 := @run_callFunc_extern Tryd.prog 52 _ (ReflectliteType.abiMethod fun t => do pure (.int .u8 (← Rtype.kind t))) Tryd.func52 (by kernel_rfl) (by kernel_rfl) (by kernel_rfl) (by kernel_rfl)
    have h71 := @run_callFunc_extern Tryd.prog 71 _ (ReflectliteType.method ReflectliteType.elem) Tryd.func71 (by kernel_rfl) (by kernel_rfl) (by kernel_rfl) (by kernel_rfl)
    have h72 := @run_callFunc_extern Tryd.prog 72 _ (ReflectliteType.relation "Implements" ReflectliteType.implements_) Tryd.func72 (by kernel_rfl) (by kernel_rfl) (by kernel_rfl) (by kernel_rfl)
    have mK := rf_Kind
    have mE := rf_Elem
    have mI := rf_Implements
    have f1 := rf_valueOfP_num
    have f2 := rf_type_num
    have f3 := rf_kindP_num
    have f4 := rf_kind_num
    have f5 := rf_elem_num
    have f6 := rf_implements_num
    go_enter Tryd.func11, Tryd.ntmps11
    go_wp2_with (go_at_call 26; refine HAS.out.mono ?_; intro e w9 hp; have HPP := Lib.hid (hp.from HK2.out); clear hp; obtain rfl := HPP.out.ending)
    go_ret
    exact HPP.out
set_option maxHeartbeats 4000000 in
set_option maxRecDepth 100000 in
theorem errAs_spot (w : World) (D : Nat → Prop) (t : VT) (tgt : Nat) (zs : List Value) (hg : GlobE w) (hat : At D w t) (htg : Blk w tgt 40 zs) (hzl : zs.length = 2) :
    Calls Tryd.prog 11 #[vv t, .iface 48 (.pointer (some ⟨tgt, 0, none⟩))] w (AsPost w tgt 40 (firstT (fun x => asP 3 (kindF x)) t)) := by
  cases hni : t.isNil with
  | true =>
    obtain rfl : t = .nil := by cases t <;> simp [VT.isNil] at hni ⊢
    have HP : Hid (firstT (fun x => asP 3 (kindF x)) .nil = none) := Lib.hid (firstT_nil _ rfl)
    obtain ⟨o, ho⟩ : ∃ o, o = firstT (fun x => asP 3 (kindF x)) .nil := ⟨_, rfl⟩
    rw [← ho] at HP ⊢
    clear hat htg hzl hg ho
    simp only [vv]
    go_enter Tryd.func11, Tryd.ntmps11
    go_wp2
    go_ret
    rw [HP.out]
    exact ⟨rfl, Keeps.refl _ _⟩
  | false =>
    obtain ⟨o, ho⟩ : ∃ o, o = firstT (fun x => asP 3 (kindF x)) t := ⟨_, rfl⟩
    obtain ⟨T0, xv, hx0⟩ := vv_iface hni
    obtain ⟨w2, hw2⟩ : ∃ w2, w2 = (w.alloc (.cells #[.pointer (some ⟨tgt, 0, none⟩)] 48)).alloc (.cells #[.pointer (some ⟨1, 48, none⟩), .pointer (some ⟨w.heap.size, 0, none⟩), .int .u64 150] 85) := ⟨_, rfl⟩
    have k2 : Keeps (fun _ => False) w w2 := by rw [hw2]; exact ((Keeps.refl _ w).alloc _).alloc _
    have hvb : Blk w2 w.heap.size 48 [.pointer (some ⟨tgt, 0, none⟩)] := by rw [hw2]; exact (Blk.new w _ _).alloc _
    have HAS : Hid (Calls Tryd.prog 26 #[.iface T0 xv, .iface 48 (.pointer (some ⟨tgt, 0, none⟩)), .agg #[.pointer (some ⟨1, 48, none⟩), .pointer (some ⟨w.heap.size, 0, none⟩), .int .u64 150], .iface 113 (.agg #[.pointer (some ⟨1, 40, none⟩)])] w2 (AsPost w2 tgt 40 o)) := Lib.hid (by
      rw [← hx0, ho]
      exact as_rec_spot tgt w.heap.size _ t w2 D zs (Nat.le_refl _) hni (hat.keep k2 (fun _ _ h => h)) hvb (k2.blk htg (fun h => h)) hzl)
    have HK2 := Lib.hid k2
    have hg2 := hg.keep k2
    unfold GlobE at hg2
    have n8 := rf_isNil_spot ⟨w.heap.size, 0, none⟩ ⟨tgt, 0, none⟩ w2 (hvb.cell 0)
    rw [hw2] at HAS hg2 HK2 n8
    rw [hx0]
    rw [← ho]
    clear hni hat htg hzl hg ho hx0 hw2 k2 hvb
    have h23 := @run_callFunc_extern Tryd.prog 23 _ (fun args => ReflectliteValue.unpack (args.getD 0 (.tuple #[]))) Tryd.func23 (by kernel_rfl) (by kernel_rfl) (by kernel_rfl) (by kernel_rfl)
    have h24 := @run_callFunc_extern Tryd.prog 24 _ (ReflectliteValue.methodAny (ReflectliteValue.valueError "reflectlite.Value.Type" 0) (fun t _ _ _ => ReflectliteType.toType t)) Tryd.func24 (by kernel_rfl) (by kernel_rfl) (by kernel_rfl) (by kernel_rfl)
    have h25 := @run_callFunc_extern Tryd.prog 25 _ (ReflectliteValue.method (ReflectliteValue.valueError "reflectlite.Value.IsNil" 0) ReflectliteValue.isNil) Tryd.func25 (by kernel_rfl) (by kernel_rfl) (by kernel_rfl) (by kernel_rfl)
    have h52 := @run_callFunc_extern Tryd.prog 52 _ (ReflectliteType.abiMethod fun t => do pure (.int .u8 (← Rtype.kind t))) Tryd.func52 (by kernel_rfl) (by kernel_rfl) (by kernel_rfl) (by kernel_rfl)
    have h71 := @run_callFunc_extern Tryd.prog 71 _ (ReflectliteType.method ReflectliteType.elem) Tryd.func71 (by kernel_rfl) (by kernel_rfl) (by kernel_rfl) (by kernel_rfl)
    have h72 := @run_callFunc_extern Tryd.prog 72 _ (ReflectliteType.relation "Implements" ReflectliteType.implements_) Tryd.func72 (by kernel_rfl) (by kernel_rfl) (by kernel_rfl) (by kernel_rfl)
    have mK := rf_Kind
    have mE := rf_Elem
    have mI := rf_Implements
    have f1 := rf_valueOfP_spot
    have f2 := rf_type_spot
    have f3 := rf_kindP_spot
    have f4 := rf_kind_spot
    have f5 := rf_elem_spot
    have f6 := rf_implements_spot
    go_enter Tryd.func11, Tryd.ntmps11
    go_wp2_with (go_at_call 26; refine HAS.out.mono ?_; intro e w9 hp; have HPP := Lib.hid (hp.from HK2.out); clear hp; obtain rfl := HPP.out.ending)
    go_ret
    exact HPP.out
set_option maxHeartbeats 4000000 in
set_option maxRecDepth 100000 in
theorem errAs_trail (w : World) (D : Nat → Prop) (t : VT) (tgt : Nat) (zs : List Value) (hg : GlobE w) (hat : At D w t) (htg : Blk w tgt 42 zs) (hzl : zs.length = 2) :
    Calls Tryd.prog 11 #[vv t, .iface 49 (.pointer (some ⟨tgt, 0, none⟩))] w (AsPost w tgt 42 (firstT (fun x => asP 4 (kindF x)) t)) := by
  cases hni : t.isNil with
  | true =>
    obtain rfl : t = .nil := by cases t <;> simp [VT.isNil] at hni ⊢
    have HP : Hid (firstT (fun x => asP 4 (kindF x)) .nil = none) := Lib.hid (firstT_nil _ rfl)
    obtain ⟨o, ho⟩ : ∃ o, o = firstT (fun x => asP 4 (kindF x)) .nil := ⟨_, rfl⟩
    rw [← ho] at HP ⊢
    clear hat htg hzl hg ho
    simp only [vv]
    go_enter Tryd.func11, Tryd.ntmps11
    go_wp2
    go_ret
    rw [HP.out]
    exact ⟨rfl, Keeps.refl _ _⟩
  | false =>
    obtain ⟨o, ho⟩ : ∃ o, o = firstT (fun x => asP 4 (kindF x)) t := ⟨_, rfl⟩
    obtain ⟨T0, xv, hx0⟩ := vv_iface hni
    obtain ⟨w2, hw2⟩ : ∃ w2, w2 = (w.alloc (.cells #[.pointer (some ⟨tgt, 0, none⟩)] 49)).alloc (.cells #[.pointer (some ⟨1, 49, none⟩), .pointer (some ⟨w.heap.size, 0, none⟩), .int .u64 150] 85) := ⟨_, rfl⟩
    have k2 : Keeps (fun _ => False) w w2 := by rw [hw2]; exact ((Keeps.refl _ w).alloc _).alloc _
    have hvb : Blk w2 w.heap.size 49 [.pointer (some ⟨tgt, 0, none⟩)] := by rw [hw2]; exact (Blk.new w _ _).alloc _
    have HAS : Hid (Calls Tryd.prog 26 #[.iface T0 xv, .iface 49 (.pointer (some ⟨tgt, 0, none⟩)), .agg #[.pointer (some ⟨1, 49, none⟩), .pointer (some ⟨w.heap.size, 0, none⟩), .int .u64 150], .iface 113 (.agg #[.pointer (some ⟨1, 42, none⟩)])] w2 (AsPost w2 tgt 42 o)) := Lib.hid (by
      rw [← hx0, ho]
      exact as_rec_trail tgt w.heap.size _ t w2 D zs (Nat.le_refl _) hni (hat.keep k2 (fun _ _ h => h)) hvb (k2.blk htg (fun h => h)) hzl)
    have HK2 := Lib.hid k2
    have hg2 := hg.keep k2
    unfold GlobE at hg2
    have n8 := rf_isNil_trail ⟨w.heap.size, 0, none⟩ ⟨tgt, 0, none⟩ w2 (hvb.cell 0)
    rw [hw2] at HAS hg2 HK2 n8
    rw [hx0]
    rw [← ho]
    clear hni hat htg hzl hg ho hx0 hw2 k2 hvb
    have h23 := @run_callFunc_extern Tryd.prog 23 _ (fun args => ReflectliteValue.unpack (args.getD 0 (.tuple #[]))) Tryd.func23 (by kernel_rfl) (by kernel_rfl) (by kernel_rfl) (by kernel_rfl)
    have h24 := @run_callFunc_extern Tryd.prog 24 _ (ReflectliteValue.methodAny (ReflectliteValue.valueError "reflectlite.Value.Type" 0) (fun t _ _ _ => ReflectliteType.toType t)) Tryd.func24 (by kernel_rfl) (by kernel_rfl) (by kernel_rfl) (by kernel_rfl)
    have h25 := @run_callFunc_extern Tryd.prog 25 _ (ReflectliteValue.method (ReflectliteValue.valueError "reflectlite.Value.IsNil" 0) ReflectliteValue.isNil) Tryd.func25 (by kernel_rfl) (by kernel_rfl) (by kernel_rfl) (by kernel_rfl)
    have h52 := @run_callFunc_extern Tryd.prog 52 _ (ReflectliteType.abiMethod fun t => do pure (.int .u8 (← Rtype.kind t))) Tryd.func52 (by kernel_rfl) (by kernel_rfl) (by kernel_rfl) (by kernel_rfl)
    have h71 := @run_callFunc_extern Tryd.prog 71 _ (ReflectliteType.method ReflectliteType.elem) Tryd.func71 (by kernel_rfl) (by kernel_rfl) (by kernel_rfl) (by kernel_rfl)
    have h72 := @run_callFunc_extern Tryd.prog 72 _ (ReflectliteType.relation "Implements" ReflectliteType.implements_) Tryd.func72 (by kernel_rfl) (by kernel_rfl) (by kernel_rfl) (by kernel_rfl)
    have mK := rf_Kind
    have mE := rf_Elem
    have mI := rf_Implements
    have f1 := rf_valueOfP_trail
    have f2 := rf_type_trail
    have f3 := rf_kindP_trail
    have f4 := rf_kind_trail
    have f5 := rf_elem_trail
    have f6 := rf_implements_trail
    go_enter Tryd.func11, Tryd.ntmps11
    go_wp2_with (go_at_call 26; refine HAS.out.mono ?_; intro e w9 hp; have HPP := Lib.hid (hp.from HK2.out); clear hp; obtain rfl := HPP.out.ending)
    go_ret
    exact HPP.out
set_option maxHeartbeats 4000000 in
set_option maxRecDepth 100000 in
theorem errAs_note (w : World) (D : Nat → Prop) (t : VT) (tgt : Nat) (zs : List Value) (hg : GlobE w) (hat : At D w t) (htg : Blk w tgt 43 zs) (hzl : zs.length = 1) :
    Calls Tryd.prog 11 #[vv t, .iface 50 (.pointer (some ⟨tgt, 0, none⟩))] w (AsPost w tgt 43 (firstT (fun x => asP 5 (kindF x)) t)) := by
  cases hni : t.isNil with
  | true =>
    obtain rfl : t = .nil := by cases t <;> simp [VT.isNil] at hni ⊢
    have HP : Hid (firstT (fun x => asP 5 (kindF x)) .nil = none) := Lib.hid (firstT_nil _ rfl)
    obtain ⟨o, ho⟩ : ∃ o, o = firstT (fun x => asP 5 (kindF x)) .nil := ⟨_, rfl⟩
    rw [← ho] at HP ⊢
    clear hat htg hzl hg ho
    simp only [vv]
    go_enter Tryd.func11, Tryd.ntmps11
    go_wp2
    go_ret
    rw [HP.out]
    exact ⟨rfl, Keeps.refl _ _⟩
  | false =>
    obtain ⟨o, ho⟩ : ∃ o, o = firstT (fun x => asP 5 (kindF x)) t := ⟨_, rfl⟩
    obtain ⟨T0, xv, hx0⟩ := vv_iface hni
    obtain ⟨w2, hw2⟩ : ∃ w2, w2 = (w.alloc (.cells #[.pointer (some ⟨tgt, 0, none⟩)] 50)).alloc (.cells #[.pointer (some ⟨1, 50, none⟩), .pointer (some ⟨w.heap.size, 0, none⟩), .int .u64 150] 85) := ⟨_, rfl⟩
    have k2 : Keeps (fun _ => False) w w2 := by rw [hw2]; exact ((Keeps.refl _ w).alloc _).alloc _
    have hvb : Blk w2 w.heap.size 50 [.pointer (some ⟨tgt, 0, none⟩)] := by rw [hw2]; exact (Blk.new w _ _).alloc _
    have HAS : Hid (Calls Tryd.prog 26 #[.iface T0 xv, .iface 50 (.pointer (some ⟨tgt, 0, none⟩)), .agg #[.pointer (some ⟨1, 50, none⟩), .pointer (some ⟨w.heap.size, 0, none⟩), .int .u64 150], .iface 113 (.agg #[.pointer (some ⟨1, 43, none⟩)])] w2 (AsPost w2 tgt 43 o)) := Lib.hid (by
      rw [← hx0, ho]
      exact as_rec_note tgt w.heap.size _ t w2 D zs (Nat.le_refl _) hni (hat.keep k2 (fun _ _ h => h)) hvb (k2.blk htg (fun h => h)) hzl)
    have HK2 := Lib.hid k2
    have hg2 := hg.keep k2
    unfold GlobE at hg2
    have n8 := rf_isNil_note ⟨w.heap.size, 0, none⟩ ⟨tgt, 0, none⟩ w2 (hvb.cell 0)
    rw [hw2] at HAS hg2 HK2 n8
    rw [hx0]
    rw [← ho]
    clear hni hat htg hzl hg ho hx0 hw2 k2 hvb
    have h23 := @run_callFunc_extern Tryd.prog 23 _ (fun args => ReflectliteValue.unpack (args.getD 0 (.tuple #[]))) Tryd.func23 (by kernel_rfl) (by kernel_rfl) (by kernel_rfl) (by kernel_rfl)
    have h24 := @run_callFunc_extern Tryd.prog 24 _ (ReflectliteValue.methodAny (ReflectliteValue.valueError "reflectlite.Value.Type" 0) (fun t _ _ _ => ReflectliteType.toType t)) Tryd.func24 (by kernel_rfl) (by kernel_rfl) (by kernel_rfl) (by kernel_rfl)
    have h25 := @run_callFunc_extern Tryd.prog 25 _ (ReflectliteValue.method (ReflectliteValue.valueError "reflectlite.Value.IsNil" 0) ReflectliteValue.isNil) Tryd.func25 (by kernel_rfl) (by kernel_rfl) (by kernel_rfl) (by kernel_rfl)
    have h52 := @run_callFunc_extern Tryd.prog 52 _ (ReflectliteType.abiMethod fun t => do pure (.int .u8 (← Rtype.kind t))) Tryd.func52 (by kernel_rfl) (by kernel_rfl) (by kernel_rfl) (by kernel_rfl)
    have h71 := @run_callFunc_extern Tryd.prog 71 _ (ReflectliteType.method ReflectliteType.elem) Tryd.func71 (by kernel_rfl) (by kernel_rfl) (by kernel_rfl) (by kernel_rfl)
    have h72 := @run_callFunc_extern Tryd.prog 72 _ (ReflectliteType.relation "Implements" ReflectliteType.implements_) Tryd.func72 (by kernel_rfl) (by kernel_rfl) (by kernel_rfl) (by kernel_rfl)
    have mK := rf_Kind
    have mE := rf_Elem
    have mI := rf_Implements
    have f1 := rf_valueOfP_note
    have f2 := rf_type_note
    have f3 := rf_kindP_note
    have f4 := rf_kind_note
    have f5 := rf_elem_note
    have f6 := rf_implements_note
    go_enter Tryd.func11, Tryd.ntmps11
    go_wp2_with (go_at_call 26; refine HAS.out.mono ?_; intro e w9 hp; have HPP := Lib.hid (hp.from HK2.out); clear hp; obtain rfl := HPP.out.ending)
    go_ret
    exact HPP.out
set_option maxHeartbeats 4000000 in
set_option maxRecDepth 100000 in
theorem errAs_all (w : World) (D : Nat → Prop) (t : VT) (tgt : Nat) (zs : List Value) (hg : GlobE w) (hat : At D w t) (htg : Blk w tgt 45 zs) (hzl : zs.length = 1) :
    Calls Tryd.prog 11 #[vv t, .iface 51 (.pointer (some ⟨tgt, 0, none⟩))] w (AsPost w tgt 45 (firstT (fun x => asP 7 (kindF x)) t)) := by
  cases hni : t.isNil with
  | true =>
    obtain rfl : t = .nil := by cases t <;> simp [VT.isNil] at hni ⊢
    have HP : Hid (firstT (fun x => asP 7 (kindF x)) .nil = none) := Lib.hid (firstT_nil _ rfl)
    obtain ⟨o, ho⟩ : ∃ o, o = firstT (fun x => asP 7 (kindF x)) .nil := ⟨_, rfl⟩
    rw [← ho] at HP ⊢
    clear hat htg hzl hg ho
    simp only [vv]
    go_enter Tryd.func11, Tryd.ntmps11
    go_wp2
    go_ret
    rw [HP.out]
    exact ⟨rfl, Keeps.refl _ _⟩
  | false =>
    obtain ⟨o, ho⟩ : ∃ o, o = firstT (fun x => asP 7 (kindF x)) t := ⟨_, rfl⟩
    obtain ⟨T0, xv, hx0⟩ := vv_iface hni
    obtain ⟨w2, hw2⟩ : ∃ w2, w2 = (w.alloc (.cells #[.pointer (some ⟨tgt, 0, none⟩)] 51)).alloc (.cells #[.pointer (some ⟨1, 51, none⟩), .pointer (some ⟨w.heap.size, 0, none⟩), .int .u64 150] 85) := ⟨_, rfl⟩
    have k2 : Keeps (fun _ => False) w w2 := by rw [hw2]; exact ((Keeps.refl _ w).alloc _).alloc _
    have hvb : Blk w2 w.heap.size 51 [.pointer (some ⟨tgt, 0, none⟩)] := by rw [hw2]; exact (Blk.new w _ _).alloc _
    have HAS : Hid (Calls Tryd.prog 26 #[.iface T0 xv, .iface 51 (.pointer (some ⟨tgt, 0, none⟩)), .agg #[.pointer (some ⟨1, 51, none⟩), .pointer (some ⟨w.heap.size, 0, none⟩), .int .u64 150], .iface 113 (.agg #[.pointer (some ⟨1, 45, none⟩)])] w2 (AsPost w2 tgt 45 o)) := Lib.hid (by
      rw [← hx0, ho]
      exact as_rec_all tgt w.heap.size _ t w2 D zs (Nat.le_refl _) hni (hat.keep k2 (fun _ _ h => h)) hvb (k2.blk htg (fun h => h)) hzl)
    have HK2 := Lib.hid k2
    have hg2 := hg.keep k2
    unfold GlobE at hg2
    have n8 := rf_isNil_all ⟨w.heap.size, 0, none⟩ ⟨tgt, 0, none⟩ w2 (hvb.cell 0)
    rw [hw2] at HAS hg2 HK2 n8
    rw [hx0]
    rw [← ho]
    clear hni hat htg hzl hg ho hx0 hw2 k2 hvb
    have h23 := @run_callFunc_extern Tryd.prog 23 _ (fun args => ReflectliteValue.unpack (args.getD 0 (.tuple #[]))) Tryd.func23 (by kernel_rfl) (by kernel_rfl) (by kernel_rfl) (by kernel_rfl)
    have h24 := @run_callFunc_extern Tryd.prog 24 _ (ReflectliteValue.methodAny (ReflectliteValue.valueError "reflectlite.Value.Type" 0) (fun t _ _ _ => ReflectliteType.toType t)) Tryd.func24 (by kernel_rfl) (by kernel_rfl) (by kernel_rfl) (by kernel_rfl)
    have h25 := @run_callFunc_extern Tryd.prog 25 _ (ReflectliteValue.method (ReflectliteValue.valueError "reflectlite.Value.IsNil" 0) ReflectliteValue.isNil) Tryd.func25 (by kernel_rfl) (by kernel_rfl) (by kernel_rfl) (by kernel_rfl)
    have h52 := @run_callFunc_extern Tryd.prog 52 _ (ReflectliteType.abiMethod fun t => do pure (.int .u8 (← Rtype.kind t))) Tryd.func52 (by kernel_rfl) (by kernel_rfl) (by kernel_rfl) (by kernel_rfl)
    have h71 := @run_callFunc_extern Tryd.prog 71 _ (ReflectliteType.method ReflectliteType.elem) Tryd.func71 (by kernel_rfl) (by kernel_rfl) (by kernel_rfl) (by kernel_rfl)
    have h72 := @run_callFunc_extern Tryd.prog 72 _ (ReflectliteType.relation "Implements" ReflectliteType.implements_) Tryd.func72 (by kernel_rfl) (by kernel_rfl) (by kernel_rfl) (by kernel_rfl)
    have mK := rf_Kind
    have mE := rf_Elem
    have mI := rf_Implements
    have f1 := rf_valueOfP_all
    have f2 := rf_type_all
    have f3 := rf_kindP_all
    have f4 := rf_kind_all
    have f5 := rf_elem_all
    have f6 := rf_implements_all
    go_enter Tryd.func11, Tryd.ntmps11
    go_wp2_with (go_at_call 26; refine HAS.out.mono ?_; intro e w9 hp; have HPP := Lib.hid (hp.from HK2.out); clear hp; obtain rfl := HPP.out.ending)
    go_ret
    exact HPP.out
end Go.Proofs.YtinonjfnhedlpaaDoor
