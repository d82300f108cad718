/-
  FACTS on the entries for internal/reflectlite at the five targets of errors.As (after the guide's worked example of one target).
-/
import Derived.Test.YtinonjfnhedlpaaDoorFAssertW
import Derived.Test.YtinonjfnhedlpaaDoorFSeenW
import Derived.WalkKit
import Derived.LaidEql
import Derived.Stop.Asserts
import Derived.RowKitTokens
set_option linter.unusedSimpArgs false
namespace Go.Proofs.YtinonjfnhedlpaaDoor
open Go Go.RowKit Go.Extern.Stop Go.Stop Go.Extern Go.Aff Go.Fault
theorem rlm (z : Sem Value) (f : TypeId → Addr → Nat → Nat → Sem Value) (v : Value) :
    ReflectliteValue.method z f #[v] = (do match ← ReflectliteValue.parts v with | none => z | some (t, a, fl) => f t a fl (fl % 32)) := rfl
theorem rls (v x : Value) : ReflectliteValue.set #[v, x] = (do
    let (some (dst, a, fl), some (src, b, _)) := (← ReflectliteValue.parts v, ← ReflectliteValue.parts x)
      | unsupported (.noEntry "extern/(internal/reflectlite.Value).Set.zeroValue")
    if fl / ReflectliteValue.flagAddr % 2 == 0 then unsupported (.noEntry "extern/(internal/reflectlite.Value).Set.unaddressable")
    let val ← loadVar src b
    if ← Rtype.directlyAssignable dst src then storeVar dst a val
    else if ← Rtype.implements dst src then
      if (← Rtype.kind src) == 20 then
        match val with
        | .nilIface => unsupported (.noEntry "extern/reflectlite: a nil value of one interface type handed on as a value of another")
        | _ => storeVar dst a val
      else storeVar dst a (.iface src val)
    else panicString ("reflectlite.Set: value of type " ++ (← Rtype.spelt src) ++ " is not assignable to type " ++ (← Rtype.spelt dst))
    pure (.tuple #[])) := rfl
theorem rf_Kind (hd : Value) (w : World) : (Go.method 253 113 (.agg #[hd]) "Kind").run Tryd.prog w = .ok (52, hd) w := by kernel_rfl
theorem rf_Elem (hd : Value) (w : World) : (Go.method 253 113 (.agg #[hd]) "Elem").run Tryd.prog w = .ok (71, .agg #[hd]) w := by kernel_rfl
theorem rf_Implements (hd : Value) (w : World) : (Go.method 253 113 (.agg #[hd]) "Implements").run Tryd.prog w = .ok (72, .agg #[hd]) w := by kernel_rfl
theorem rf_AssignableTo (hd : Value) (w : World) : (Go.method 253 113 (.agg #[hd]) "AssignableTo").run Tryd.prog w = .ok (69, .agg #[hd]) w := by kernel_rfl
set_option maxRecDepth 100000 in
theorem rf_valueOfP_num (t : Addr) (w : World) : (ReflectliteValue.unpack (.iface 47 (.pointer (some t)))).run Tryd.prog w = .ok (.agg #[.pointer (some ⟨1, 47, none⟩), .pointer (some ⟨w.heap.size, 0, none⟩), .int .u64 150]) (w.alloc (.cells #[.pointer (some t)] 47)) := by kernel_rfl
set_option maxRecDepth 100000 in
theorem rf_type_num (a : Addr) (w : World) : (ReflectliteValue.methodAny (ReflectliteValue.valueError "reflectlite.Value.Type" 0) (fun t _ _ _ => ReflectliteType.toType t) #[.agg #[.pointer (some ⟨1, 47, none⟩), .pointer (some a), .int .u64 150]]).run Tryd.prog w = .ok (.iface 113 (.agg #[.pointer (some ⟨1, 47, none⟩)])) w := by kernel_rfl
theorem rf_kindP_num (w : World) : ((ReflectliteType.abiMethod fun t => (fun a : Nat => Value.int IntKind.u8 (a : Int)) <$> Rtype.kind t) #[.pointer (some ⟨1, 47, none⟩)]).run Tryd.prog w = .ok (.int .u8 22) w := by kernel_rfl
theorem rf_kind_num (w : World) : ((ReflectliteType.abiMethod fun t => (fun a : Nat => Value.int IntKind.u8 (a : Int)) <$> Rtype.kind t) #[.pointer (some ⟨1, 33, none⟩)]).run Tryd.prog w = .ok (.int .u8 2) w := by kernel_rfl
theorem rf_partsP_num (a : Addr) (w : World) : (ReflectliteValue.parts (.agg #[.pointer (some ⟨1, 47, none⟩), .pointer (some a), .int .u64 150])).run Tryd.prog w = .ok (some (47, a, 150)) w := by kernel_rfl
theorem rf_isNil_num (a p : Addr) (W : World) (ha : W.cell? a = some (.pointer (some p))) :
    (ReflectliteValue.method (ReflectliteValue.valueError "reflectlite.Value.IsNil" 0) ReflectliteValue.isNil #[.agg #[.pointer (some ⟨1, 47, none⟩), .pointer (some a), .int .u64 150]]).run Tryd.prog W = .ok (.bool false) W := by
  rw [rlm]
  simp only [Sem.run_bind, rf_partsP_num, Result.andThen]
  simp [ReflectliteValue.isNil, loadVar, isAgg, underlying, Tryd.underlying47, ha, Result.andThen]
theorem rf_elem_num (w : World) : (ReflectliteType.method ReflectliteType.elem #[.agg #[.pointer (some ⟨1, 47, none⟩)]]).run Tryd.prog w = .ok (.iface 113 (.agg #[.pointer (some ⟨1, 33, none⟩)])) w := by kernel_rfl
theorem rf_implements_num (w : World) : (ReflectliteType.relation "Implements" ReflectliteType.implements_ #[.agg #[.pointer (some ⟨1, 33, none⟩)], .iface 113 (.agg #[.pointer (some ⟨1, 24, none⟩)])]).run Tryd.prog w = .ok (.bool true) w := by kernel_rfl
theorem rf_typeOf_num (v : Value) (w : World) : (ReflectliteType.typeOf #[.iface 33 v]).run Tryd.prog w = .ok (.iface 113 (.agg #[.pointer (some ⟨1, 33, none⟩)])) w := by kernel_rfl
theorem rf_assign_num_num (w : World) : (ReflectliteType.relation "AssignableTo" ReflectliteType.assignableTo #[.agg #[.pointer (some ⟨1, 33, none⟩)], .iface 113 (.agg #[.pointer (some ⟨1, 33, none⟩)])]).run Tryd.prog w = .ok (.bool true) w := by kernel_rfl
theorem rf_assign_num_spot (w : World) : (ReflectliteType.relation "AssignableTo" ReflectliteType.assignableTo #[.agg #[.pointer (some ⟨1, 33, none⟩)], .iface 113 (.agg #[.pointer (some ⟨1, 40, none⟩)])]).run Tryd.prog w = .ok (.bool false) w := by kernel_rfl
theorem rf_assign_num_trail (w : World) : (ReflectliteType.relation "AssignableTo" ReflectliteType.assignableTo #[.agg #[.pointer (some ⟨1, 33, none⟩)], .iface 113 (.agg #[.pointer (some ⟨1, 42, none⟩)])]).run Tryd.prog w = .ok (.bool false) w := by kernel_rfl
theorem rf_assign_num_note (w : World) : (ReflectliteType.relation "AssignableTo" ReflectliteType.assignableTo #[.agg #[.pointer (some ⟨1, 33, none⟩)], .iface 113 (.agg #[.pointer (some ⟨1, 43, none⟩)])]).run Tryd.prog w = .ok (.bool false) w := by kernel_rfl
theorem rf_assign_num_all (w : World) : (ReflectliteType.relation "AssignableTo" ReflectliteType.assignableTo #[.agg #[.pointer (some ⟨1, 33, none⟩)], .iface 113 (.agg #[.pointer (some ⟨1, 45, none⟩)])]).run Tryd.prog w = .ok (.bool false) w := by kernel_rfl
theorem rf_valueOf_num (n : Int) (w : World) : (ReflectliteValue.unpack (.iface 33 (.int .i64 n))).run Tryd.prog w = .ok (.agg #[.pointer (some ⟨1, 33, none⟩), .pointer (some ⟨w.heap.size, 0, none⟩), .int .u64 130]) (w.alloc (.cells #[.int .i64 n] 33)) := by kernel_rfl
theorem rf_elemOf_num (w : World) : (Rtype.elem? 47).run Tryd.prog w = .ok (some 33) w := by kernel_rfl
theorem rf_mk_num (p : Addr) (w : World) : (ReflectliteValue.mk 33 p ReflectliteValue.flagAddr).run Tryd.prog w = .ok (.agg #[.pointer (some ⟨1, 33, none⟩), .pointer (some p), .int .u64 386]) w := by kernel_rfl
theorem rf_elemV_num (a p : Addr) (W : World) (ha : W.cell? a = some (.pointer (some p))) :
    (ReflectliteValue.method (ReflectliteValue.valueError "reflectlite.Value.Elem" 0) ReflectliteValue.elem #[.agg #[.pointer (some ⟨1, 47, none⟩), .pointer (some a), .int .u64 150]]).run Tryd.prog W = .ok (.agg #[.pointer (some ⟨1, 33, none⟩), .pointer (some p), .int .u64 386]) W := by
  rw [rlm]
  simp only [Sem.run_bind, rf_partsP_num, Result.andThen]
  simp [ReflectliteValue.elem, loadVar, isAgg, underlying, Tryd.underlying47, ha, Result.andThen, rf_elemOf_num, rf_mk_num]
theorem rf_partsA_num (a : Addr) (w : World) : (ReflectliteValue.parts (.agg #[.pointer (some ⟨1, 33, none⟩), .pointer (some a), .int .u64 386])).run Tryd.prog w = .ok (some (33, a, 386)) w := by kernel_rfl
theorem rf_parts_num (a : Addr) (w : World) : (ReflectliteValue.parts (.agg #[.pointer (some ⟨1, 33, none⟩), .pointer (some a), .int .u64 130])).run Tryd.prog w = .ok (some (33, a, 130)) w := by kernel_rfl
theorem rf_direct_num (w : World) : (Rtype.directlyAssignable 33 33).run Tryd.prog w = .ok true w := by kernel_rfl
theorem rf_set_num (ta b : Nat) (zs : List Value) (n : Int) (W : World) (hb : Blk W b 33 [.int .i64 n]) (ht : Blk W ta 33 zs) (hl : zs.length = 1) :
    (ReflectliteValue.set #[.agg #[.pointer (some ⟨1, 33, none⟩), .pointer (some ⟨ta, 0, none⟩), .int .u64 386], .agg #[.pointer (some ⟨1, 33, none⟩), .pointer (some ⟨b, 0, none⟩), .int .u64 130]]).run Tryd.prog W = .ok (.tuple #[]) (W.setCell ⟨ta, 0, none⟩ (.int .i64 n)) := by
  rw [rls]
  simp only [Sem.run_bind, rf_partsA_num, rf_parts_num, Result.andThen]
  have h1 : (loadVar 33 ⟨b, 0, none⟩).run Tryd.prog W = .ok (.int .i64 n) W := by
    have c0 : W.cell? ⟨b, 0, none⟩ = some (.int .i64 n) := hb.cell 0
    simp [loadVar, isAgg, underlying, Tryd.underlying33, c0, Result.andThen]
  have h2 : (storeVar 33 ⟨ta, 0, none⟩ (.int .i64 n)).run Tryd.prog W = .ok () (W.setCell ⟨ta, 0, none⟩ (.int .i64 n)) := by
    obtain ⟨z, rfl⟩ : ∃ z, zs = [z] := List.length_eq_one_iff.1 hl
    have c0 : W.cell? ⟨ta, 0, none⟩ = some z := ht.cell 0
    have f0 := ht.frozen 0
    have hz : (sizeOf 33).run Tryd.prog W = .ok 1 W := by kernel_rfl
    simp [storeVar, Value.cells, storeCells, Addr.add]
    rw [run_store Tryd.prog W ⟨ta, 0, none⟩ _ _ (by rfl)]
    simp [c0, f0]
  simp [ReflectliteValue.flagAddr, h1, h2, Result.andThen, rf_direct_num]
set_option maxRecDepth 100000 in
theorem rf_valueOfP_spot (t : Addr) (w : World) : (ReflectliteValue.unpack (.iface 48 (.pointer (some t)))).run Tryd.prog w = .ok (.agg #[.pointer (some ⟨1, 48, none⟩), .pointer (some ⟨w.heap.size, 0, none⟩), .int .u64 150]) (w.alloc (.cells #[.pointer (some t)] 48)) := by kernel_rfl
set_option maxRecDepth 100000 in
theorem rf_type_spot (a : Addr) (w : World) : (ReflectliteValue.methodAny (ReflectliteValue.valueError "reflectlite.Value.Type" 0) (fun t _ _ _ => ReflectliteType.toType t) #[.agg #[.pointer (some ⟨1, 48, none⟩), .pointer (some a), .int .u64 150]]).run Tryd.prog w = .ok (.iface 113 (.agg #[.pointer (some ⟨1, 48, none⟩)])) w := by kernel_rfl
theorem rf_kindP_spot (w : World) : ((ReflectliteType.abiMethod fun t => (fun a : Nat => Value.int IntKind.u8 (a : Int)) <$> Rtype.kind t) #[.pointer (some ⟨1, 48, none⟩)]).run Tryd.prog w = .ok (.int .u8 22) w := by kernel_rfl
theorem rf_kind_spot (w : World) : ((ReflectliteType.abiMethod fun t => (fun a : Nat => Value.int IntKind.u8 (a : Int)) <$> Rtype.kind t) #[.pointer (some ⟨1, 40, none⟩)]).run Tryd.prog w = .ok (.int .u8 25) w := by kernel_rfl
theorem rf_partsP_spot (a : Addr) (w : World) : (ReflectliteValue.parts (.agg #[.pointer (some ⟨1, 48, none⟩), .pointer (some a), .int .u64 150])).run Tryd.prog w = .ok (some (48, a, 150)) w := by kernel_rfl
theorem rf_isNil_spot (a p : Addr) (W : World) (ha : W.cell? a = some (.pointer (some p))) :
    (ReflectliteValue.method (ReflectliteValue.valueError "reflectlite.Value.IsNil" 0) ReflectliteValue.isNil #[.agg #[.pointer (some ⟨1, 48, none⟩), .pointer (some a), .int .u64 150]]).run Tryd.prog W = .ok (.bool false) W := by
  rw [rlm]
  simp only [Sem.run_bind, rf_partsP_spot, Result.andThen]
  simp [ReflectliteValue.isNil, loadVar, isAgg, underlying, Tryd.underlying48, ha, Result.andThen]
theorem rf_elem_spot (w : World) : (ReflectliteType.method ReflectliteType.elem #[.agg #[.pointer (some ⟨1, 48, none⟩)]]).run Tryd.prog w = .ok (.iface 113 (.agg #[.pointer (some ⟨1, 40, none⟩)])) w := by kernel_rfl
theorem rf_implements_spot (w : World) : (ReflectliteType.relation "Implements" ReflectliteType.implements_ #[.agg #[.pointer (some ⟨1, 40, none⟩)], .iface 113 (.agg #[.pointer (some ⟨1, 24, none⟩)])]).run Tryd.prog w = .ok (.bool true) w := by kernel_rfl
theorem rf_typeOf_spot (v : Value) (w : World) : (ReflectliteType.typeOf #[.iface 40 v]).run Tryd.prog w = .ok (.iface 113 (.agg #[.pointer (some ⟨1, 40, none⟩)])) w := by kernel_rfl
theorem rf_assign_spot_num (w : World) : (ReflectliteType.relation "AssignableTo" ReflectliteType.assignableTo #[.agg #[.pointer (some ⟨1, 40, none⟩)], .iface 113 (.agg #[.pointer (some ⟨1, 33, none⟩)])]).run Tryd.prog w = .ok (.bool false) w := by kernel_rfl
theorem rf_assign_spot_spot (w : World) : (ReflectliteType.relation "AssignableTo" ReflectliteType.assignableTo #[.agg #[.pointer (some ⟨1, 40, none⟩)], .iface 113 (.agg #[.pointer (some ⟨1, 40, none⟩)])]).run Tryd.prog w = .ok (.bool true) w := by kernel_rfl
theorem rf_assign_spot_trail (w : World) : (ReflectliteType.relation "AssignableTo" ReflectliteType.assignableTo #[.agg #[.pointer (some ⟨1, 40, none⟩)], .iface 113 (.agg #[.pointer (some ⟨1, 42, none⟩)])]).run Tryd.prog w = .ok (.bool false) w := by kernel_rfl
theorem rf_assign_spot_note (w : World) : (ReflectliteType.relation "AssignableTo" ReflectliteType.assignableTo #[.agg #[.pointer (some ⟨1, 40, none⟩)], .iface 113 (.agg #[.pointer (some ⟨1, 43, none⟩)])]).run Tryd.prog w = .ok (.bool false) w := by kernel_rfl
theorem rf_assign_spot_all (w : World) : (ReflectliteType.relation "AssignableTo" ReflectliteType.assignableTo #[.agg #[.pointer (some ⟨1, 40, none⟩)], .iface 113 (.agg #[.pointer (some ⟨1, 45, none⟩)])]).run Tryd.prog w = .ok (.bool false) w := by kernel_rfl
theorem rf_valueOf_spot (n a : Int) (w : World) : (ReflectliteValue.unpack (.iface 40 (.agg #[.int .i64 n, .int .i64 a]))).run Tryd.prog w = .ok (.agg #[.pointer (some ⟨1, 40, none⟩), .pointer (some ⟨w.heap.size, 0, none⟩), .int .u64 153]) (w.alloc (.cells #[.int .i64 n, .int .i64 a] 40)) := by kernel_rfl
theorem rf_elemOf_spot (w : World) : (Rtype.elem? 48).run Tryd.prog w = .ok (some 40) w := by kernel_rfl
theorem rf_mk_spot (p : Addr) (w : World) : (ReflectliteValue.mk 40 p ReflectliteValue.flagAddr).run Tryd.prog w = .ok (.agg #[.pointer (some ⟨1, 40, none⟩), .pointer (some p), .int .u64 409]) w := by kernel_rfl
theorem rf_elemV_spot (a p : Addr) (W : World) (ha : W.cell? a = some (.pointer (some p))) :
    (ReflectliteValue.method (ReflectliteValue.valueError "reflectlite.Value.Elem" 0) ReflectliteValue.elem #[.agg #[.pointer (some ⟨1, 48, none⟩), .pointer (some a), .int .u64 150]]).run Tryd.prog W = .ok (.agg #[.pointer (some ⟨1, 40, none⟩), .pointer (some p), .int .u64 409]) W := by
  rw [rlm]
  simp only [Sem.run_bind, rf_partsP_spot, Result.andThen]
  simp [ReflectliteValue.elem, loadVar, isAgg, underlying, Tryd.underlying48, ha, Result.andThen, rf_elemOf_spot, rf_mk_spot]
theorem rf_partsA_spot (a : Addr) (w : World) : (ReflectliteValue.parts (.agg #[.pointer (some ⟨1, 40, none⟩), .pointer (some a), .int .u64 409])).run Tryd.prog w = .ok (some (40, a, 409)) w := by kernel_rfl
theorem rf_parts_spot (a : Addr) (w : World) : (ReflectliteValue.parts (.agg #[.pointer (some ⟨1, 40, none⟩), .pointer (some a), .int .u64 153])).run Tryd.prog w = .ok (some (40, a, 153)) w := by kernel_rfl
theorem rf_direct_spot (w : World) : (Rtype.directlyAssignable 40 40).run Tryd.prog w = .ok true w := by kernel_rfl
theorem rf_set_spot (ta b : Nat) (zs : List Value) (n a : Int) (W : World) (hb : Blk W b 40 [.int .i64 n, .int .i64 a]) (ht : Blk W ta 40 zs) (hl : zs.length = 2) :
    (ReflectliteValue.set #[.agg #[.pointer (some ⟨1, 40, none⟩), .pointer (some ⟨ta, 0, none⟩), .int .u64 409], .agg #[.pointer (some ⟨1, 40, none⟩), .pointer (some ⟨b, 0, none⟩), .int .u64 153]]).run Tryd.prog W = .ok (.tuple #[]) (W.setRow ta [.int .i64 n, .int .i64 a].toArray) := by
  rw [rls]
  simp only [Sem.run_bind, rf_partsA_spot, rf_parts_spot, Result.andThen]
  have h1 : (loadVar 40 ⟨b, 0, none⟩).run Tryd.prog W = .ok (.agg #[.int .i64 n, .int .i64 a]) W := run_loadVar_row W b 40 40 #[.int .i64 n, .int .i64 a] (0, 0) _ (by exact hb) Tryd.underlying40 rfl (by kernel_rfl)
  have h2 : (storeVar 40 ⟨ta, 0, none⟩ (.agg #[.int .i64 n, .int .i64 a])).run Tryd.prog W = .ok () (W.setRow ta [.int .i64 n, .int .i64 a].toArray) := by
    have h3 := run_storeVar_at (P := Tryd.prog) 40 0 [.int .i64 n, .int .i64 a] ht (by rw [hl]; exact Nat.le_refl 2) (by kernel_rfl) (fun u hu => by simp only [List.mem_cons, List.not_mem_nil, or_false] at hu; rcases hu with rfl | rfl <;> rfl)
    rw [splice_all _ _ (by rw [hl]; rfl)] at h3
    exact h3
  simp [ReflectliteValue.flagAddr, h1, h2, Result.andThen, rf_direct_spot]
set_option maxRecDepth 100000 in
theorem rf_valueOfP_trail (t : Addr) (w : World) : (ReflectliteValue.unpack (.iface 49 (.pointer (some t)))).run Tryd.prog w = .ok (.agg #[.pointer (some ⟨1, 49, none⟩), .pointer (some ⟨w.heap.size, 0, none⟩), .int .u64 150]) (w.alloc (.cells #[.pointer (some t)] 49)) := by kernel_rfl
set_option maxRecDepth 100000 in
theorem rf_type_trail (a : Addr) (w : World) : (ReflectliteValue.methodAny (ReflectliteValue.valueError "reflectlite.Value.Type" 0) (fun t _ _ _ => ReflectliteType.toType t) #[.agg #[.pointer (some ⟨1, 49, none⟩), .pointer (some a), .int .u64 150]]).run Tryd.prog w = .ok (.iface 113 (.agg #[.pointer (some ⟨1, 49, none⟩)])) w := by kernel_rfl
theorem rf_kindP_trail (w : World) : ((ReflectliteType.abiMethod fun t => (fun a : Nat => Value.int IntKind.u8 (a : Int)) <$> Rtype.kind t) #[.pointer (some ⟨1, 49, none⟩)]).run Tryd.prog w = .ok (.int .u8 22) w := by kernel_rfl
theorem rf_kind_trail (w : World) : ((ReflectliteType.abiMethod fun t => (fun a : Nat => Value.int IntKind.u8 (a : Int)) <$> Rtype.kind t) #[.pointer (some ⟨1, 42, none⟩)]).run Tryd.prog w = .ok (.int .u8 25) w := by kernel_rfl
theorem rf_partsP_trail (a : Addr) (w : World) : (ReflectliteValue.parts (.agg #[.pointer (some ⟨1, 49, none⟩), .pointer (some a), .int .u64 150])).run Tryd.prog w = .ok (some (49, a, 150)) w := by kernel_rfl
theorem rf_isNil_trail (a p : Addr) (W : World) (ha : W.cell? a = some (.pointer (some p))) :
    (ReflectliteValue.method (ReflectliteValue.valueError "reflectlite.Value.IsNil" 0) ReflectliteValue.isNil #[.agg #[.pointer (some ⟨1, 49, none⟩), .pointer (some a), .int .u64 150]]).run Tryd.prog W = .ok (.bool false) W := by
  rw [rlm]
  simp only [Sem.run_bind, rf_partsP_trail, Result.andThen]
  simp [ReflectliteValue.isNil, loadVar, isAgg, underlying, Tryd.underlying49, ha, Result.andThen]
theorem rf_elem_trail (w : World) : (ReflectliteType.method ReflectliteType.elem #[.agg #[.pointer (some ⟨1, 49, none⟩)]]).run Tryd.prog w = .ok (.iface 113 (.agg #[.pointer (some ⟨1, 42, none⟩)])) w := by kernel_rfl
theorem rf_implements_trail (w : World) : (ReflectliteType.relation "Implements" ReflectliteType.implements_ #[.agg #[.pointer (some ⟨1, 42, none⟩)], .iface 113 (.agg #[.pointer (some ⟨1, 24, none⟩)])]).run Tryd.prog w = .ok (.bool true) w := by kernel_rfl
theorem rf_typeOf_trail (v : Value) (w : World) : (ReflectliteType.typeOf #[.iface 42 v]).run Tryd.prog w = .ok (.iface 113 (.agg #[.pointer (some ⟨1, 42, none⟩)])) w := by kernel_rfl
theorem rf_assign_trail_num (w : World) : (ReflectliteType.relation "AssignableTo" ReflectliteType.assignableTo #[.agg #[.pointer (some ⟨1, 42, none⟩)], .iface 113 (.agg #[.pointer (some ⟨1, 33, none⟩)])]).run Tryd.prog w = .ok (.bool false) w := by kernel_rfl
theorem rf_assign_trail_spot (w : World) : (ReflectliteType.relation "AssignableTo" ReflectliteType.assignableTo #[.agg #[.pointer (some ⟨1, 42, none⟩)], .iface 113 (.agg #[.pointer (some ⟨1, 40, none⟩)])]).run Tryd.prog w = .ok (.bool false) w := by kernel_rfl
theorem rf_assign_trail_trail (w : World) : (ReflectliteType.relation "AssignableTo" ReflectliteType.assignableTo #[.agg #[.pointer (some ⟨1, 42, none⟩)], .iface 113 (.agg #[.pointer (some ⟨1, 42, none⟩)])]).run Tryd.prog w = .ok (.bool true) w := by kernel_rfl
theorem rf_assign_trail_note (w : World) : (ReflectliteType.relation "AssignableTo" ReflectliteType.assignableTo #[.agg #[.pointer (some ⟨1, 42, none⟩)], .iface 113 (.agg #[.pointer (some ⟨1, 43, none⟩)])]).run Tryd.prog w = .ok (.bool false) w := by kernel_rfl
theorem rf_assign_trail_all (w : World) : (ReflectliteType.relation "AssignableTo" ReflectliteType.assignableTo #[.agg #[.pointer (some ⟨1, 42, none⟩)], .iface 113 (.agg #[.pointer (some ⟨1, 45, none⟩)])]).run Tryd.prog w = .ok (.bool false) w := by kernel_rfl
theorem rf_valueOf_trail (n : Int) (s : ByteArray) (w : World) : (ReflectliteValue.unpack (.iface 42 (.agg #[.int .i64 n, .string s]))).run Tryd.prog w = .ok (.agg #[.pointer (some ⟨1, 42, none⟩), .pointer (some ⟨w.heap.size, 0, none⟩), .int .u64 153]) (w.alloc (.cells #[.int .i64 n, .string s] 42)) := by kernel_rfl
theorem rf_elemOf_trail (w : World) : (Rtype.elem? 49).run Tryd.prog w = .ok (some 42) w := by kernel_rfl
theorem rf_mk_trail (p : Addr) (w : World) : (ReflectliteValue.mk 42 p ReflectliteValue.flagAddr).run Tryd.prog w = .ok (.agg #[.pointer (some ⟨1, 42, none⟩), .pointer (some p), .int .u64 409]) w := by kernel_rfl
theorem rf_elemV_trail (a p : Addr) (W : World) (ha : W.cell? a = some (.pointer (some p))) :
    (ReflectliteValue.method (ReflectliteValue.valueError "reflectlite.Value.Elem" 0) ReflectliteValue.elem #[.agg #[.pointer (some ⟨1, 49, none⟩), .pointer (some a), .int .u64 150]]).run Tryd.prog W = .ok (.agg #[.pointer (some ⟨1, 42, none⟩), .pointer (some p), .int .u64 409]) W := by
  rw [rlm]
  simp only [Sem.run_bind, rf_partsP_trail, Result.andThen]
  simp [ReflectliteValue.elem, loadVar, isAgg, underlying, Tryd.underlying49, ha, Result.andThen, rf_elemOf_trail, rf_mk_trail]
theorem rf_partsA_trail (a : Addr) (w : World) : (ReflectliteValue.parts (.agg #[.pointer (some ⟨1, 42, none⟩), .pointer (some a), .int .u64 409])).run Tryd.prog w = .ok (some (42, a, 409)) w := by kernel_rfl
theorem rf_parts_trail (a : Addr) (w : World) : (ReflectliteValue.parts (.agg #[.pointer (some ⟨1, 42, none⟩), .pointer (some a), .int .u64 153])).run Tryd.prog w = .ok (some (42, a, 153)) w := by kernel_rfl
theorem rf_direct_trail (w : World) : (Rtype.directlyAssignable 42 42).run Tryd.prog w = .ok true w := by kernel_rfl
theorem rf_set_trail (ta b : Nat) (zs : List Value) (n : Int) (s : ByteArray) (W : World) (hb : Blk W b 42 [.int .i64 n, .string s]) (ht : Blk W ta 42 zs) (hl : zs.length = 2) :
    (ReflectliteValue.set #[.agg #[.pointer (some ⟨1, 42, none⟩), .pointer (some ⟨ta, 0, none⟩), .int .u64 409], .agg #[.pointer (some ⟨1, 42, none⟩), .pointer (some ⟨b, 0, none⟩), .int .u64 153]]).run Tryd.prog W = .ok (.tuple #[]) (W.setRow ta [.int .i64 n, .string s].toArray) := by
  rw [rls]
  simp only [Sem.run_bind, rf_partsA_trail, rf_parts_trail, Result.andThen]
  have h1 : (loadVar 42 ⟨b, 0, none⟩).run Tryd.prog W = .ok (.agg #[.int .i64 n, .string s]) W := run_loadVar_row W b 42 42 #[.int .i64 n, .string s] (0, 0) _ (by exact hb) Tryd.underlying42 rfl (by kernel_rfl)
  have h2 : (storeVar 42 ⟨ta, 0, none⟩ (.agg #[.int .i64 n, .string s])).run Tryd.prog W = .ok () (W.setRow ta [.int .i64 n, .string s].toArray) := by
    have h3 := run_storeVar_at (P := Tryd.prog) 42 0 [.int .i64 n, .string s] ht (by rw [hl]; exact Nat.le_refl 2) (by kernel_rfl) (fun u hu => by simp only [List.mem_cons, List.not_mem_nil, or_false] at hu; rcases hu with rfl | rfl <;> rfl)
    rw [splice_all _ _ (by rw [hl]; rfl)] at h3
    exact h3
  simp [ReflectliteValue.flagAddr, h1, h2, Result.andThen, rf_direct_trail]
set_option maxRecDepth 100000 in
theorem rf_valueOfP_note (t : Addr) (w : World) : (ReflectliteValue.unpack (.iface 50 (.pointer (some t)))).run Tryd.prog w = .ok (.agg #[.pointer (some ⟨1, 50, none⟩), .pointer (some ⟨w.heap.size, 0, none⟩), .int .u64 150]) (w.alloc (.cells #[.pointer (some t)] 50)) := by kernel_rfl
set_option maxRecDepth 100000 in
theorem rf_type_note (a : Addr) (w : World) : (ReflectliteValue.methodAny (ReflectliteValue.valueError "reflectlite.Value.Type" 0) (fun t _ _ _ => ReflectliteType.toType t) #[.agg #[.pointer (some ⟨1, 50, none⟩), .pointer (some a), .int .u64 150]]).run Tryd.prog w = .ok (.iface 113 (.agg #[.pointer (some ⟨1, 50, none⟩)])) w := by kernel_rfl
theorem rf_kindP_note (w : World) : ((ReflectliteType.abiMethod fun t => (fun a : Nat => Value.int IntKind.u8 (a : Int)) <$> Rtype.kind t) #[.pointer (some ⟨1, 50, none⟩)]).run Tryd.prog w = .ok (.int .u8 22) w := by kernel_rfl
theorem rf_kind_note (w : World) : ((ReflectliteType.abiMethod fun t => (fun a : Nat => Value.int IntKind.u8 (a : Int)) <$> Rtype.kind t) #[.pointer (some ⟨1, 43, none⟩)]).run Tryd.prog w = .ok (.int .u8 22) w := by kernel_rfl
theorem rf_partsP_note (a : Addr) (w : World) : (ReflectliteValue.parts (.agg #[.pointer (some ⟨1, 50, none⟩), .pointer (some a), .int .u64 150])).run Tryd.prog w = .ok (some (50, a, 150)) w := by kernel_rfl
theorem rf_isNil_note (a p : Addr) (W : World) (ha : W.cell? a = some (.pointer (some p))) :
    (ReflectliteValue.method (ReflectliteValue.valueError "reflectlite.Value.IsNil" 0) ReflectliteValue.isNil #[.agg #[.pointer (some ⟨1, 50, none⟩), .pointer (some a), .int .u64 150]]).run Tryd.prog W = .ok (.bool false) W := by
  rw [rlm]
  simp only [Sem.run_bind, rf_partsP_note, Result.andThen]
  simp [ReflectliteValue.isNil, loadVar, isAgg, underlying, Tryd.underlying50, ha, Result.andThen]
theorem rf_elem_note (w : World) : (ReflectliteType.method ReflectliteType.elem #[.agg #[.pointer (some ⟨1, 50, none⟩)]]).run Tryd.prog w = .ok (.iface 113 (.agg #[.pointer (some ⟨1, 43, none⟩)])) w := by kernel_rfl
theorem rf_implements_note (w : World) : (ReflectliteType.relation "Implements" ReflectliteType.implements_ #[.agg #[.pointer (some ⟨1, 43, none⟩)], .iface 113 (.agg #[.pointer (some ⟨1, 24, none⟩)])]).run Tryd.prog w = .ok (.bool true) w := by kernel_rfl
theorem rf_typeOf_note (v : Value) (w : World) : (ReflectliteType.typeOf #[.iface 43 v]).run Tryd.prog w = .ok (.iface 113 (.agg #[.pointer (some ⟨1, 43, none⟩)])) w := by kernel_rfl
theorem rf_assign_note_num (w : World) : (ReflectliteType.relation "AssignableTo" ReflectliteType.assignableTo #[.agg #[.pointer (some ⟨1, 43, none⟩)], .iface 113 (.agg #[.pointer (some ⟨1, 33, none⟩)])]).run Tryd.prog w = .ok (.bool false) w := by kernel_rfl
theorem rf_assign_note_spot (w : World) : (ReflectliteType.relation "AssignableTo" ReflectliteType.assignableTo #[.agg #[.pointer (some ⟨1, 43, none⟩)], .iface 113 (.agg #[.pointer (some ⟨1, 40, none⟩)])]).run Tryd.prog w = .ok (.bool false) w := by kernel_rfl
theorem rf_assign_note_trail (w : World) : (ReflectliteType.relation "AssignableTo" ReflectliteType.assignableTo #[.agg #[.pointer (some ⟨1, 43, none⟩)], .iface 113 (.agg #[.pointer (some ⟨1, 42, none⟩)])]).run Tryd.prog w = .ok (.bool false) w := by kernel_rfl
theorem rf_assign_note_note (w : World) : (ReflectliteType.relation "AssignableTo" ReflectliteType.assignableTo #[.agg #[.pointer (some ⟨1, 43, none⟩)], .iface 113 (.agg #[.pointer (some ⟨1, 43, none⟩)])]).run Tryd.prog w = .ok (.bool true) w := by kernel_rfl
theorem rf_assign_note_all (w : World) : (ReflectliteType.relation "AssignableTo" ReflectliteType.assignableTo #[.agg #[.pointer (some ⟨1, 43, none⟩)], .iface 113 (.agg #[.pointer (some ⟨1, 45, none⟩)])]).run Tryd.prog w = .ok (.bool false) w := by kernel_rfl
theorem rf_valueOf_note (p : Option Addr) (w : World) : (ReflectliteValue.unpack (.iface 43 (.pointer p))).run Tryd.prog w = .ok (.agg #[.pointer (some ⟨1, 43, none⟩), .pointer (some ⟨w.heap.size, 0, none⟩), .int .u64 150]) (w.alloc (.cells #[.pointer p] 43)) := by kernel_rfl
theorem rf_elemOf_note (w : World) : (Rtype.elem? 50).run Tryd.prog w = .ok (some 43) w := by kernel_rfl
theorem rf_mk_note (p : Addr) (w : World) : (ReflectliteValue.mk 43 p ReflectliteValue.flagAddr).run Tryd.prog w = .ok (.agg #[.pointer (some ⟨1, 43, none⟩), .pointer (some p), .int .u64 406]) w := by kernel_rfl
theorem rf_elemV_note (a p : Addr) (W : World) (ha : W.cell? a = some (.pointer (some p))) :
    (ReflectliteValue.method (ReflectliteValue.valueError "reflectlite.Value.Elem" 0) ReflectliteValue.elem #[.agg #[.pointer (some ⟨1, 50, none⟩), .pointer (some a), .int .u64 150]]).run Tryd.prog W = .ok (.agg #[.pointer (some ⟨1, 43, none⟩), .pointer (some p), .int .u64 406]) W := by
  rw [rlm]
  simp only [Sem.run_bind, rf_partsP_note, Result.andThen]
  simp [ReflectliteValue.elem, loadVar, isAgg, underlying, Tryd.underlying50, ha, Result.andThen, rf_elemOf_note, rf_mk_note]
theorem rf_partsA_note (a : Addr) (w : World) : (ReflectliteValue.parts (.agg #[.pointer (some ⟨1, 43, none⟩), .pointer (some a), .int .u64 406])).run Tryd.prog w = .ok (some (43, a, 406)) w := by kernel_rfl
theorem rf_parts_note (a : Addr) (w : World) : (ReflectliteValue.parts (.agg #[.pointer (some ⟨1, 43, none⟩), .pointer (some a), .int .u64 150])).run Tryd.prog w = .ok (some (43, a, 150)) w := by kernel_rfl
theorem rf_direct_note (w : World) : (Rtype.directlyAssignable 43 43).run Tryd.prog w = .ok true w := by kernel_rfl
theorem rf_set_note (ta b : Nat) (zs : List Value) (p : Option Addr) (W : World) (hb : Blk W b 43 [.pointer p]) (ht : Blk W ta 43 zs) (hl : zs.length = 1) :
    (ReflectliteValue.set #[.agg #[.pointer (some ⟨1, 43, none⟩), .pointer (some ⟨ta, 0, none⟩), .int .u64 406], .agg #[.pointer (some ⟨1, 43, none⟩), .pointer (some ⟨b, 0, none⟩), .int .u64 150]]).run Tryd.prog W = .ok (.tuple #[]) (W.setCell ⟨ta, 0, none⟩ (.pointer p)) := by
  rw [rls]
  simp only [Sem.run_bind, rf_partsA_note, rf_parts_note, Result.andThen]
  have h1 : (loadVar 43 ⟨b, 0, none⟩).run Tryd.prog W = .ok (.pointer p) W := by
    have c0 : W.cell? ⟨b, 0, none⟩ = some (.pointer p) := hb.cell 0
    simp [loadVar, isAgg, underlying, Tryd.underlying43, c0, Result.andThen]
  have h2 : (storeVar 43 ⟨ta, 0, none⟩ (.pointer p)).run Tryd.prog W = .ok () (W.setCell ⟨ta, 0, none⟩ (.pointer p)) := by
    obtain ⟨z, rfl⟩ : ∃ z, zs = [z] := List.length_eq_one_iff.1 hl
    have c0 : W.cell? ⟨ta, 0, none⟩ = some z := ht.cell 0
    have f0 := ht.frozen 0
    have hz : (sizeOf 43).run Tryd.prog W = .ok 1 W := by kernel_rfl
    simp [storeVar, Value.cells, storeCells, Addr.add]
    rw [run_store Tryd.prog W ⟨ta, 0, none⟩ _ _ (by rfl)]
    simp [c0, f0]
  simp [ReflectliteValue.flagAddr, h1, h2, Result.andThen, rf_direct_note]
set_option maxRecDepth 100000 in
theorem rf_valueOfP_all (t : Addr) (w : World) : (ReflectliteValue.unpack (.iface 51 (.pointer (some t)))).run Tryd.prog w = .ok (.agg #[.pointer (some ⟨1, 51, none⟩), .pointer (some ⟨w.heap.size, 0, none⟩), .int .u64 150]) (w.alloc (.cells #[.pointer (some t)] 51)) := by kernel_rfl
set_option maxRecDepth 100000 in
theorem rf_type_all (a : Addr) (w : World) : (ReflectliteValue.methodAny (ReflectliteValue.valueError "reflectlite.Value.Type" 0) (fun t _ _ _ => ReflectliteType.toType t) #[.agg #[.pointer (some ⟨1, 51, none⟩), .pointer (some a), .int .u64 150]]).run Tryd.prog w = .ok (.iface 113 (.agg #[.pointer (some ⟨1, 51, none⟩)])) w := by kernel_rfl
theorem rf_kindP_all (w : World) : ((ReflectliteType.abiMethod fun t => (fun a : Nat => Value.int IntKind.u8 (a : Int)) <$> Rtype.kind t) #[.pointer (some ⟨1, 51, none⟩)]).run Tryd.prog w = .ok (.int .u8 22) w := by kernel_rfl
theorem rf_kind_all (w : World) : ((ReflectliteType.abiMethod fun t => (fun a : Nat => Value.int IntKind.u8 (a : Int)) <$> Rtype.kind t) #[.pointer (some ⟨1, 45, none⟩)]).run Tryd.prog w = .ok (.int .u8 23) w := by kernel_rfl
theorem rf_partsP_all (a : Addr) (w : World) : (ReflectliteValue.parts (.agg #[.pointer (some ⟨1, 51, none⟩), .pointer (some a), .int .u64 150])).run Tryd.prog w = .ok (some (51, a, 150)) w := by kernel_rfl
theorem rf_isNil_all (a p : Addr) (W : World) (ha : W.cell? a = some (.pointer (some p))) :
    (ReflectliteValue.method (ReflectliteValue.valueError "reflectlite.Value.IsNil" 0) ReflectliteValue.isNil #[.agg #[.pointer (some ⟨1, 51, none⟩), .pointer (some a), .int .u64 150]]).run Tryd.prog W = .ok (.bool false) W := by
  rw [rlm]
  simp only [Sem.run_bind, rf_partsP_all, Result.andThen]
  simp [ReflectliteValue.isNil, loadVar, isAgg, underlying, Tryd.underlying51, ha, Result.andThen]
theorem rf_elem_all (w : World) : (ReflectliteType.method ReflectliteType.elem #[.agg #[.pointer (some ⟨1, 51, none⟩)]]).run Tryd.prog w = .ok (.iface 113 (.agg #[.pointer (some ⟨1, 45, none⟩)])) w := by kernel_rfl
theorem rf_implements_all (w : World) : (ReflectliteType.relation "Implements" ReflectliteType.implements_ #[.agg #[.pointer (some ⟨1, 45, none⟩)], .iface 113 (.agg #[.pointer (some ⟨1, 24, none⟩)])]).run Tryd.prog w = .ok (.bool true) w := by kernel_rfl
theorem rf_typeOf_all (v : Value) (w : World) : (ReflectliteType.typeOf #[.iface 45 v]).run Tryd.prog w = .ok (.iface 113 (.agg #[.pointer (some ⟨1, 45, none⟩)])) w := by kernel_rfl
theorem rf_assign_all_num (w : World) : (ReflectliteType.relation "AssignableTo" ReflectliteType.assignableTo #[.agg #[.pointer (some ⟨1, 45, none⟩)], .iface 113 (.agg #[.pointer (some ⟨1, 33, none⟩)])]).run Tryd.prog w = .ok (.bool false) w := by kernel_rfl
theorem rf_assign_all_spot (w : World) : (ReflectliteType.relation "AssignableTo" ReflectliteType.assignableTo #[.agg #[.pointer (some ⟨1, 45, none⟩)], .iface 113 (.agg #[.pointer (some ⟨1, 40, none⟩)])]).run Tryd.prog w = .ok (.bool false) w := by kernel_rfl
theorem rf_assign_all_trail (w : World) : (ReflectliteType.relation "AssignableTo" ReflectliteType.assignableTo #[.agg #[.pointer (some ⟨1, 45, none⟩)], .iface 113 (.agg #[.pointer (some ⟨1, 42, none⟩)])]).run Tryd.prog w = .ok (.bool false) w := by kernel_rfl
theorem rf_assign_all_note (w : World) : (ReflectliteType.relation "AssignableTo" ReflectliteType.assignableTo #[.agg #[.pointer (some ⟨1, 45, none⟩)], .iface 113 (.agg #[.pointer (some ⟨1, 43, none⟩)])]).run Tryd.prog w = .ok (.bool false) w := by kernel_rfl
theorem rf_assign_all_all (w : World) : (ReflectliteType.relation "AssignableTo" ReflectliteType.assignableTo #[.agg #[.pointer (some ⟨1, 45, none⟩)], .iface 113 (.agg #[.pointer (some ⟨1, 45, none⟩)])]).run Tryd.prog w = .ok (.bool true) w := by kernel_rfl
theorem rf_valueOf_all (A : Option Addr) (n c : Nat) (w : World) : (ReflectliteValue.unpack (.iface 45 (.slice A n c))).run Tryd.prog w = .ok (.agg #[.pointer (some ⟨1, 45, none⟩), .pointer (some ⟨w.heap.size, 0, none⟩), .int .u64 151]) (w.alloc (.cells #[.slice A n c] 45)) := by kernel_rfl
theorem rf_elemOf_all (w : World) : (Rtype.elem? 51).run Tryd.prog w = .ok (some 45) w := by kernel_rfl
theorem rf_mk_all (p : Addr) (w : World) : (ReflectliteValue.mk 45 p ReflectliteValue.flagAddr).run Tryd.prog w = .ok (.agg #[.pointer (some ⟨1, 45, none⟩), .pointer (some p), .int .u64 407]) w := by kernel_rfl
theorem rf_elemV_all (a p : Addr) (W : World) (ha : W.cell? a = some (.pointer (some p))) :
    (ReflectliteValue.method (ReflectliteValue.valueError "reflectlite.Value.Elem" 0) ReflectliteValue.elem #[.agg #[.pointer (some ⟨1, 51, none⟩), .pointer (some a), .int .u64 150]]).run Tryd.prog W = .ok (.agg #[.pointer (some ⟨1, 45, none⟩), .pointer (some p), .int .u64 407]) W := by
  rw [rlm]
  simp only [Sem.run_bind, rf_partsP_all, Result.andThen]
  simp [ReflectliteValue.elem, loadVar, isAgg, underlying, Tryd.underlying51, ha, Result.andThen, rf_elemOf_all, rf_mk_all]
theorem rf_partsA_all (a : Addr) (w : World) : (ReflectliteValue.parts (.agg #[.pointer (some ⟨1, 45, none⟩), .pointer (some a), .int .u64 407])).run Tryd.prog w = .ok (some (45, a, 407)) w := by kernel_rfl
theorem rf_parts_all (a : Addr) (w : World) : (ReflectliteValue.parts (.agg #[.pointer (some ⟨1, 45, none⟩), .pointer (some a), .int .u64 151])).run Tryd.prog w = .ok (some (45, a, 151)) w := by kernel_rfl
theorem rf_direct_all (w : World) : (Rtype.directlyAssignable 45 45).run Tryd.prog w = .ok true w := by kernel_rfl
theorem rf_set_all (ta b : Nat) (zs : List Value) (A : Option Addr) (n c : Nat) (W : World) (hb : Blk W b 45 [.slice A n c]) (ht : Blk W ta 45 zs) (hl : zs.length = 1) :
    (ReflectliteValue.set #[.agg #[.pointer (some ⟨1, 45, none⟩), .pointer (some ⟨ta, 0, none⟩), .int .u64 407], .agg #[.pointer (some ⟨1, 45, none⟩), .pointer (some ⟨b, 0, none⟩), .int .u64 151]]).run Tryd.prog W = .ok (.tuple #[]) (W.setCell ⟨ta, 0, none⟩ (.slice A n c)) := by
  rw [rls]
  simp only [Sem.run_bind, rf_partsA_all, rf_parts_all, Result.andThen]
  have h1 : (loadVar 45 ⟨b, 0, none⟩).run Tryd.prog W = .ok (.slice A n c) W := by
    have c0 : W.cell? ⟨b, 0, none⟩ = some (.slice A n c) := hb.cell 0
    simp [loadVar, isAgg, underlying, Tryd.underlying45, c0, Result.andThen]
  have h2 : (storeVar 45 ⟨ta, 0, none⟩ (.slice A n c)).run Tryd.prog W = .ok () (W.setCell ⟨ta, 0, none⟩ (.slice A n c)) := by
    obtain ⟨z, rfl⟩ : ∃ z, zs = [z] := List.length_eq_one_iff.1 hl
    have c0 : W.cell? ⟨ta, 0, none⟩ = some z := ht.cell 0
    have f0 := ht.frozen 0
    have hz : (sizeOf 45).run Tryd.prog W = .ok 1 W := by kernel_rfl
    simp [storeVar, Value.cells, storeCells, Addr.add]
    rw [run_store Tryd.prog W ⟨ta, 0, none⟩ _ _ (by rfl)]
    simp [c0, f0]
  simp [ReflectliteValue.flagAddr, h1, h2, Result.andThen, rf_direct_all]
theorem as_num_asi (v : Value) (w : World) : (Instr.typeAssert (.iface 33 v) 24 121 true).run Tryd.prog w = .ok (.tuple #[.nilIface, .bool false]) w := run_typeAssert_lacksB Tryd.underlying121 (by kernel_rfl) (by kernel_rfl) v 24 w
theorem as_spot_asi (v : Value) (w : World) : (Instr.typeAssert (.iface 40 v) 24 121 true).run Tryd.prog w = .ok (.tuple #[.nilIface, .bool false]) w := run_typeAssert_lacksB Tryd.underlying121 (by kernel_rfl) (by kernel_rfl) v 24 w
theorem as_trail_asi (v : Value) (w : World) : (Instr.typeAssert (.iface 42 v) 24 121 true).run Tryd.prog w = .ok (.tuple #[.nilIface, .bool false]) w := run_typeAssert_lacksB Tryd.underlying121 (by kernel_rfl) (by kernel_rfl) v 24 w
theorem as_note_asi (v : Value) (w : World) : (Instr.typeAssert (.iface 43 v) 24 121 true).run Tryd.prog w = .ok (.tuple #[.nilIface, .bool false]) w := run_typeAssert_lacksB Tryd.underlying121 (by kernel_rfl) (by kernel_rfl) v 24 w
theorem as_all_asi (v : Value) (w : World) : (Instr.typeAssert (.iface 45 v) 24 121 true).run Tryd.prog w = .ok (.tuple #[.nilIface, .bool false]) w := run_typeAssert_lacksB Tryd.underlying121 (by kernel_rfl) (by kernel_rfl) v 24 w
end Go.Proofs.YtinonjfnhedlpaaDoor
