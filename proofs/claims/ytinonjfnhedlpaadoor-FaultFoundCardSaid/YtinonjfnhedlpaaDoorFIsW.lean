/-
  WALKS: errors.is, errors.Is of an error and a number.
-/
import Derived.Test.YtinonjfnhedlpaaDoorFCollK
import Derived.LaidEql
import Derived.Stop.Asserts
set_option linter.unusedSimpArgs false
namespace Go.Fault
open Go Go.RowKit Go.Aff
/-- Is the number in the error? -/
def inT (n : Int) : VT → Bool
  | .num k => k == n
  | .spot k _ => k == n
  | .trail k _ => k == n
  | .note _ _ e => inT n e
  | .all _ _ l => (l.map fun x => inT n x).any id
  | _ => false
theorem inT_erase (n : Int) (t : VT) : inT n t.erase = inT n t := by
  induction t using VT.ind with
  | h5 b wd e ih => simp [VT.erase, inT, ih]
  | h6 A c l ih =>
    simp only [VT.erase, inT, List.map_map]
    congr 1
    exact List.map_congr_left fun x hx => ih x hx
  | _ => simp [VT.erase]
def isNum (n : Int) : VT → Bool
  | .num k => k == n
  | _ => false
/-- It is in the error if it is among all that is in it. -/
theorem inT_items (n : Int) (t : VT) : ∀ d, (t.items d).any (fun p => isNum n p.2) = inT n t := by
  induction t using VT.ind with
  | h5 b wd e ih =>
    intro d
    cases h : e.isNil
    · simp only [VT.items, h, inT, List.any_cons, isNum, Bool.false_or]
      exact ih (d + 1)
    · cases e <;> simp [VT.isNil] at h
      simp [VT.items, VT.isNil, isNum, inT]
  | h6 A c l ih =>
    intro d
    simp only [VT.items, List.any_cons, isNum, Bool.false_or, inT]
    induction l with
    | nil => rfl
    | cons x l ihl =>
      rw [List.map_cons, List.flatten_cons, List.any_append, List.map_cons, List.any_cons]
      exact congr (congrArg _ (ih x (List.mem_cons_self ..) (d + 1))) (ihl fun y hy => ih y (List.mem_cons_of_mem _ hy))
  | _ => intro d; simp [VT.items, isNum, inT]
end Go.Fault
namespace Go.Proofs.YtinonjfnhedlpaaDoor
open Go Go.RowKit Go.Aff Go.Fault
theorem eql_num (k n : Int) (w : World) : (binOp .eql 24 (.iface 33 (.int .i64 k)) (.iface 33 (.int .i64 n))).run Tryd.prog w = .ok (.bool (k == n)) w := by
  obtain ⟨i, hi, hcmp⟩ := Option.map_eq_some_iff.1 (show (Tryd.prog.info? 33).map (·.comparable) = some true by kernel_rfl)
  have h : ∀ d : Nat, (Op.equalIn (d + 2) 24 (.iface 33 (.int .i64 k)) (.iface 33 (.int .i64 n))).run Tryd.prog w = .ok (k == n) w := fun d => by
    simp [Op.equalIn, run_underlying Tryd.underlying24, run_underlying Tryd.underlying33, typeInfo, hi, hcmp]
  simp only [binOp]
  simp [Op.equal, Op.maxDepth, h 9998]
theorem szI (a : Int) : 0 < SizeOf.sizeOf a := match a with
  | .ofNat n => (show 0 < 1 + SizeOf.sizeOf n by omega)
  | .negSucc n => (show 0 < 1 + SizeOf.sizeOf n by omega)
theorem szB (s : ByteArray) : 0 < SizeOf.sizeOf s := match s with
  | ⟨d⟩ => (show 0 < 1 + SizeOf.sizeOf d by omega)
/-- While a list's errors are asked. -/
structure AnyInv (wr w2 : World) (n : Int) (l : List VT) (A : Option Addr) (m j : Nat) : Prop where
  keep : Keeps (fun _ => False) wr w2
  row : Rd w2 A m (l.map vv)
  none_ : ∀ q x, q < j → l[q]? = some x → inT n x = false
structure IsInv (w wr : World) (n : Int) (t t' : VT) (k : Nat) (D : Nat → Prop) : Prop where
  le : SizeOf.sizeOf t' ≤ k + 1
  same : inT n t' = inT n t
  at_ : At D wr t'
  keep : Keeps (fun _ => False) w wr
set_option maxHeartbeats 4000000 in
set_option maxRecDepth 100000 in
theorem is_any (k : Nat) : ∀ (t : VT) (n : Int) (w : World) (D : Nat → Prop), SizeOf.sizeOf t ≤ k → At D w t →
    Calls Tryd.prog 22 #[vv t, .iface 33 (.int .i64 n), .bool true] w fun e w' => e = .returned (.bool (inT n t)) ∧ Keeps (fun _ => False) w w' := by
  induction k with
  | zero => intro t n w D hs; exact absurd hs (by cases t <;> simp)
  | succ k ih =>
    intro t n w D hs hat
    have HIH := Lib.hid ih
    have HI0 : Hid (IsInv w w n t t k D) := Lib.hid ⟨hs, rfl, hat, Keeps.refl _ _⟩
    clear ih hs hat
    obtain ⟨v0, hv0⟩ : ∃ v0, v0 = vv t := ⟨_, rfl⟩
    rw [← hv0]
    have HV0 := Lib.hid hv0
    clear hv0
    go_enter Tryd.func22, Tryd.ntmps22
    go_wp2
    go_loopg [0] (SizeOf.sizeOf t) (fun gk x wr => ∃ t', x = vv t' ∧ gk = SizeOf.sizeOf t' ∧ Hid (IsInv w wr n t t' k D))
    case atStart => exact ⟨t, HV0.out, rfl, HI0⟩
    case round =>
      obtain ⟨t', rfl, hgk, HI⟩ := hrel
      have HGK := Lib.hid hgk
      clear hgk HI0
      cases t' with
      | nil =>
        have x1 := as_nil_is
        have x2 := as_nil_unw
        have x3 := as_nil_unws
        have xe := run_eql_iface_nil_left (P := Tryd.prog) (w := wr) 33 (.int .i64 n) Tryd.underlying24
        simp only [vv]
        go_wp2
        go_ret
        exact ⟨by have e1 := HI.out.same; simp only [inT] at e1; rw [← e1]; rfl, HI.out.keep⟩
      | num j =>
        have x1 := as_num_is
        have x2 := as_num_unw
        have x3 := as_num_unws
        have xe := eql_num j n
        simp only [vv]
        go_wp2
        · rename_i hjn
          go_ret
          exact ⟨by have e1 := HI.out.same; simp only [inT] at e1; rw [← e1, hjn]; rfl, HI.out.keep⟩
        · rename_i hjn
          go_ret
          exact ⟨by have e1 := HI.out.same; simp only [inT] at e1; rw [← e1, hjn]; rfl, HI.out.keep⟩
      | spot j a =>
        have x1 := as_spot_is
        have x2 := as_spot_unw
        have x3 := as_spot_unws
        have xe := run_eql_iface_types (P := Tryd.prog) 40 33 (.agg #[.int .i64 j, .int .i64 a]) (.int .i64 n) Tryd.underlying24 (by decide)
        simp only [vv]
        go_wp2
        go_roundg (SizeOf.sizeOf (VT.num j))
        case measure =>
          rw [HGK.out]
          have : 0 < SizeOf.sizeOf a := szI a
          simp
          omega
        case rel => exact ⟨.num j, rfl, rfl, Lib.hid ⟨by have := HI.out.le; simp at this ⊢; omega, by rw [← HI.out.same]; simp only [inT], by simp [At], HI.out.keep.alloc _⟩⟩
      | trail j s =>
        have x1 := as_trail_is
        have x2 := as_trail_unw
        have x3 := as_trail_unws
        have xe := run_eql_iface_types (P := Tryd.prog) 42 33 (.agg #[.int .i64 j, .string s]) (.int .i64 n) Tryd.underlying24 (by decide)
        simp only [vv]
        go_wp2
        go_roundg (SizeOf.sizeOf (VT.num j))
        case measure =>
          rw [HGK.out]
          have : 0 < SizeOf.sizeOf s := szB s
          simp
          omega
        case rel => exact ⟨.num j, rfl, rfl, Lib.hid ⟨by have := HI.out.le; simp at this ⊢; omega, by rw [← HI.out.same]; simp only [inT], by simp [At], HI.out.keep.alloc _⟩⟩
      | gone =>
        have x1 := as_note_is
        have x2 := as_note_unw
        have x3 := as_note_unws
        have xe := run_eql_iface_types (P := Tryd.prog) 43 33 (.pointer none) (.int .i64 n) Tryd.underlying24 (by decide)
        simp only [vv]
        go_wp2
        go_ret
        exact ⟨by have e1 := HI.out.same; simp only [inT] at e1; rw [← e1]; rfl, HI.out.keep⟩
      | note b wd er =>
        have x1 := as_note_is
        have x2 := as_note_unw
        have x3 := as_note_unws
        have xe := run_eql_iface_types (P := Tryd.prog) 43 33 (.pointer (some ⟨b, 0, none⟩)) (.int .i64 n) Tryd.underlying24 (by decide)
        simp only [vv]
        have hat := HI.out.at_
        simp only [At] at hat
        obtain ⟨hD, hblk, hate⟩ := hat
        have c1 := hblk.cell 1
        cases hni : er.isNil with
        | true =>
          obtain rfl : er = .nil := by cases er <;> simp [VT.isNil] at hni ⊢
          have HC1 : Hid (wr.cell? ⟨b, 1, none⟩ = some .nilIface) := Lib.hid c1
          clear c1 hblk hate
          go_wp2_with (go_at_call 34; refine (noteUnwrap_any _ b .nilIface HC1.out).mono ?_; rintro e w2 ⟨rfl, hw2⟩; subst hw2)
          go_ret
          exact ⟨by have e1 := HI.out.same; simp only [inT] at e1; rw [← e1]; rfl, HI.out.keep⟩
        | false =>
          obtain ⟨T0, xv, hx0⟩ := vv_iface hni
          have HC1 : Hid (wr.cell? ⟨b, 1, none⟩ = some (.iface T0 xv)) := Lib.hid (by rw [← hx0]; exact c1)
          have HX0 := Lib.hid hx0
          have HAE := Lib.hid hate
          clear c1 hblk hx0 hate
          go_wp2_with (go_at_call 34; refine (noteUnwrap_any _ b (.iface T0 xv) HC1.out).mono ?_; rintro e w2 ⟨rfl, hw2⟩; subst hw2)
          go_roundg (SizeOf.sizeOf er)
          case measure => rw [HGK.out]; simp; omega
          case rel => exact ⟨er, HX0.out.symm, rfl, Lib.hid ⟨by have := HI.out.le; simp at this ⊢; omega, by rw [← HI.out.same]; simp only [inT], HAE.out, HI.out.keep⟩⟩
      | all A c l =>
        have x1 := as_all_is
        have x2 := as_all_unw
        have x3 := as_all_unws
        have xe := run_eql_iface_types (P := Tryd.prog) 45 33 (.slice A l.length c) (.int .i64 n) Tryd.underlying24 (by decide)
        simp only [vv]
        have hat := HI.out.at_
        simp only [At] at hat
        obtain ⟨hlen, how, hD, hatx⟩ := hat
        obtain ⟨m, hmm⟩ : ∃ m, m = l.length := ⟨_, rfl⟩
        have mU : ∀ (v : Value) (w : World), (Go.method 253 45 v "Unwrap").run Tryd.prog w = .ok (64, v) w := fun v w => by kernel_rfl
        have HUW : Hid (∀ W, Keeps (fun _ => False) wr W → Calls Tryd.prog 64 #[.slice A m c] W fun e w' => ∃ A' c', e = .returned (.slice A' m c') ∧ Mine W w' 24 A' m c' (l.map vv)) := Lib.hid fun W hW => by
          rw [hmm]
          exact allUnwrap_any W A l.length c _ ((Rd.of_own how).keep hW (no_outF _ _)) (vv_all l) (by omega)
        have HAX : Hid (∀ x, x ∈ l → At D wr x ∧ SizeOf.sizeOf x ≤ k) := Lib.hid fun x hx => ⟨hatx x hx, by have h1 := HI.out.le; have h2 := VT.size_all (A := A) (c := c) hx; omega⟩
        have HMM := Lib.hid hmm
        have hlen2 : m ≤ 1048576 := by omega
        rw [← hmm] at xe ⊢
        clear how hD hatx hlen hmm
        go_upto_block 3 with (go_at_call 64; refine (HUW.out _ (by first | exact Keeps.refl _ _ | exact (Keeps.refl _ _).alloc _)).mono ?_; rintro e w2 ⟨A2, c2, rfl, hm2⟩; have HM2 := Lib.hid hm2; clear hm2)
        have HA0 : Hid (AnyInv wr w2 n l A2 m 0) := Lib.hid ⟨HM2.out.2.1, Rd.of_own HM2.out.1, fun q x hq => by omega⟩
        obtain ⟨w0r, rfl⟩ : ∃ x, x = wr := ⟨_, rfl⟩
        go_wp2
        go_loopg [45] m (fun g2 i w3 => ∃ j, j ≤ m ∧ i = .int .i64 j ∧ g2 = m - j ∧ Hid (AnyInv w0r w3 n l A2 m j))
        case atStart => exact ⟨0, by omega, rfl, rfl, HA0⟩
        case round =>
          obtain ⟨j, hj, rfl, hg2, HA⟩ := hrel
          have HG2 := Lib.hid hg2
          clear hg2 HA0
          by_cases hlt : j < m
          · obtain ⟨x, hx⟩ : ∃ x, l[j]? = some x := ⟨_, List.getElem?_eq_getElem (by have := HMM.out; omega)⟩
            obtain ⟨g, o, hA, hcs⟩ := HA.out.row.2 (by omega)
            subst hA
            have hcl : wr.cell? ⟨g, o + j, none⟩ = some (vv x) := by rw [hcs j hlt, List.getElem?_map, hx]; rfl
            have HXL : Hid (l[j]? = some x) := Lib.hid hx
            have HR : Hid (Calls Tryd.prog 22 #[vv x, .iface 33 (.int .i64 n), .bool true] wr fun e w' => e = .returned (.bool (inT n x)) ∧ Keeps (fun _ => False) wr w') := Lib.hid (HIH.out x n wr D (HAX.out x (List.mem_of_getElem? hx)).2 ((HAX.out x (List.mem_of_getElem? hx)).1.keep HA.out.keep (fun _ _ h => h)))
            clear hx hcs
            cases hb : inT n x with
            | true =>
              rw [hb] at HR
              have HB := Lib.hid hb
              clear hb
              go_wp2_with (go_at_call 22; refine HR.out.mono ?_; rintro e w4 ⟨rfl, hk4⟩)
              go_ret
              refine ⟨?_, HI.out.keep.trans (HA.out.keep.trans hk4 (fun _ _ h => h)) (fun _ _ h => h)⟩
              have e1 := HI.out.same
              simp only [inT] at e1
              have e2 : (l.map fun x => inT n x).any id = true := List.any_eq_true.2 ⟨true, List.mem_map.2 ⟨x, List.mem_of_getElem? HXL.out, HB.out⟩, rfl⟩
              rw [← e1, e2]
              rfl
            | false =>
              rw [hb] at HR
              have HB := Lib.hid hb
              clear hb
              go_wp2_with (go_at_call 22; refine HR.out.mono ?_; rintro e w4 ⟨rfl, hk4⟩; have HK4 := Lib.hid hk4; clear hk4)
              go_roundg (m - (j + 1))
              case measure => rw [HG2.out]; omega
              case rel => exact ⟨j + 1, by omega, by go_num, rfl, Lib.hid ⟨HA.out.keep.trans HK4.out (fun _ _ h => h), HA.out.row.keep HK4.out (no_outF _ _), fun q y hq hy => by
                rcases Nat.lt_or_ge q j with h | h
                · exact HA.out.none_ q y h hy
                · obtain rfl : q = j := by omega
                  have h1 := HXL.out
                  rw [hy] at h1
                  injection h1 with h1
                  rw [h1]
                  exact HB.out⟩⟩
          · obtain rfl : j = m := by omega
            go_wp2
            go_ret
            refine ⟨?_, HI.out.keep.trans HA.out.keep (fun _ _ h => h)⟩
            have e1 := HI.out.same
            simp only [inT] at e1
            have e2 : (l.map fun x => inT n x).any id = false := List.any_eq_false.2 fun y hy => by
              obtain ⟨x, hx, rfl⟩ := List.mem_map.1 hy
              obtain ⟨q, hq⟩ := List.getElem?_of_mem hx
              have h1 := (List.getElem?_eq_some_iff.1 hq).1
              have h2 := HMM.out
              rw [HA.out.none_ q x (by omega) hq]
              simp
            rw [← e1, e2]
            rfl
theorem isTypeOf (v : Value) (w : World) : (Extern.ReflectliteType.typeOf #[.iface 33 v]).run Tryd.prog w = .ok (.iface 113 (.agg #[typeHandle Tryd.prog 33])) w := by kernel_rfl
theorem isComparable (w : World) : ((Extern.ReflectliteType.method fun t => do Extern.Rtype.noPackHeld "Comparable" t; pure (.bool (← typeInfo t).comparable)) #[.agg #[typeHandle Tryd.prog 33]]).run Tryd.prog w = .ok (.bool true) w := by kernel_rfl
theorem isMethodComparable (v : Value) (w : World) : (Go.method 253 113 v "Comparable").run Tryd.prog w = .ok (70, v) w := by kernel_rfl
set_option maxHeartbeats 4000000 in
set_option maxRecDepth 100000 in
theorem Is_any (t : VT) (n : Int) (w : World) (D : Nat → Prop) (hat : At D w t) :
    Calls Tryd.prog 10 #[vv t, .iface 33 (.int .i64 n)] w fun e w' => e = .returned (.bool (inT n t)) ∧ Keeps (fun _ => False) w w' := by
  cases ht : t.isNil with
  | true =>
    obtain rfl : t = .nil := by cases t <;> simp [VT.isNil] at ht ⊢
    have x1 := eqn_nil
    have x2 := run_eql_iface_nil_left (P := Tryd.prog) (w := w) 33 (.int .i64 n) Tryd.underlying24
    simp only [vv, inT]
    go_enter Tryd.func10, Tryd.ntmps10
    go_wp2
    go_ret
    exact ⟨rfl, Keeps.refl _ _⟩
  | false =>
    obtain ⟨T0, xv, hx0⟩ := vv_iface ht
    have HIS : Hid (∀ W, Keeps (fun _ => False) w W → Calls Tryd.prog 22 #[.iface T0 xv, .iface 33 (.int .i64 n), .bool true] W fun e w' => e = .returned (.bool (inT n t)) ∧ Keeps (fun _ => False) W w') := Lib.hid fun W hW => by
      rw [← hx0]
      exact is_any _ t n W D (Nat.le_refl _) (hat.keep hW (fun _ _ h => h))
    rw [hx0]
    clear hx0 hat
    have h8 := @run_callFunc_extern Tryd.prog 21 _ Extern.ReflectliteType.typeOf Tryd.func21 (by kernel_rfl) (by kernel_rfl) (by kernel_rfl) (by kernel_rfl)
    have h32 : ∀ w, (callFunc 70 #[.agg #[typeHandle Tryd.prog 33]]).run Tryd.prog w = .ok (.value (.bool true)) w := fun w => by
      rw [@run_callFunc_extern Tryd.prog 70 _ (Extern.ReflectliteType.method fun t => do Extern.Rtype.noPackHeld "Comparable" t; pure (.bool (← typeInfo t).comparable)) Tryd.func70 (by kernel_rfl) (by kernel_rfl) (by kernel_rfl) (by kernel_rfl), isComparable]
      rfl
    have tT := isTypeOf
    have mR := isMethodComparable
    go_enter Tryd.func10, Tryd.ntmps10
    go_wp2_with (go_at_call 22; refine (HIS.out _ (by first | exact Keeps.refl _ _ | exact (Keeps.refl _ _).alloc _)).mono ?_; rintro e w9 ⟨rfl, hk9⟩)
    go_ret
    exact ⟨rfl, hk9⟩
end Go.Proofs.YtinonjfnhedlpaaDoor
