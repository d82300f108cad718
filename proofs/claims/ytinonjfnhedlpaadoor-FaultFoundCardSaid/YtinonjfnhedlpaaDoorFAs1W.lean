/-
  WALKS: errors.as, at num, spot.
-/
import Derived.Test.YtinonjfnhedlpaaDoorFAsW
set_option linter.unusedSimpArgs false
namespace Go.Proofs.YtinonjfnhedlpaaDoor
open Go Go.RowKit Go.Extern.Stop Go.Stop Go.Extern Go.Aff Go.Fault
set_option maxHeartbeats 4000000 in
set_option maxRecDepth 100000 in
theorem as_rec_num (tgt vb : Nat) (k : Nat) : ∀ (t : VT) (w : World) (D : Nat → Prop) (zs : List Value), SizeOf.sizeOf t ≤ k → t.isNil = false → At D w t → Blk w vb 47 [.pointer (some ⟨tgt, 0, none⟩)] → Blk w tgt 33 zs → zs.length = 1 →
    Calls Tryd.prog 26 #[vv t, .iface 47 (.pointer (some ⟨tgt, 0, none⟩)), .agg #[.pointer (some ⟨1, 47, none⟩), .pointer (some ⟨vb, 0, none⟩), .int .u64 150], .iface 113 (.agg #[.pointer (some ⟨1, 33, none⟩)])] w (AsPost w tgt 33 (firstT (fun x => asP 2 (kindF x)) t)) := by
  induction k with
  | zero => intro t w D zs hs; exact absurd hs (by cases t <;> simp)
  | succ k ih =>
    intro t w D zs hs hni hat hvb htg hzl
    have HIH := Lib.hid ih
    have HP : Hid (firstT (fun x => asP 2 (kindF x)) .nil = none) := Lib.hid (firstT_nil _ rfl)
    obtain ⟨P, hP⟩ : ∃ P : VT → Bool, P = (fun x => asP 2 (kindF x)) := ⟨_, rfl⟩
    rw [← hP] at HIH HP ⊢
    have HPP := Lib.hid hP
    have HPN : Hid (P .nil = false) := Lib.hid (by rw [hP]; rfl)
    obtain ⟨wb, hwb⟩ : ∃ wb, wb = w.alloc (.cells #[.pointer (some ⟨1, 47, none⟩), .pointer (some ⟨vb, 0, none⟩), .int .u64 150] 85) := ⟨_, rfl⟩
    have kwb : Keeps (fun _ => False) w wb := by rw [hwb]; exact (Keeps.refl _ w).alloc _
    have HI0 : Hid (AsInv w wb P t t k D [.pointer (some ⟨1, 47, none⟩), .pointer (some ⟨vb, 0, none⟩), .int .u64 150]) := Lib.hid ⟨hs, rfl, hni, hat.keep kwb (fun _ _ h => h), kwb, by rw [hwb]; exact Blk.new w _ _⟩
    rw [hwb] at HI0
    have HVB := Lib.hid hvb
    have HTG := Lib.hid htg
    have HZL := Lib.hid hzl
    clear ih hs hni hat hP kwb hwb hvb htg hzl
    obtain ⟨v0, hv0⟩ : ∃ v0, v0 = vv t := ⟨_, rfl⟩
    rw [← hv0]
    have HV0 := Lib.hid hv0
    clear hv0
    have h21 := @run_callFunc_extern Tryd.prog 21 _ ReflectliteType.typeOf Tryd.func21 (by kernel_rfl) (by kernel_rfl) (by kernel_rfl) (by kernel_rfl)
    have h69 := @run_callFunc_extern Tryd.prog 69 _ (ReflectliteType.relation "AssignableTo" ReflectliteType.assignableTo) Tryd.func69 (by kernel_rfl) (by kernel_rfl) (by kernel_rfl) (by kernel_rfl)
    have h35 := @run_callFunc_extern Tryd.prog 35 _ (ReflectliteValue.method (ReflectliteValue.valueError "reflectlite.Value.Elem" 0) ReflectliteValue.elem) Tryd.func35 (by kernel_rfl) (by kernel_rfl) (by kernel_rfl) (by kernel_rfl)
    have h23 := @run_callFunc_extern Tryd.prog 23 _ (fun args => ReflectliteValue.unpack (args.getD 0 (.tuple #[]))) Tryd.func23 (by kernel_rfl) (by kernel_rfl) (by kernel_rfl) (by kernel_rfl)
    have h36 := @run_callFunc_extern Tryd.prog 36 _ ReflectliteValue.set Tryd.func36 (by kernel_rfl) (by kernel_rfl) (by kernel_rfl) (by kernel_rfl)
    have mA := rf_AssignableTo
    have tO_num := rf_typeOf_num
    have ag_num := rf_assign_num_num
    have tO_spot := rf_typeOf_spot
    have ag_spot := rf_assign_spot_num
    have tO_trail := rf_typeOf_trail
    have ag_trail := rf_assign_trail_num
    have tO_note := rf_typeOf_note
    have ag_note := rf_assign_note_num
    have tO_all := rf_typeOf_all
    have ag_all := rf_assign_all_num
    have vO := rf_valueOf_num
    go_enter Tryd.func26, Tryd.ntmps26
    go_wp2
    go_loopg [0] (SizeOf.sizeOf t) (fun gk x wr => ∃ t', x = vv t' ∧ gk = SizeOf.sizeOf t' ∧ Hid (AsInv w wr P t t' k D [.pointer (some ⟨1, 47, none⟩), .pointer (some ⟨vb, 0, none⟩), .int .u64 150]))
    case atStart => exact ⟨t, HV0.out, rfl, HI0⟩
    case round =>
      obtain ⟨t', rfl, hgk, HI⟩ := hrel
      have HGK := Lib.hid hgk
      clear hgk HI0
      cases t' with
      | nil => exact absurd HI.out.some_ (by decide)
      | num n =>
        have q0 := HI.out.box.cell 0
        have q1 := HI.out.box.cell 1
        have q2 := HI.out.box.cell 2
        have el := rf_elemV_num ⟨vb, 0, none⟩ ⟨tgt, 0, none⟩ wr ((HI.out.keep.blk HVB.out (fun h => h)).cell 0)
        have HT1 : Hid (Blk (wr.alloc (.cells #[.int .i64 n] 33)) tgt 33 zs) := Lib.hid ((HI.out.keep.blk HTG.out (fun h => h)).alloc _)
        have st := rf_set_num tgt wr.heap.size zs n (wr.alloc (.cells #[.int .i64 n] 33)) (Blk.new wr 33 [.int .i64 n]) HT1.out HZL.out
        have HF : Hid (firstT P t = some (.num n)) := Lib.hid (by rw [← HI.out.same, HPP.out]; rw [firstT_num]; rfl)
        have HPOST : Hid (AsPost w tgt 33 (some (.num n)) (.returned (.bool true)) ((wr.alloc (.cells #[.int .i64 n] 33)).setCell ⟨tgt, 0, none⟩ (.int .i64 n))) := Lib.hid ⟨rfl, (HI.out.keep.mono (fun _ _ h => h.elim)).trans (((Keeps.refl (fun i => i = tgt) wr).alloc _).setCell (p := ⟨tgt, 0, none⟩) (.inl rfl) _) (fun _ _ h => h), (by
          obtain ⟨z, hz⟩ : ∃ z, zs = [z] := List.length_eq_one_iff.1 HZL.out
          have h1 := HT1.out
          rw [hz] at h1
          exact h1.set_ 0 _)⟩
        simp only [vv]
        go_wp2
        go_ret
        rw [HF.out]
        exact HPOST.out
      | spot n a =>
        have xa := as_spot_asi
        have x2 := as_spot_unw
        have x3 := as_spot_unws
        simp only [vv]
        go_wp2
        go_roundg (SizeOf.sizeOf (VT.num n))
        case measure =>
          rw [HGK.out]
          have : 0 < SizeOf.sizeOf a := szI a
          simp
          omega
        case rel => exact ⟨.num n, rfl, rfl, Lib.hid ⟨by have := HI.out.le; simp at this ⊢; omega, by rw [← HI.out.same, HPP.out, firstT_spot]; rfl, rfl, by simp [At], HI.out.keep.alloc _, HI.out.box.alloc _⟩⟩
      | trail n s =>
        have xa := as_trail_asi
        have x2 := as_trail_unw
        have x3 := as_trail_unws
        simp only [vv]
        go_wp2
        go_roundg (SizeOf.sizeOf (VT.num n))
        case measure =>
          rw [HGK.out]
          have : 0 < SizeOf.sizeOf s := szB s
          simp
          omega
        case rel => exact ⟨.num n, rfl, rfl, Lib.hid ⟨by have := HI.out.le; simp at this ⊢; omega, by rw [← HI.out.same, HPP.out, firstT_trail]; rfl, rfl, by simp [At], HI.out.keep.alloc _, HI.out.box.alloc _⟩⟩
      | gone =>
        have HF : Hid (firstT P t = none) := Lib.hid (by rw [← HI.out.same, HPP.out, firstT_gone]; rfl)
        have xa := as_note_asi
        have x2 := as_note_unw
        have x3 := as_note_unws
        simp only [vv]
        go_wp2
        go_ret
        rw [HF.out]
        exact ⟨rfl, HI.out.keep⟩
      | note b wd er =>
        have xa := as_note_asi
        have x2 := as_note_unw
        have x3 := as_note_unws
        have hsame : firstT P er = firstT P t := by rw [← HI.out.same, firstT_note P HPN.out, HPP.out]; rfl
        have HSM := Lib.hid hsame
        have hat := HI.out.at_
        simp only [At] at hat
        obtain ⟨hD, hblk, hate⟩ := hat
        have c1 := hblk.cell 1
        cases hni : er.isNil with
        | true =>
          obtain rfl : er = .nil := by cases er <;> simp [VT.isNil] at hni ⊢
          have HC1 : Hid (wr.cell? ⟨b, 1, none⟩ = some .nilIface) := Lib.hid c1
          clear c1 hblk hate hsame
          simp only [vv]
          go_wp2_with (go_at_call 34; refine (noteUnwrap_any _ b .nilIface HC1.out).mono ?_; rintro e w2 ⟨rfl, hw2⟩; subst hw2)
          go_ret
          rw [← HSM.out, HP.out]
          exact ⟨rfl, HI.out.keep⟩
        | false =>
          obtain ⟨T0, xv, hx0⟩ := vv_iface hni
          have HC1 : Hid (wr.cell? ⟨b, 1, none⟩ = some (.iface T0 xv)) := Lib.hid (by rw [← hx0]; exact c1)
          have HX0 := Lib.hid hx0
          have HNI := Lib.hid hni
          have HAE := Lib.hid hate
          clear c1 hblk hx0 hate hsame hni
          simp only [vv]
          go_wp2_with (go_at_call 34; refine (noteUnwrap_any _ b (.iface T0 xv) HC1.out).mono ?_; rintro e w2 ⟨rfl, hw2⟩; subst hw2)
          go_roundg (SizeOf.sizeOf er)
          case measure => rw [HGK.out]; simp; omega
          case rel => exact ⟨er, HX0.out.symm, rfl, Lib.hid ⟨by have := HI.out.le; simp at this ⊢; omega, HSM.out, HNI.out, HAE.out, HI.out.keep, HI.out.box⟩⟩
      | all A c l =>
        have xa := as_all_asi
        have x2 := as_all_unw
        have x3 := as_all_unws
        have HAF : Hid (l.findSome? (firstT P) = firstT P t) := Lib.hid (by rw [← HI.out.same, firstT_all, HPP.out]; rfl)
        simp only [vv]
        have hat := HI.out.at_
        simp only [At] at hat
        obtain ⟨hlen, how, hD, hatx⟩ := hat
        obtain ⟨m, hmm⟩ : ∃ m, m = l.length := ⟨_, rfl⟩
        have mU : ∀ (v : Value) (w : World), (Go.method 253 45 v "Unwrap").run Tryd.prog w = .ok (64, v) w := fun v w => by kernel_rfl
        have HUW : Hid (∀ W, Keeps (fun _ => False) wr W → Calls Tryd.prog 64 #[.slice A m c] W fun e w' => ∃ A' c', e = .returned (.slice A' m c') ∧ Mine W w' 24 A' m c' (l.map vv)) := Lib.hid fun W hW => by
          rw [hmm]
          exact allUnwrap_any W A l.length c _ ((Rd.of_own how).keep hW (no_outF _ _)) (vv_all l) (by omega)
        have HAX : Hid (∀ x, x ∈ l → At D wr x ∧ SizeOf.sizeOf x ≤ k) := Lib.hid fun x hx => ⟨hatx x hx, by have h1 := HI.out.le; have h2 := VT.size_all (A := A) (c := c) hx; omega⟩
        have HMM := Lib.hid hmm
        have hlen2 : m ≤ 1048576 := by omega
        rw [← hmm]
        clear how hD hatx hlen hmm
        go_upto_block 3 with (go_at_call 64; refine (HUW.out _ (by first | exact Keeps.refl _ _ | exact (Keeps.refl _ _).alloc _)).mono ?_; rintro e w2 ⟨A2, c2, rfl, hm2⟩; have HM2 := Lib.hid hm2; clear hm2)
        have HA0 : Hid (AsLi wr w2 P l A2 m 0) := Lib.hid ⟨HM2.out.2.1, Rd.of_own HM2.out.1, fun q x hq => by omega⟩
        obtain ⟨w0r, rfl⟩ : ∃ x, x = wr := ⟨_, rfl⟩
        go_wp2
        go_loopg [50] m (fun g2 i w3 => ∃ j, j ≤ m ∧ i = .int .i64 j ∧ g2 = m - j ∧ Hid (AsLi w0r w3 P l A2 m j))
        case atStart => exact ⟨0, by omega, rfl, rfl, HA0⟩
        case round =>
          obtain ⟨j, hj, rfl, hg2, HA⟩ := hrel
          have HG2 := Lib.hid hg2
          clear hg2 HA0
          by_cases hlt : j < m
          · obtain ⟨x, hx⟩ : ∃ x, l[j]? = some x := ⟨_, List.getElem?_eq_getElem (by have := HMM.out; omega)⟩
            obtain ⟨g, o, hA, hcs⟩ := HA.out.row.2 (by omega)
            subst hA
            have hcl : wr.cell? ⟨g, o + j, none⟩ = some (vv x) := by rw [hcs j hlt, List.getElem?_map, hx]; rfl
            have HXL : Hid (l[j]? = some x) := Lib.hid hx
            have hkw := HI.out.keep.trans HA.out.keep (fun _ _ h => h)
            have hbx := HA.out.keep.blk HI.out.box (fun h => h)
            have q0 := hbx.cell 0
            have q1 := hbx.cell 1
            have q2 := hbx.cell 2
            cases hni : x.isNil with
            | true =>
              obtain rfl : x = .nil := by cases x <;> simp [VT.isNil] at hni ⊢
              simp only [vv] at hcl
              clear hx hcs hkw hbx
              go_wp2
              go_roundg (m - (j + 1))
              case measure => rw [HG2.out]; omega
              case rel => exact ⟨j + 1, by omega, by go_num, rfl, Lib.hid ⟨HA.out.keep, HA.out.row, fun q y hq hy => by
                rcases Nat.lt_or_ge q j with h | h
                · exact HA.out.none_ q y h hy
                · obtain rfl : q = j := by omega
                  have h1 := HXL.out
                  rw [hy] at h1
                  injection h1 with h1
                  rw [h1]
                  exact HP.out⟩⟩
            | false =>
              obtain ⟨T0, xv, hx0⟩ := vv_iface hni
              have HR : Hid (Calls Tryd.prog 26 #[vv x, .iface 47 (.pointer (some ⟨tgt, 0, none⟩)), .agg #[.pointer (some ⟨1, 47, none⟩), .pointer (some ⟨vb, 0, none⟩), .int .u64 150], .iface 113 (.agg #[.pointer (some ⟨1, 33, none⟩)])] wr (AsPost wr tgt 33 (firstT P x))) := Lib.hid (HIH.out x wr D zs (HAX.out x (List.mem_of_getElem? hx)).2 hni ((HAX.out x (List.mem_of_getElem? hx)).1.keep HA.out.keep (fun _ _ h => h)) (hkw.blk HVB.out (fun h => h)) (hkw.blk HTG.out (fun h => h)) HZL.out)
              rw [hx0] at HR hcl
              have HKW := Lib.hid hkw
              clear hx hcs hkw hbx hni hx0
              cases hb : firstT P x with
              | some y =>
                rw [hb] at HR
                have HB : Hid (firstT P t = some y) := Lib.hid (by rw [← HAF.out]; exact findSome_at HA.out.none_ HXL.out hb rfl)
                clear hb
                go_wp2_with (go_at_call 26; refine HR.out.mono ?_; rintro e w4 ⟨rfl, hk4⟩; have HK4 := Lib.hid hk4; clear hk4)
                go_ret
                rw [HB.out]
                exact ⟨rfl, (HKW.out.mono (fun _ _ h => h.elim)).trans HK4.out.1 (fun _ _ h => h), HK4.out.2⟩
              | none =>
                rw [hb] at HR
                have HB := Lib.hid hb
                clear hb
                go_wp2_with (go_at_call 26; refine HR.out.mono ?_; rintro e w4 ⟨rfl, hk4⟩; have HK4 := Lib.hid hk4; clear hk4)
                go_roundg (m - (j + 1))
                case measure => rw [HG2.out]; omega
                case rel => exact ⟨j + 1, by omega, by go_num, rfl, Lib.hid ⟨HA.out.keep.trans HK4.out (fun _ _ h => h), HA.out.row.keep HK4.out (no_outF _ _), fun q y hq hy => by
                  rcases Nat.lt_or_ge q j with h | h
                  · exact HA.out.none_ q y h hy
                  · obtain rfl : q = j := by omega
                    have h1 := HXL.out
                    rw [hy] at h1
                    injection h1 with h1
                    rw [h1]
                    exact HB.out⟩⟩
          · obtain rfl : j = m := by omega
            have HF : Hid (firstT P t = none) := Lib.hid (by rw [← HAF.out]; exact findSome_none fun q y hq hy => HA.out.none_ q y (by have := HMM.out; omega) hy)
            go_wp2
            go_ret
            rw [HF.out]
            exact ⟨rfl, HI.out.keep.trans HA.out.keep (fun _ _ h => h)⟩
set_option maxHeartbeats 4000000 in
set_option maxRecDepth 100000 in
theorem as_rec_spot (tgt vb : Nat) (k : Nat) : ∀ (t : VT) (w : World) (D : Nat → Prop) (zs : List Value), SizeOf.sizeOf t ≤ k → t.isNil = false → At D w t → Blk w vb 48 [.pointer (some ⟨tgt, 0, none⟩)] → Blk w tgt 40 zs → zs.length = 2 →
    Calls Tryd.prog 26 #[vv t, .iface 48 (.pointer (some ⟨tgt, 0, none⟩)), .agg #[.pointer (some ⟨1, 48, none⟩), .pointer (some ⟨vb, 0, none⟩), .int .u64 150], .iface 113 (.agg #[.pointer (some ⟨1, 40, none⟩)])] w (AsPost w tgt 40 (firstT (fun x => asP 3 (kindF x)) t)) := by
  induction k with
  | zero => intro t w D zs hs; exact absurd hs (by cases t <;> simp)
  | succ k ih =>
    intro t w D zs hs hni hat hvb htg hzl
    have HIH := Lib.hid ih
    have HP : Hid (firstT (fun x => asP 3 (kindF x)) .nil = none) := Lib.hid (firstT_nil _ rfl)
    obtain ⟨P, hP⟩ : ∃ P : VT → Bool, P = (fun x => asP 3 (kindF x)) := ⟨_, rfl⟩
    rw [← hP] at HIH HP ⊢
    have HPP := Lib.hid hP
    have HPN : Hid (P .nil = false) := Lib.hid (by rw [hP]; rfl)
    obtain ⟨wb, hwb⟩ : ∃ wb, wb = w.alloc (.cells #[.pointer (some ⟨1, 48, none⟩), .pointer (some ⟨vb, 0, none⟩), .int .u64 150] 85) := ⟨_, rfl⟩
    have kwb : Keeps (fun _ => False) w wb := by rw [hwb]; exact (Keeps.refl _ w).alloc _
    have HI0 : Hid (AsInv w wb P t t k D [.pointer (some ⟨1, 48, none⟩), .pointer (some ⟨vb, 0, none⟩), .int .u64 150]) := Lib.hid ⟨hs, rfl, hni, hat.keep kwb (fun _ _ h => h), kwb, by rw [hwb]; exact Blk.new w _ _⟩
    rw [hwb] at HI0
    have HVB := Lib.hid hvb
    have HTG := Lib.hid htg
    have HZL := Lib.hid hzl
    clear ih hs hni hat hP kwb hwb hvb htg hzl
    obtain ⟨v0, hv0⟩ : ∃ v0, v0 = vv t := ⟨_, rfl⟩
    rw [← hv0]
    have HV0 := Lib.hid hv0
    clear hv0
    have h21 := @run_callFunc_extern Tryd.prog 21 _ ReflectliteType.typeOf Tryd.func21 (by kernel_rfl) (by kernel_rfl) (by kernel_rfl) (by kernel_rfl)
    have h69 := @run_callFunc_extern Tryd.prog 69 _ (ReflectliteType.relation "AssignableTo" ReflectliteType.assignableTo) Tryd.func69 (by kernel_rfl) (by kernel_rfl) (by kernel_rfl) (by kernel_rfl)
    have h35 := @run_callFunc_extern Tryd.prog 35 _ (ReflectliteValue.method (ReflectliteValue.valueError "reflectlite.Value.Elem" 0) ReflectliteValue.elem) Tryd.func35 (by kernel_rfl) (by kernel_rfl) (by kernel_rfl) (by kernel_rfl)
    have h23 := @run_callFunc_extern Tryd.prog 23 _ (fun args => ReflectliteValue.unpack (args.getD 0 (.tuple #[]))) Tryd.func23 (by kernel_rfl) (by kernel_rfl) (by kernel_rfl) (by kernel_rfl)
    have h36 := @run_callFunc_extern Tryd.prog 36 _ ReflectliteValue.set Tryd.func36 (by kernel_rfl) (by kernel_rfl) (by kernel_rfl) (by kernel_rfl)
    have mA := rf_AssignableTo
    have tO_num := rf_typeOf_num
    have ag_num := rf_assign_num_spot
    have tO_spot := rf_typeOf_spot
    have ag_spot := rf_assign_spot_spot
    have tO_trail := rf_typeOf_trail
    have ag_trail := rf_assign_trail_spot
    have tO_note := rf_typeOf_note
    have ag_note := rf_assign_note_spot
    have tO_all := rf_typeOf_all
    have ag_all := rf_assign_all_spot
    have vO := rf_valueOf_spot
    go_enter Tryd.func26, Tryd.ntmps26
    go_wp2
    go_loopg [0] (SizeOf.sizeOf t) (fun gk x wr => ∃ t', x = vv t' ∧ gk = SizeOf.sizeOf t' ∧ Hid (AsInv w wr P t t' k D [.pointer (some ⟨1, 48, none⟩), .pointer (some ⟨vb, 0, none⟩), .int .u64 150]))
    case atStart => exact ⟨t, HV0.out, rfl, HI0⟩
    case round =>
      obtain ⟨t', rfl, hgk, HI⟩ := hrel
      have HGK := Lib.hid hgk
      clear hgk HI0
      cases t' with
      | nil => exact absurd HI.out.some_ (by decide)
      | num n =>
        have HF : Hid (firstT P t = none) := Lib.hid (by rw [← HI.out.same, HPP.out, firstT_num]; rfl)
        have xa := as_num_asi
        have x2 := as_num_unw
        have x3 := as_num_unws
        simp only [vv]
        go_wp2
        go_ret
        rw [HF.out]
        exact ⟨rfl, HI.out.keep⟩
      | spot n a =>
        have q0 := HI.out.box.cell 0
        have q1 := HI.out.box.cell 1
        have q2 := HI.out.box.cell 2
        have el := rf_elemV_spot ⟨vb, 0, none⟩ ⟨tgt, 0, none⟩ wr ((HI.out.keep.blk HVB.out (fun h => h)).cell 0)
        have HT1 : Hid (Blk (wr.alloc (.cells #[.int .i64 n, .int .i64 a] 40)) tgt 40 zs) := Lib.hid ((HI.out.keep.blk HTG.out (fun h => h)).alloc _)
        have st := rf_set_spot tgt wr.heap.size zs n a (wr.alloc (.cells #[.int .i64 n, .int .i64 a] 40)) (Blk.new wr 40 [.int .i64 n, .int .i64 a]) HT1.out HZL.out
        have HF : Hid (firstT P t = some (.spot n a)) := Lib.hid (by rw [← HI.out.same, HPP.out]; rw [firstT_spot]; rfl)
        have HPOST : Hid (AsPost w tgt 40 (some (.spot n a)) (.returned (.bool true)) ((wr.alloc (.cells #[.int .i64 n, .int .i64 a] 40)).setRow tgt [.int .i64 n, .int .i64 a].toArray)) := Lib.hid ⟨rfl, (HI.out.keep.mono (fun _ _ h => h.elim)).trans (((Keeps.refl (fun i => i = tgt) wr).alloc _).setRow (.inl rfl) _) (fun _ _ h => h), (HT1.out.setRow [.int .i64 n, .int .i64 a])⟩
        simp only [vv]
        go_wp2
        go_ret
        rw [HF.out]
        exact HPOST.out
      | trail n s =>
        have xa := as_trail_asi
        have x2 := as_trail_unw
        have x3 := as_trail_unws
        simp only [vv]
        go_wp2
        go_roundg (SizeOf.sizeOf (VT.num n))
        case measure =>
          rw [HGK.out]
          have : 0 < SizeOf.sizeOf s := szB s
          simp
          omega
        case rel => exact ⟨.num n, rfl, rfl, Lib.hid ⟨by have := HI.out.le; simp at this ⊢; omega, by rw [← HI.out.same, HPP.out, firstT_trail]; rfl, rfl, by simp [At], HI.out.keep.alloc _, HI.out.box.alloc _⟩⟩
      | gone =>
        have HF : Hid (firstT P t = none) := Lib.hid (by rw [← HI.out.same, HPP.out, firstT_gone]; rfl)
        have xa := as_note_asi
        have x2 := as_note_unw
        have x3 := as_note_unws
        simp only [vv]
        go_wp2
        go_ret
        rw [HF.out]
        exact ⟨rfl, HI.out.keep⟩
      | note b wd er =>
        have xa := as_note_asi
        have x2 := as_note_unw
        have x3 := as_note_unws
        have hsame : firstT P er = firstT P t := by rw [← HI.out.same, firstT_note P HPN.out, HPP.out]; rfl
        have HSM := Lib.hid hsame
        have hat := HI.out.at_
        simp only [At] at hat
        obtain ⟨hD, hblk, hate⟩ := hat
        have c1 := hblk.cell 1
        cases hni : er.isNil with
        | true =>
          obtain rfl : er = .nil := by cases er <;> simp [VT.isNil] at hni ⊢
          have HC1 : Hid (wr.cell? ⟨b, 1, none⟩ = some .nilIface) := Lib.hid c1
          clear c1 hblk hate hsame
          simp only [vv]
          go_wp2_with (go_at_call 34; refine (noteUnwrap_any _ b .nilIface HC1.out).mono ?_; rintro e w2 ⟨rfl, hw2⟩; subst hw2)
          go_ret
          rw [← HSM.out, HP.out]
          exact ⟨rfl, HI.out.keep⟩
        | false =>
          obtain ⟨T0, xv, hx0⟩ := vv_iface hni
          have HC1 : Hid (wr.cell? ⟨b, 1, none⟩ = some (.iface T0 xv)) := Lib.hid (by rw [← hx0]; exact c1)
          have HX0 := Lib.hid hx0
          have HNI := Lib.hid hni
          have HAE := Lib.hid hate
          clear c1 hblk hx0 hate hsame hni
          simp only [vv]
          go_wp2_with (go_at_call 34; refine (noteUnwrap_any _ b (.iface T0 xv) HC1.out).mono ?_; rintro e w2 ⟨rfl, hw2⟩; subst hw2)
          go_roundg (SizeOf.sizeOf er)
          case measure => rw [HGK.out]; simp; omega
          case rel => exact ⟨er, HX0.out.symm, rfl, Lib.hid ⟨by have := HI.out.le; simp at this ⊢; omega, HSM.out, HNI.out, HAE.out, HI.out.keep, HI.out.box⟩⟩
      | all A c l =>
        have xa := as_all_asi
        have x2 := as_all_unw
        have x3 := as_all_unws
        have HAF : Hid (l.findSome? (firstT P) = firstT P t) := Lib.hid (by rw [← HI.out.same, firstT_all, HPP.out]; rfl)
        simp only [vv]
        have hat := HI.out.at_
        simp only [At] at hat
        obtain ⟨hlen, how, hD, hatx⟩ := hat
        obtain ⟨m, hmm⟩ : ∃ m, m = l.length := ⟨_, rfl⟩
        have mU : ∀ (v : Value) (w : World), (Go.method 253 45 v "Unwrap").run Tryd.prog w = .ok (64, v) w := fun v w => by kernel_rfl
        have HUW : Hid (∀ W, Keeps (fun _ => False) wr W → Calls Tryd.prog 64 #[.slice A m c] W fun e w' => ∃ A' c', e = .returned (.slice A' m c') ∧ Mine W w' 24 A' m c' (l.map vv)) := Lib.hid fun W hW => by
          rw [hmm]
          exact allUnwrap_any W A l.length c _ ((Rd.of_own how).keep hW (no_outF _ _)) (vv_all l) (by omega)
        have HAX : Hid (∀ x, x ∈ l → At D wr x ∧ SizeOf.sizeOf x ≤ k) := Lib.hid fun x hx => ⟨hatx x hx, by have h1 := HI.out.le; have h2 := VT.size_all (A := A) (c := c) hx; omega⟩
        have HMM := Lib.hid hmm
        have hlen2 : m ≤ 1048576 := by omega
        rw [← hmm]
        clear how hD hatx hlen hmm
        go_upto_block 3 with (go_at_call 64; refine (HUW.out _ (by first | exact Keeps.refl _ _ | exact (Keeps.refl _ _).alloc _)).mono ?_; rintro e w2 ⟨A2, c2, rfl, hm2⟩; have HM2 := Lib.hid hm2; clear hm2)
        have HA0 : Hid (AsLi wr w2 P l A2 m 0) := Lib.hid ⟨HM2.out.2.1, Rd.of_own HM2.out.1, fun q x hq => by omega⟩
        obtain ⟨w0r, rfl⟩ : ∃ x, x = wr := ⟨_, rfl⟩
        go_wp2
        go_loopg [50] m (fun g2 i w3 => ∃ j, j ≤ m ∧ i = .int .i64 j ∧ g2 = m - j ∧ Hid (AsLi w0r w3 P l A2 m j))
        case atStart => exact ⟨0, by omega, rfl, rfl, HA0⟩
        case round =>
          obtain ⟨j, hj, rfl, hg2, HA⟩ := hrel
          have HG2 := Lib.hid hg2
          clear hg2 HA0
          by_cases hlt : j < m
          · obtain ⟨x, hx⟩ : ∃ x, l[j]? = some x := ⟨_, List.getElem?_eq_getElem (by have := HMM.out; omega)⟩
            obtain ⟨g, o, hA, hcs⟩ := HA.out.row.2 (by omega)
            subst hA
            have hcl : wr.cell? ⟨g, o + j, none⟩ = some (vv x) := by rw [hcs j hlt, List.getElem?_map, hx]; rfl
            have HXL : Hid (l[j]? = some x) := Lib.hid hx
            have hkw := HI.out.keep.trans HA.out.keep (fun _ _ h => h)
            have hbx := HA.out.keep.blk HI.out.box (fun h => h)
            have q0 := hbx.cell 0
            have q1 := hbx.cell 1
            have q2 := hbx.cell 2
            cases hni : x.isNil with
            | true =>
              obtain rfl : x = .nil := by cases x <;> simp [VT.isNil] at hni ⊢
              simp only [vv] at hcl
              clear hx hcs hkw hbx
              go_wp2
              go_roundg (m - (j + 1))
              case measure => rw [HG2.out]; omega
              case rel => exact ⟨j + 1, by omega, by go_num, rfl, Lib.hid ⟨HA.out.keep, HA.out.row, fun q y hq hy => by
                rcases Nat.lt_or_ge q j with h | h
                · exact HA.out.none_ q y h hy
                · obtain rfl : q = j := by omega
                  have h1 := HXL.out
                  rw [hy] at h1
                  injection h1 with h1
                  rw [h1]
                  exact HP.out⟩⟩
            | false =>
              obtain ⟨T0, xv, hx0⟩ := vv_iface hni
              have HR : Hid (Calls Tryd.prog 26 #[vv x, .iface 48 (.pointer (some ⟨tgt, 0, none⟩)), .agg #[.pointer (some ⟨1, 48, none⟩), .pointer (some ⟨vb, 0, none⟩), .int .u64 150], .iface 113 (.agg #[.pointer (some ⟨1, 40, none⟩)])] wr (AsPost wr tgt 40 (firstT P x))) := Lib.hid (HIH.out x wr D zs (HAX.out x (List.mem_of_getElem? hx)).2 hni ((HAX.out x (List.mem_of_getElem? hx)).1.keep HA.out.keep (fun _ _ h => h)) (hkw.blk HVB.out (fun h => h)) (hkw.blk HTG.out (fun h => h)) HZL.out)
              rw [hx0] at HR hcl
              have HKW := Lib.hid hkw
              clear hx hcs hkw hbx hni hx0
              cases hb : firstT P x with
              | some y =>
                rw [hb] at HR
                have HB : Hid (firstT P t = some y) := Lib.hid (by rw [← HAF.out]; exact findSome_at HA.out.none_ HXL.out hb rfl)
                clear hb
                go_wp2_with (go_at_call 26; refine HR.out.mono ?_; rintro e w4 ⟨rfl, hk4⟩; have HK4 := Lib.hid hk4; clear hk4)
                go_ret
                rw [HB.out]
                exact ⟨rfl, (HKW.out.mono (fun _ _ h => h.elim)).trans HK4.out.1 (fun _ _ h => h), HK4.out.2⟩
              | none =>
                rw [hb] at HR
                have HB := Lib.hid hb
                clear hb
                go_wp2_with (go_at_call 26; refine HR.out.mono ?_; rintro e w4 ⟨rfl, hk4⟩; have HK4 := Lib.hid hk4; clear hk4)
                go_roundg (m - (j + 1))
                case measure => rw [HG2.out]; omega
                case rel => exact ⟨j + 1, by omega, by go_num, rfl, Lib.hid ⟨HA.out.keep.trans HK4.out (fun _ _ h => h), HA.out.row.keep HK4.out (no_outF _ _), fun q y hq hy => by
                  rcases Nat.lt_or_ge q j with h | h
                  · exact HA.out.none_ q y h hy
                  · obtain rfl : q = j := by omega
                    have h1 := HXL.out
                    rw [hy] at h1
                    injection h1 with h1
                    rw [h1]
                    exact HB.out⟩⟩
          · obtain rfl : j = m := by omega
            have HF : Hid (firstT P t = none) := Lib.hid (by rw [← HAF.out]; exact findSome_none fun q y hq hy => HA.out.none_ q y (by have := HMM.out; omega) hy)
            go_wp2
            go_ret
            rw [HF.out]
            exact ⟨rfl, HI.out.keep.trans HA.out.keep (fun _ _ h => h)⟩
end Go.Proofs.YtinonjfnhedlpaaDoor
