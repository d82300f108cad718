/-
  WALKS: errors.as, at all.
-/
import Derived.Test.YtinonjfnhedlpaaDoorFAsW
set_option linter.unusedSimpArgs false
namespace Go.Proofs.YtinonjfnhedlpaaDoor
open Go Go.RowKit Go.Extern.Stop Go.Stop Go.Extern Go.Aff Go.Fault
set_option maxHeartbeats 4000000 in
set_option maxRecDepth 100000 in
theorem as_rec_all (tgt vb : Nat) (k : Nat) : ∀ (t : VT) (w : World) (D : Nat → Prop) (zs : List Value), SizeOf.sizeOf t ≤ k → t.isNil = false → At D w t → Blk w vb 51 [.pointer (some ⟨tgt, 0, none⟩)] → Blk w tgt 45 zs → zs.length = 1 →
    Calls Tryd.prog 26 #[vv t, .iface 51 (.pointer (some ⟨tgt, 0, none⟩)), .agg #[.pointer (some ⟨1, 51, none⟩), .pointer (some ⟨vb, 0, none⟩), .int .u64 150], .iface 113 (.agg #[.pointer (some ⟨1, 45, none⟩)])] w (AsPost w tgt 45 (firstT (fun x => asP 7 (kindF x)) t)) := by
  induction k with
  | zero => intro t w D zs hs; exact absurd hs (by cases t <;> simp)
  | succ k ih =>
    intro t w D zs hs hni hat hvb htg hzl
    have HIH := Lib.hid ih
    have HP : Hid (firstT (fun x => asP 7 (kindF x)) .nil = none) := Lib.hid (firstT_nil _ rfl)
    obtain ⟨P, hP⟩ : ∃ P : VT → Bool, P = (fun x => asP 7 (kindF x)) := ⟨_, rfl⟩
    rw [← hP] at HIH HP ⊢
    have HPP := Lib.hid hP
    have HPN : Hid (P .nil = false) := Lib.hid (by rw [hP]; rfl)
    obtain ⟨wb, hwb⟩ : ∃ wb, wb = w.alloc (.cells #[.pointer (some ⟨1, 51, none⟩), .pointer (some ⟨vb, 0, none⟩), .int .u64 150] 85) := ⟨_, rfl⟩
    have kwb : Keeps (fun _ => False) w wb := by rw [hwb]; exact (Keeps.refl _ w).alloc _
    have HI0 : Hid (AsInv w wb P t t k D [.pointer (some ⟨1, 51, none⟩), .pointer (some ⟨vb, 0, none⟩), .int .u64 150]) := Lib.hid ⟨hs, rfl, hni, hat.keep kwb (fun _ _ h => h), kwb, by rw [hwb]; exact Blk.new w _ _⟩
    rw [hwb] at HI0
    have HVB := Lib.hid hvb
    have HTG := Lib.hid htg
    have HZL := Lib.hid hzl
    clear ih hs hni hat hP kwb hwb hvb htg hzl
    obtain ⟨v0, hv0⟩ : ∃ v0, v0 = vv t := ⟨_, rfl⟩
    rw [← hv0]
    have HV0 := Lib.hid hv0
    clear hv0
    have h21 := @run_callFunc_extern Tryd.prog 21 _ ReflectliteType.typeOf Tryd.func21 (by kernel_rfl) (by kernel_rfl) (by kernel_rfl) (by kernel_rfl)
    have h69 := @run_callFunc_extern Tryd.prog 69 _ (ReflectliteType.relation "AssignableTo" ReflectliteType.assignableTo) Tryd.func69 (by kernel_rfl) (by kernel_rfl) (by kernel_rfl) (by kernel_rfl)
    have h35 := @run_callFunc_extern Tryd.prog 35 _ (ReflectliteValue.method (ReflectliteValue.valueError "reflectlite.Value.Elem" 0) ReflectliteValue.elem) Tryd.func35 (by kernel_rfl) (by kernel_rfl) (by kernel_rfl) (by kernel_rfl)
    have h23 := @run_callFunc_extern Tryd.prog 23 _ (fun args => ReflectliteValue.unpack (args.getD 0 (.tuple #[]))) Tryd.func23 (by kernel_rfl) (by kernel_rfl) (by kernel_rfl) (by kernel_rfl)
    have h36 := @run_callFunc_extern Tryd.prog 36 _ ReflectliteValue.set Tryd.func36 (by kernel_rfl) (by kernel_rfl) (by kernel_rfl) (by kernel_rfl)
    have mA := rf_AssignableTo
    have tO_num := rf_typeOf_num
    have ag_num := rf_assign_num_all
    have tO_spot := rf_typeOf_spot
    have ag_spot := rf_assign_spot_all
    have tO_trail := rf_typeOf_trail
    have ag_trail := rf_assign_trail_all
    have tO_note := rf_typeOf_note
    have ag_note := rf_assign_note_all
    have tO_all := rf_typeOf_all
    have ag_all := rf_assign_all_all
    have vO := rf_valueOf_all
    go_enter Tryd.func26, Tryd.ntmps26
    go_wp2
    go_loopg [0] (SizeOf.sizeOf t) (fun gk x wr => ∃ t', x = vv t' ∧ gk = SizeOf.sizeOf t' ∧ Hid (AsInv w wr P t t' k D [.pointer (some ⟨1, 51, none⟩), .pointer (some ⟨vb, 0, none⟩), .int .u64 150]))
    case atStart => exact ⟨t, HV0.out, rfl, HI0⟩
    case round =>
      obtain ⟨t', rfl, hgk, HI⟩ := hrel
      have HGK := Lib.hid hgk
      clear hgk HI0
      cases t' with
      | nil => exact absurd HI.out.some_ (by decide)
      | num n =>
        have HF : Hid (firstT P t = none) := Lib.hid (by rw [← HI.out.same, HPP.out, firstT_num]; rfl)
        have xa := as_num_asi
        have x2 := as_num_unw
        have x3 := as_num_unws
        simp only [vv]
        go_wp2
        go_ret
        rw [HF.out]
        exact ⟨rfl, HI.out.keep⟩
      | spot n a =>
        have xa := as_spot_asi
        have x2 := as_spot_unw
        have x3 := as_spot_unws
        simp only [vv]
        go_wp2
        go_roundg (SizeOf.sizeOf (VT.num n))
        case measure =>
          rw [HGK.out]
          have : 0 < SizeOf.sizeOf a := szI a
          simp
          omega
        case rel => exact ⟨.num n, rfl, rfl, Lib.hid ⟨by have := HI.out.le; simp at this ⊢; omega, by rw [← HI.out.same, HPP.out, firstT_spot]; rfl, rfl, by simp [At], HI.out.keep.alloc _, HI.out.box.alloc _⟩⟩
      | trail n s =>
        have xa := as_trail_asi
        have x2 := as_trail_unw
        have x3 := as_trail_unws
        simp only [vv]
        go_wp2
        go_roundg (SizeOf.sizeOf (VT.num n))
        case measure =>
          rw [HGK.out]
          have : 0 < SizeOf.sizeOf s := szB s
          simp
          omega
        case rel => exact ⟨.num n, rfl, rfl, Lib.hid ⟨by have := HI.out.le; simp at this ⊢; omega, by rw [← HI.out.same, HPP.out, firstT_trail]; rfl, rfl, by simp [At], HI.out.keep.alloc _, HI.out.box.alloc _⟩⟩
      | gone =>
        have HF : Hid (firstT P t = none) := Lib.hid (by rw [← HI.out.same, HPP.out, firstT_gone]; rfl)
        have xa := as_note_asi
        have x2 := as_note_unw
        have x3 := as_note_unws
        simp only [vv]
        go_wp2
        go_ret
        rw [HF.out]
        exact ⟨rfl, HI.out.keep⟩
      | note b wd er =>
        have xa := as_note_asi
        have x2 := as_note_unw
        have x3 := as_note_unws
        have hsame : firstT P er = firstT P t := by rw [← HI.out.same, firstT_note P HPN.out, HPP.out]; rfl
        have HSM := Lib.hid hsame
        have hat := HI.out.at_
        simp only [At] at hat
        obtain ⟨hD, hblk, hate⟩ := hat
        have c1 := hblk.cell 1
        cases hni : er.isNil with
        | true =>
          obtain rfl : er = .nil := by cases er <;> simp [VT.isNil] at hni ⊢
          have HC1 : Hid (wr.cell? ⟨b, 1, none⟩ = some .nilIface) := Lib.hid c1
          clear c1 hblk hate hsame
          simp only [vv]
          go_wp2_with (go_at_call 34; refine (noteUnwrap_any _ b .nilIface HC1.out).mono ?_; rintro e w2 ⟨rfl, hw2⟩; subst hw2)
          go_ret
          rw [← HSM.out, HP.out]
          exact ⟨rfl, HI.out.keep⟩
        | false =>
          obtain ⟨T0, xv, hx0⟩ := vv_iface hni
          have HC1 : Hid (wr.cell? ⟨b, 1, none⟩ = some (.iface T0 xv)) := Lib.hid (by rw [← hx0]; exact c1)
          have HX0 := Lib.hid hx0
          have HNI := Lib.hid hni
          have HAE := Lib.hid hate
          clear c1 hblk hx0 hate hsame hni
          simp only [vv]
          go_wp2_with (go_at_call 34; refine (noteUnwrap_any _ b (.iface T0 xv) HC1.out).mono ?_; rintro e w2 ⟨rfl, hw2⟩; subst hw2)
          go_roundg (SizeOf.sizeOf er)
          case measure => rw [HGK.out]; simp; omega
          case rel => exact ⟨er, HX0.out.symm, rfl, Lib.hid ⟨by have := HI.out.le; simp at this ⊢; omega, HSM.out, HNI.out, HAE.out, HI.out.keep, HI.out.box⟩⟩
      | all A c l =>
        have q0 := HI.out.box.cell 0
        have q1 := HI.out.box.cell 1
        have q2 := HI.out.box.cell 2
        have el := rf_elemV_all ⟨vb, 0, none⟩ ⟨tgt, 0, none⟩ wr ((HI.out.keep.blk HVB.out (fun h => h)).cell 0)
        have HT1 : Hid (Blk (wr.alloc (.cells #[.slice A l.length c] 45)) tgt 45 zs) := Lib.hid ((HI.out.keep.blk HTG.out (fun h => h)).alloc _)
        have st := rf_set_all tgt wr.heap.size zs A l.length c (wr.alloc (.cells #[.slice A l.length c] 45)) (Blk.new wr 45 [.slice A l.length c]) HT1.out HZL.out
        have HF : Hid (firstT P t = some (.all A c l)) := Lib.hid (by rw [← HI.out.same, HPP.out]; rw [firstT_all]; rfl)
        have HPOST : Hid (AsPost w tgt 45 (some (.all A c l)) (.returned (.bool true)) ((wr.alloc (.cells #[.slice A l.length c] 45)).setCell ⟨tgt, 0, none⟩ (.slice A l.length c))) := Lib.hid ⟨rfl, (HI.out.keep.mono (fun _ _ h => h.elim)).trans (((Keeps.refl (fun i => i = tgt) wr).alloc _).setCell (p := ⟨tgt, 0, none⟩) (.inl rfl) _) (fun _ _ h => h), (by
          obtain ⟨z, hz⟩ : ∃ z, zs = [z] := List.length_eq_one_iff.1 HZL.out
          have h1 := HT1.out
          rw [hz] at h1
          exact h1.set_ 0 _)⟩
        simp only [vv]
        go_wp2
        go_ret
        rw [HF.out]
        exact HPOST.out
end Go.Proofs.YtinonjfnhedlpaaDoor
