/-
  WALK: the law FaultFound.
-/
import Derived.Test.YtinonjfnhedlpaaDoorFFoundK
import Derived.Test.YtinonjfnhedlpaaDoorFWorksW
set_option linter.unusedSimpArgs false
namespace Go.Proofs.YtinonjfnhedlpaaDoor
open Go Go.RowKit Go.Extern.Stop Go.Stop Go.Extern Go.Aff Go.Fault
theorem x1_num {x : VT} (h : aK 2 x = true) : ∃ a, x = .num a := by cases x <;> first | exact ⟨_, rfl⟩ | exact absurd h (by simp [aK, asP, kindF])
theorem x1_spot {x : VT} (h : aK 3 x = true) : ∃ a b, x = .spot a b := by cases x <;> first | exact ⟨_, _, rfl⟩ | exact absurd h (by simp [aK, asP, kindF])
theorem x1_trail {x : VT} (h : aK 4 x = true) : ∃ a b, x = .trail a b := by cases x <;> first | exact ⟨_, _, rfl⟩ | exact absurd h (by simp [aK, asP, kindF])
theorem x1_note {x : VT} (h : aK 5 x = true) : x = .gone ∨ ∃ b wd e, x = .note b wd e := by cases x <;> first | exact .inl rfl | exact .inr ⟨_, _, _, rfl⟩ | exact absurd h (by simp [aK, asP, kindF])
theorem x1_all {x : VT} (h : aK 7 x = true) : ∃ A c l, x = .all A c l := by cases x <;> first | exact ⟨_, _, _, rfl⟩ | exact absurd h (by simp [aK, asP, kindF])
theorem x2_num {x : VT} {a : Int} (h : x.erase = (VT.num a).erase) : x = .num a := by cases x <;> simp [VT.erase] at h ⊢; exact h
theorem x2_spot {x : VT} {a b : Int} (h : x.erase = (VT.spot a b).erase) : x = .spot a b := by cases x <;> simp [VT.erase] at h ⊢; exact h
theorem x2_trail {x : VT} {a : Int} {b : ByteArray} (h : x.erase = (VT.trail a b).erase) : x = .trail a b := by cases x <;> simp [VT.erase] at h ⊢; exact h
theorem x2_gone {x : VT} (h : x.erase = VT.gone.erase) : x = .gone := by cases x <;> simp [VT.erase] at h ⊢
theorem x2_note {x e : VT} {b : Nat} {wd : ByteArray} (h : x.erase = (VT.note b wd e).erase) : ∃ b2 e2, x = .note b2 wd e2 := by
  cases x <;> simp [VT.erase] at h
  exact ⟨_, _, by rw [h.1]⟩
theorem x2_all {x : VT} {A : Option Addr} {c : Nat} {l : List VT} (h : x.erase = (VT.all A c l).erase) : ∃ A2 c2 l2, x = .all A2 c2 l2 ∧ l2.length = l.length := by
  cases x <;> simp [VT.erase] at h
  exact ⟨_, _, _, rfl, by have := congrArg List.length h; simpa using this⟩
theorem fi_as1 (w : World) (g : Nat) (vt : VT) (W : World) (z2 z3 z4 z5 : List Value) (h : FI w g vt [.int .i64 0] z2 z3 z4 z5 W) :
    Calls Tryd.prog 11 #[vv vt, .iface 47 (.pointer (some ⟨g, 0, none⟩))] W fun e w' => e = .returned (.bool (firstT (aK 2) vt).isSome) ∧ Hid (FI w g vt (zk (firstT (aK 2) vt) [.int .i64 0]) z2 z3 z4 z5 w') :=
  (errAs_num W _ vt g _ h.glob h.at_ h.b1 rfl).mono fun _ _ p => ⟨p.ending, Lib.hid (h.s1 p)⟩
theorem fi_as2 (w : World) (g : Nat) (vt : VT) (W : World) (z1 z3 z4 z5 : List Value) (h : FI w g vt z1 [.int .i64 0, .int .i64 0] z3 z4 z5 W) :
    Calls Tryd.prog 11 #[vv vt, .iface 48 (.pointer (some ⟨(g + 1), 0, none⟩))] W fun e w' => e = .returned (.bool (firstT (aK 3) vt).isSome) ∧ Hid (FI w g vt z1 (zk (firstT (aK 3) vt) [.int .i64 0, .int .i64 0]) z3 z4 z5 w') :=
  (errAs_spot W _ vt (g + 1) _ h.glob h.at_ h.b2 rfl).mono fun _ _ p => ⟨p.ending, Lib.hid (h.s2 p)⟩
theorem fi_as3 (w : World) (g : Nat) (vt : VT) (W : World) (z1 z2 z4 z5 : List Value) (h : FI w g vt z1 z2 [.int .i64 0, .string ⟨#[]⟩] z4 z5 W) :
    Calls Tryd.prog 11 #[vv vt, .iface 49 (.pointer (some ⟨(g + 2), 0, none⟩))] W fun e w' => e = .returned (.bool (firstT (aK 4) vt).isSome) ∧ Hid (FI w g vt z1 z2 (zk (firstT (aK 4) vt) [.int .i64 0, .string ⟨#[]⟩]) z4 z5 w') :=
  (errAs_trail W _ vt (g + 2) _ h.glob h.at_ h.b3 rfl).mono fun _ _ p => ⟨p.ending, Lib.hid (h.s3 p)⟩
theorem fi_as4 (w : World) (g : Nat) (vt : VT) (W : World) (z1 z2 z3 z5 : List Value) (h : FI w g vt z1 z2 z3 [.pointer none] z5 W) :
    Calls Tryd.prog 11 #[vv vt, .iface 50 (.pointer (some ⟨(g + 3), 0, none⟩))] W fun e w' => e = .returned (.bool (firstT (aK 5) vt).isSome) ∧ Hid (FI w g vt z1 z2 z3 (zk (firstT (aK 5) vt) [.pointer none]) z5 w') :=
  (errAs_note W _ vt (g + 3) _ h.glob h.at_ h.b4 rfl).mono fun _ _ p => ⟨p.ending, Lib.hid (h.s4 p)⟩
theorem fi_as5 (w : World) (g : Nat) (vt : VT) (W : World) (z1 z2 z3 z4 : List Value) (h : FI w g vt z1 z2 z3 z4 [.slice none 0 0] W) :
    Calls Tryd.prog 11 #[vv vt, .iface 51 (.pointer (some ⟨(g + 4), 0, none⟩))] W fun e w' => e = .returned (.bool (firstT (aK 7) vt).isSome) ∧ Hid (FI w g vt z1 z2 z3 z4 (zk (firstT (aK 7) vt) [.slice none 0 0]) w') :=
  (errAs_all W _ vt (g + 4) _ h.glob h.at_ h.b5 rfl).mono fun _ _ p => ⟨p.ending, Lib.hid (h.s5 p)⟩
set_option maxHeartbeats 4000000 in
set_option maxRecDepth 100000 in
theorem found_ok (w : World) (A : Option Addr) (n c : Nat) (cs : List CauseV) (no : Int) (hg : GlobE w) (hn : cs.length = n) (hS : CausesAt w A cs) (t : VT) (hb : buildF cs = .inr t) :
    Calls Tryd.prog 3 #[.slice A n c, .int .i64 no] w fun e w' => e = .returned (.bool true) ∧ Keeps (fun _ => False) w w' := by
  obtain ⟨q, hq⟩ : ∃ q, q = inT no t := ⟨_, rfl⟩
  have HB : Hid (∀ W, Keeps (fun _ => False) w W → Calls Tryd.prog 4 #[.slice A n c] W fun e w' => ∃ vt v, e = .returned (.tuple #[v, .nilIface]) ∧ Hid (v = vv vt ∧ Keeps (fun _ => False) W w' ∧ vt.erase = t ∧ At (fun i => W.heap.size ≤ i) w' vt)) := Lib.hid fun W hW => by
    refine (Build_any W A n c cs hn (hS.keep hW)).mono fun e w' h => ?_
    obtain ⟨vt, h1, h2, h3, _⟩ := h.2.2 t hb
    exact ⟨vt, _, h2, Lib.hid ⟨rfl, h.1, h1, h3⟩⟩
  have HL : Hid (∀ W, Keeps (fun _ => False) w W → Calls Tryd.prog 6 #[.slice A n c] W fun e w' => ∃ A3 c3, e = .returned (.tuple #[.slice A3 t.count c3, .nilIface]) ∧ Hid (Keeps (fun _ => False) W w' ∧ SeenAt w' A3 (t.items 1))) := Lib.hid fun W hW => by
    refine (Look_any W A n c cs hn (hS.keep hW)).mono fun e w' h => ?_
    obtain ⟨v, h1, h2, h3⟩ := h.2.2 t hb
    obtain ⟨A', c', rfl⟩ := own_shape h2
    exact ⟨_, _, h1, Lib.hid ⟨h.1, fun k p hp => seen_range h2 (List.getElem?_eq_some_iff.1 hp).1 hp⟩⟩
  have HF : Hid (∀ W, Keeps (fun _ => False) w W → Calls Tryd.prog 7 #[.slice A n c, .int .i64 no] W fun e w' => e = .returned (.tuple #[.bool q, .nilIface]) ∧ Hid (Keeps (fun _ => False) W w')) := Lib.hid fun W hW =>
    (FIs_any W A n c cs no hn (hS.keep hW)).mono fun e w' h => ⟨by rw [hq]; exact h.2.2 t hb, Lib.hid h.1⟩
  have HAS : Hid (∀ W vt k, Keeps (fun _ => False) w W → wantsB k = true → vt.erase = t → Calls Tryd.prog 12 #[.slice A n c, .int .i64 k] W (AsSame W (firstT (aK k) vt))) := Lib.hid fun W vt k hW hk he => as_same W A n c cs k hn (hS.keep hW) hk t vt hb he
  have HCN := Lib.hid (buildF_count hb)
  have HC : Hid (∀ W A3 c3 a, SeenAt W A3 (t.items 1) → W.cell? a = some (.int .i64 no) → Calls Tryd.prog 8 #[.slice A3 t.count c3, .func (.func 9) #[] #[.pointer (some a)]] W fun e w' => e = .returned (.bool q) ∧ Hid (Keeps (fun _ => False) W w')) := Lib.hid fun W A3 c3 a h1 h2 =>
    (contains_any W A3 t.count c3 (t.items 1) a no rfl (by have := HCN.out; omega) h1 h2).mono fun e w' h => ⟨by rw [hq, h.1, inT_items], Lib.hid h.2⟩
  have HI : Hid (∀ W vt D, At D W vt → vt.erase = t → Calls Tryd.prog 10 #[vv vt, .iface 33 (.int .i64 no)] W fun e w' => e = .returned (.bool q) ∧ Hid (Keeps (fun _ => False) W w')) := Lib.hid fun W vt D h1 h2 =>
    (Is_any vt no W D h1).mono fun e w' h => ⟨by rw [hq, h.1, ← h2, inT_erase], Lib.hid h.2⟩
  have HG := Lib.hid hg
  clear hg hS hn hb hq
  obtain ⟨bx, hbx⟩ : ∃ b, b = w.heap.size := ⟨_, rfl⟩
  go_enter Tryd.func3, Tryd.ntmps3
  go_upto_region 1 with fail
  rw [← hbx]
  refine gen_codeF (fun W => Keeps (fun _ => False) w W ∧ W.cell? ⟨bx, 0, none⟩ = some (.int .i64 no)) ⟨(Keeps.refl _ w).alloc _, by rw [hbx]; exact (Blk.new w 3 [.int .i64 no]).cell 0⟩ ?_
  intro w0 h0
  have HX := Lib.hid h0
  clear h0 hbx
  --1
  go_upto_region 9 with (first
    | (go_at_call 4; refine (HB.out _ HX.out.1).mono ?_; rintro e w1 ⟨vt, v, rfl, HK1⟩)
    | (go_at_call 6; refine (HL.out _ (HX.out.1.trans HK1.out.2.1 (fun _ _ h => h))).mono ?_; rintro e w2 ⟨A3, c3, rfl, HK2⟩; have z2 := cell_keep (HK1.out.2.1.trans HK2.out.1 (fun _ _ h => h)) HX.out.2)
    | (go_at_call 7; refine (HF.out _ (HX.out.1.trans (HK1.out.2.1.trans HK2.out.1 (fun _ _ h => h)) (fun _ _ h => h))).mono ?_; rintro e w3 ⟨rfl, HK3⟩)
    | (go_at_call 8; refine (HC.out _ A3 c3 ⟨bx, 0, none⟩ (HK2.out.2.keep HK3.out) (cell_keep HK3.out z2)).mono ?_; rintro e w4 ⟨rfl, HK4⟩; have z4 := cell_keep (HK3.out.trans HK4.out (fun _ _ h => h)) z2; clear z2)
    | (go_at_call 10; obtain rfl := HK1.out.1; refine (HI.out _ vt _ (HK1.out.2.2.2.keep ((HK2.out.1.trans HK3.out (fun _ _ h => h)).trans HK4.out (fun _ _ h => h)) (fun _ _ h => h)) HK1.out.2.2.1).mono ?_; rintro e w5 ⟨rfl, HK5⟩))
  --9
  have hgv := HK1.out.2.2.1
  have HVE := Lib.hid hgv
  have HSA : Hid (SeenAt w5 A3 (t.items 1)) := Lib.hid (HK2.out.2.keep ((HK3.out.trans HK4.out (fun _ _ h => h)).trans HK5.out (fun _ _ h => h)))
  have hkw : Keeps (fun _ => False) w w5 := HX.out.1.trans (HK1.out.2.1.trans (((HK2.out.1.trans HK3.out (fun _ _ h => h)).trans HK4.out (fun _ _ h => h)).trans HK5.out (fun _ _ h => h)) (fun _ _ h => h)) (fun _ _ h => h)
  have HFS := Lib.hid (FI.start (Keeps.refl _ w5) (HG.out.keep hkw) (HK1.out.2.2.2.keep (((HK2.out.1.trans HK3.out (fun _ _ h => h)).trans HK4.out (fun _ _ h => h)).trans HK5.out (fun _ _ h => h)) (fun _ _ h => h)))
  have HKW := Lib.hid hkw
  clear hgv hkw HX HK1 HK2 HK3 HK4 HK5 HB HL HF HC HI HG z4
  go_upto_region 14 with fail
  obtain ⟨g, hg⟩ : ∃ g, g = w5.heap.size := ⟨_, rfl⟩
  rw [← hg] at HFS ⊢
  refine gen_codeF (FI w5 g vt [.int .i64 0] [.int .i64 0, .int .i64 0] [.int .i64 0, .string ⟨#[]⟩] [.pointer none] [.slice none 0 0]) HFS.out ?_
  intro w6 h6
  have HF0 := Lib.hid h6
  clear HFS h6 hg
  rw [show g + 1 + 1 = g + 2 from rfl, show g + 2 + 1 = g + 3 from rfl, show g + 3 + 1 = g + 4 from rfl]
  obtain ⟨o1, ho1⟩ : ∃ o, o = firstT (aK 2) vt := ⟨_, rfl⟩
  obtain ⟨o2, ho2⟩ : ∃ o, o = firstT (aK 3) vt := ⟨_, rfl⟩
  obtain ⟨o3, ho3⟩ : ∃ o, o = firstT (aK 4) vt := ⟨_, rfl⟩
  obtain ⟨o4, ho4⟩ : ∃ o, o = firstT (aK 5) vt := ⟨_, rfl⟩
  obtain ⟨o5, ho5⟩ : ∃ o, o = firstT (aK 7) vt := ⟨_, rfl⟩
  have HO := Lib.hid (And.intro ho1 (And.intro ho2 (And.intro ho3 (And.intro ho4 ho5))))
  have HE1 := Lib.hid (fun W z2 z3 z4 z5 h => ho1 ▸ fi_as1 w5 g vt W z2 z3 z4 z5 h)
  have HE2 := Lib.hid (fun W z1 z3 z4 z5 h => ho2 ▸ fi_as2 w5 g vt W z1 z3 z4 z5 h)
  have HE3 := Lib.hid (fun W z1 z2 z4 z5 h => ho3 ▸ fi_as3 w5 g vt W z1 z2 z4 z5 h)
  have HE4 := Lib.hid (fun W z1 z2 z3 z5 h => ho4 ▸ fi_as4 w5 g vt W z1 z2 z3 z5 h)
  have HE5 := Lib.hid (fun W z1 z2 z3 z4 h => ho5 ▸ fi_as5 w5 g vt W z1 z2 z3 z4 h)
  clear ho1 ho2 ho3 ho4 ho5
  --14
  have tk1 : True := trivial
  have tk2 : True := trivial
  have tk3 : True := trivial
  have tk4 : True := trivial
  go_upto_region 15 with (first
    | (go_at_call 11; clear tk1; refine (HE1.out _ _ _ _ _ HF0.out).mono ?_; rintro e w7 ⟨rfl, h7⟩; have HF1 := h7; clear h7)
    | (go_at_call 11; clear tk2; refine (HE2.out _ _ _ _ _ HF1.out).mono ?_; rintro e w8 ⟨rfl, h7⟩; have HF2 := h7; clear h7)
    | (go_at_call 11; clear tk3; refine (HE3.out _ _ _ _ _ HF2.out).mono ?_; rintro e w9 ⟨rfl, h7⟩; have HF3 := h7; clear h7)
    | (go_at_call 11; clear tk4; refine (HE4.out _ _ _ _ _ HF3.out).mono ?_; rintro e w10 ⟨rfl, h7⟩; have HF4 := h7; clear h7)
    | (go_at_call 11; refine (HE5.out _ _ _ _ _ HF4.out).mono ?_; rintro e w11 ⟨rfl, h7⟩; have HF5 := h7; clear h7))
  --15
  obtain ⟨gg, hgg⟩ : ∃ g, g = w11.heap.size := ⟨_, rfl⟩
  rw [← hgg]
  refine gen_codeF (fun W => FI w5 g vt (zk o1 [.int .i64 0]) (zk o2 [.int .i64 0, .int .i64 0]) (zk o3 [.int .i64 0, .string ⟨#[]⟩]) (zk o4 [.pointer none]) (zk o5 [.slice none 0 0]) W ∧ Blk W gg 4 [.bool o1.isSome, .bool o2.isSome, .bool o3.isSome, .bool o4.isSome, .bool o5.isSome]) ⟨HF5.out.step ((Keeps.refl _ w11).alloc _), by rw [hgg]; exact Blk.new w11 _ _⟩ ?_
  intro w12 h12
  have HFB := Lib.hid h12
  clear h12 hgg HF0 HF1 HF2 HF3 HF4 HF5 HE1 HE2 HE3 HE4 HE5
  go_upto_block 0 with fail
  obtain ⟨gq, hgq⟩ : ∃ g, g = w12.heap.size := ⟨_, rfl⟩
  rw [← hgq]
  refine gen_codeF (fun W => Keeps (fun _ => False) w12 W ∧ Blk W gq 3 [.int .i64 2, .int .i64 3, .int .i64 4, .int .i64 5, .int .i64 7]) ⟨(Keeps.refl _ w12).alloc _, by rw [hgq]; exact Blk.new w12 _ _⟩ ?_
  intro w13 h13
  have HKS := Lib.hid h13
  clear h13 hgq
  go_wp2
  go_loopg [88] 5 (fun g2 i w3 => ∃ j : Nat, ∃ i' : Int, i' = j ∧ j ≤ 5 ∧ i = .int .i64 i' ∧ g2 = 5 - j ∧ Hid (Keeps (fun _ => False) w12 w3 ∧ Blk w3 gq 3 [.int .i64 2, .int .i64 3, .int .i64 4, .int .i64 5, .int .i64 7]))
  case atStart => exact ⟨0, 0, rfl, by omega, rfl, rfl, HKS⟩
  case round =>
    obtain ⟨j, i', hij, hj, rfl, hg2, HA⟩ := hrel
    have HG2 := Lib.hid hg2
    clear hg2 HKS
    by_cases hlt : j < 5
    · have HFA := Lib.hid (HFB.out.1.step HA.out.1)
      have HGB := Lib.hid (HA.out.1.blk HFB.out.2 (fun h => h))
      have HW : Hid (Keeps (fun _ => False) w wr) := Lib.hid (HKW.out.trans HFA.out.keep (fun _ _ h => h))
      have q4 : i' < 5 := by omega
      rcases j with _ | _ | _ | _ | _ | j
      · obtain rfl : i' = 0 := by omega
        clear hij hj hlt
        cases o1 with
        | none =>
          have HQ0 : Hid (wr.cell? ⟨gg, 0, none⟩ = some (.bool false)) := Lib.hid (HGB.out.cell 0)
          have q0 : wr.cell? ⟨gq, 0, none⟩ = some (.int .i64 2) := HA.out.2.cell 0
          have HT : Hid (∀ W, Keeps (fun _ => False) w W → Calls Tryd.prog 12 #[.slice A n c, .int .i64 2] W fun e w' => e = .returned (.tuple #[.nilIface, .iface 33 (.int .i64 4)]) ∧ Hid (Keeps (fun _ => False) W w')) := Lib.hid fun W hW => (HAS.out W vt 2 hW rfl HVE.out).mono fun e w' h => by
            rw [← HO.out.1] at h
            exact ⟨h.1, Lib.hid h.2⟩
          clear HFB HKW HAS HSA HCN HVE HO HFA HGB
          go_upto_region 19 with (go_at_call 12; refine (HT.out _ HW.out).mono ?_; rintro e w14 ⟨rfl, HK14⟩; have HQ := Lib.hid (cell_keep HK14.out HQ0.out))
          refine wp_region_held_drew (S := Keeps (fun _ => False) w14) (by kernel_rfl) (Keeps.refl _ _).drew (fun hHeld => ?_)
          refine wpAnyH_take (i := 0) (oi := ⟨some 99, _, _, _, _, _⟩) (v := ?_) rfl (by kernel_rfl) (by kernel_rfl) (by kernel_rfl) (fun _ _ _ h => h) (Or.inl ⟨by rfl, ?_⟩) hHeld ?_
          rotate_left
          · intro w' hSw
            go_simp
            first | done | rfl
          try simp only [Act.put, List.setIfInBounds_toArray, List.set_cons_zero, List.set_cons_succ]
          refine wpAnyH_take (i := 1) (oi := ⟨some 100, _, _, _, _, _⟩) (v := ?_) rfl (by kernel_rfl) (by kernel_rfl) (by kernel_rfl) (fun _ _ _ h => h) (Or.inl ⟨by rfl, ?_⟩) hHeld ?_
          rotate_left
          · intro w' hSw
            go_simp
            first | done | rfl
          try simp only [Act.put, List.setIfInBounds_toArray, List.set_cons_zero, List.set_cons_succ]
          refine wpAnyH_take (i := 2) (oi := ⟨some 101, _, _, _, _, _⟩) (v := ?_) rfl (by kernel_rfl) (by kernel_rfl) (by kernel_rfl) (fun _ _ _ h => h) (Or.inl ⟨by rfl, ?_⟩) hHeld ?_
          rotate_left
          · intro w' hSw
            go_simp
            first | done | rfl
          try simp only [Act.put, List.setIfInBounds_toArray, List.set_cons_zero, List.set_cons_succ]
          refine wpAnyH_take (i := 3) (oi := ⟨some 102, _, _, _, _, _⟩) (v := ?_) rfl (by kernel_rfl) (by kernel_rfl) (by kernel_rfl) (fun _ _ _ h => h) (Or.inl ⟨by rfl, ?_⟩) hHeld ?_
          rotate_left
          · intro w' hSw
            go_simp
            first | done | rfl
          try simp only [Act.put, List.setIfInBounds_toArray, List.set_cons_zero, List.set_cons_succ]
          refine wpAnyH_take (i := 4) (oi := ⟨some 103, _, _, _, _, _⟩) (v := ?_) rfl (by kernel_rfl) (by kernel_rfl) (by kernel_rfl) (fun _ _ _ h => h) (Or.inl ⟨by rfl, ?_⟩) hHeld ?_
          rotate_left
          · intro w' hSw
            go_simp
            first | done | rfl
          try simp only [Act.put, List.setIfInBounds_toArray, List.set_cons_zero, List.set_cons_succ]
          refine wpAnyH_take (i := 5) (oi := ⟨some 104, _, _, _, _, _⟩) (v := ?_) rfl (by kernel_rfl) (by kernel_rfl) (by kernel_rfl) (fun _ _ _ h => h) (Or.inl ⟨by rfl, ?_⟩) hHeld ?_
          rotate_left
          · intro w' hSw
            have cv := cell_keep hSw HQ.out
            go_simp
            first | done | rfl
          try simp only [Act.put, List.setIfInBounds_toArray, List.set_cons_zero, List.set_cons_succ]
          refine wpAnyH_take (i := 6) (oi := ⟨some 105, _, _, _, _, _⟩) (v := ?_) rfl (by kernel_rfl) (by kernel_rfl) (by kernel_rfl) (fun _ _ _ h => h) (Or.inl ⟨by rfl, ?_⟩) hHeld ?_
          rotate_left
          · intro w' hSw
            go_simp
            first | done | rfl
          try simp only [Act.put, List.setIfInBounds_toArray, List.set_cons_zero, List.set_cons_succ]
          refine wpAnyH_take (i := 7) (oi := ⟨some 106, _, _, _, _, _⟩) (v := ?_) rfl (by kernel_rfl) (by kernel_rfl) (by kernel_rfl) (fun _ _ _ h => h) (Or.inl ⟨by rfl, ?_⟩) hHeld ?_
          rotate_left
          · intro w' hSw
            go_simp
            first | done | rfl
          try simp only [Act.put, List.setIfInBounds_toArray, List.set_cons_zero, List.set_cons_succ]
          refine wpAnyH_take (i := 8) (oi := ⟨some 107, _, _, _, _, _⟩) (v := ?_) rfl (by kernel_rfl) (by kernel_rfl) (by kernel_rfl) (fun _ _ _ h => h) (Or.inl ⟨by rfl, ?_⟩) hHeld ?_
          rotate_left
          · intro w' hSw
            go_simp
            first | done | rfl
          try simp only [Act.put, List.setIfInBounds_toArray, List.set_cons_zero, List.set_cons_succ]
          refine wpAnyH_take (i := 9) (oi := ⟨some 108, _, _, _, _, _⟩) (v := ?_) rfl (by kernel_rfl) (by kernel_rfl) (by kernel_rfl) (fun _ _ _ h => h) (Or.inl ⟨by rfl, ?_⟩) hHeld ?_
          rotate_left
          · intro w' hSw
            go_simp
            first | done | rfl
          try simp only [Act.put, List.setIfInBounds_toArray, List.set_cons_zero, List.set_cons_succ]
          refine wpAnyH_take (i := 10) (oi := ⟨some 109, _, _, _, _, _⟩) (v := ?_) rfl (by kernel_rfl) (by kernel_rfl) (by kernel_rfl) (fun _ _ _ h => h) (Or.inl ⟨by rfl, ?_⟩) hHeld ?_
          rotate_left
          · intro w' hSw
            go_simp
            first | done | rfl
          try simp only [Act.put, List.setIfInBounds_toArray, List.set_cons_zero, List.set_cons_succ]
          refine wpAnyH_take (i := 11) (oi := ⟨some 110, _, _, _, _, _⟩) (v := ?_) rfl (by kernel_rfl) (by kernel_rfl) (by kernel_rfl) (fun _ _ _ h => h) (Or.inl ⟨by rfl, ?_⟩) hHeld ?_
          rotate_left
          · intro w' hSw
            go_simp
            first | done | rfl
          try simp only [Act.put, List.setIfInBounds_toArray, List.set_cons_zero, List.set_cons_succ]
          refine wpAnyH_take (i := 12) (oi := ⟨some 111, _, _, _, _, _⟩) (v := ?_) rfl (by kernel_rfl) (by kernel_rfl) (by kernel_rfl) (fun _ _ _ h => h) (Or.inl ⟨by rfl, ?_⟩) hHeld ?_
          rotate_left
          · intro w' hSw
            go_simp
            first | done | rfl
          try simp only [Act.put, List.setIfInBounds_toArray, List.set_cons_zero, List.set_cons_succ]
          refine wpAnyH_take (i := 13) (oi := ⟨some 112, _, _, _, _, _⟩) (v := ?_) rfl (by kernel_rfl) (by kernel_rfl) (by kernel_rfl) (fun _ _ _ h => h) (Or.inl ⟨by rfl, ?_⟩) hHeld ?_
          rotate_left
          · intro w' hSw
            go_simp
            first | done | rfl
          try simp only [Act.put, List.setIfInBounds_toArray, List.set_cons_zero, List.set_cons_succ]
          refine wpAnyH_take (i := 14) (oi := ⟨some 113, _, _, _, _, _⟩) (v := ?_) rfl (by kernel_rfl) (by kernel_rfl) (by kernel_rfl) (fun _ _ _ h => h) (Or.inl ⟨by rfl, ?_⟩) hHeld ?_
          rotate_left
          · intro w' hSw
            go_simp
            first | done | rfl
          try simp only [Act.put, List.setIfInBounds_toArray, List.set_cons_zero, List.set_cons_succ]
          refine wpAnyH_take (i := 15) (oi := ⟨some 114, _, _, _, _, _⟩) (v := ?_) rfl (by kernel_rfl) (by kernel_rfl) (by kernel_rfl) (fun _ _ _ h => h) (Or.inl ⟨by rfl, ?_⟩) hHeld ?_
          rotate_left
          · intro w' hSw
            go_simp
            first | done | rfl
          try simp only [Act.put, List.setIfInBounds_toArray, List.set_cons_zero, List.set_cons_succ]
          refine wpAnyH_done (by kernel_rfl) ?_ _
          go_upto_region 21 with fail
          refine gen_codeF (fun W => Keeps (fun _ => False) wr W) (HK14.out.trans hHeld (fun _ _ h => h)) ?_
          intro w15 h15
          have HK15 := Lib.hid h15
          clear h15 hHeld HK14 HQ HQ0 HT q0
          go_wp2
          go_roundg (5 - (0 + 1))
          case measure => rw [HG2.out]; omega
          case rel => exact ⟨0 + 1, 1, rfl, by omega, by first | rfl | go_num, rfl, Lib.hid ⟨HA.out.1.trans HK15.out (fun _ _ h => h), HK15.out.blk HA.out.2 (fun h => h)⟩⟩
        | some x =>
          obtain ⟨a, rfl⟩ := x1_num (firstT_place HO.out.1.symm).1
          have HQ0 : Hid (wr.cell? ⟨gg, 0, none⟩ = some (.bool true)) := Lib.hid (HGB.out.cell 0)
          have q0 : wr.cell? ⟨gq, 0, none⟩ = some (.int .i64 2) := HA.out.2.cell 0
          have HT : Hid (∀ W, Keeps (fun _ => False) w W → Calls Tryd.prog 12 #[.slice A n c, .int .i64 2] W fun e w' => e = .returned (.tuple #[.iface 33 (.int .i64 a), .nilIface]) ∧ Hid (Keeps (fun _ => False) W w' ∧ ∃ D, At D w' (.num a))) := Lib.hid fun W hW => (HAS.out W vt 2 hW rfl HVE.out).mono fun e w' h => by
            rw [← HO.out.1] at h
            obtain ⟨x2, D, h1, h2, h3, h4⟩ := h
            obtain rfl := x2_num h3
            simp only [vv] at h1
            exact ⟨h1, Lib.hid ⟨h2, D, h4⟩⟩
          obtain ⟨d, hfr⟩ := lfirst_found w5 A3 t.count c3 t vt _ 2 HVE.out HO.out.1.symm rfl (by have := HCN.out; omega) HSA.out
          have HR : Hid (∀ W, Keeps (fun _ => False) w5 W → Calls Tryd.prog 13 #[.slice A3 t.count c3, .int .i64 2] W fun e w' => e = .returned (.tuple #[.agg #[.int .i64 2, .int .i64 d, .int .i64 a, .int .i64 0, .string ⟨#[]⟩, .int .i64 0], .bool true]) ∧ Hid (Keeps (fun _ => False) W w')) := Lib.hid fun W hW => (hfr W hW).mono fun e w' h => ⟨h.1, Lib.hid h.2⟩
          clear hfr HFB HKW HAS HSA HCN HVE HO HGB
          go_upto_region 19 with (go_at_call 12; refine (HT.out _ HW.out).mono ?_; rintro e w14 ⟨rfl, HK14⟩; have HQ := Lib.hid (cell_keep HK14.out.1 HQ0.out))
          refine wp_region_held_drew (S := Keeps (fun _ => False) w14) (by kernel_rfl) (Keeps.refl _ _).drew (fun hHeld => ?_)
          refine wpAnyH_take (i := 0) (oi := ⟨some 99, _, _, _, _, _⟩) (v := ?_) rfl (by kernel_rfl) (by kernel_rfl) (by kernel_rfl) (fun _ _ _ h => h) (Or.inl ⟨by rfl, ?_⟩) hHeld ?_
          rotate_left
          · intro w' hSw
            go_simp
            first | done | rfl
          try simp only [Act.put, List.setIfInBounds_toArray, List.set_cons_zero, List.set_cons_succ]
          refine wpAnyH_take (i := 1) (oi := ⟨some 100, _, _, _, _, _⟩) (v := ?_) rfl (by kernel_rfl) (by kernel_rfl) (by kernel_rfl) (fun _ _ _ h => h) (Or.inl ⟨by rfl, ?_⟩) hHeld ?_
          rotate_left
          · intro w' hSw
            go_simp
            first | done | rfl
          try simp only [Act.put, List.setIfInBounds_toArray, List.set_cons_zero, List.set_cons_succ]
          refine wpAnyH_take (i := 2) (oi := ⟨some 101, _, _, _, _, _⟩) (v := ?_) rfl (by kernel_rfl) (by kernel_rfl) (by kernel_rfl) (fun _ _ _ h => h) (Or.inl ⟨by rfl, ?_⟩) hHeld ?_
          rotate_left
          · intro w' hSw
            go_simp
            first | done | rfl
          try simp only [Act.put, List.setIfInBounds_toArray, List.set_cons_zero, List.set_cons_succ]
          refine wpAnyH_take (i := 3) (oi := ⟨some 102, _, _, _, _, _⟩) (v := ?_) rfl (by kernel_rfl) (by kernel_rfl) (by kernel_rfl) (fun _ _ _ h => h) (Or.inl ⟨by rfl, ?_⟩) hHeld ?_
          rotate_left
          · intro w' hSw
            go_simp
            first | done | rfl
          try simp only [Act.put, List.setIfInBounds_toArray, List.set_cons_zero, List.set_cons_succ]
          refine wpAnyH_take (i := 4) (oi := ⟨some 103, _, _, _, _, _⟩) (v := ?_) rfl (by kernel_rfl) (by kernel_rfl) (by kernel_rfl) (fun _ _ _ h => h) (Or.inl ⟨by rfl, ?_⟩) hHeld ?_
          rotate_left
          · intro w' hSw
            go_simp
            first | done | rfl
          try simp only [Act.put, List.setIfInBounds_toArray, List.set_cons_zero, List.set_cons_succ]
          refine wpAnyH_take (i := 5) (oi := ⟨some 104, _, _, _, _, _⟩) (v := ?_) rfl (by kernel_rfl) (by kernel_rfl) (by kernel_rfl) (fun _ _ _ h => h) (Or.inl ⟨by rfl, ?_⟩) hHeld ?_
          rotate_left
          · intro w' hSw
            have cv := cell_keep hSw HQ.out
            go_simp
            first | done | rfl
          try simp only [Act.put, List.setIfInBounds_toArray, List.set_cons_zero, List.set_cons_succ]
          refine wpAnyH_take (i := 6) (oi := ⟨some 105, _, _, _, _, _⟩) (v := ?_) rfl (by kernel_rfl) (by kernel_rfl) (by kernel_rfl) (fun _ _ _ h => h) (Or.inl ⟨by rfl, ?_⟩) hHeld ?_
          rotate_left
          · intro w' hSw
            go_simp
            first | done | rfl
          try simp only [Act.put, List.setIfInBounds_toArray, List.set_cons_zero, List.set_cons_succ]
          refine wpAnyH_take (i := 7) (oi := ⟨some 106, _, _, _, _, _⟩) (v := ?_) rfl (by kernel_rfl) (by kernel_rfl) (by kernel_rfl) (fun _ _ _ h => h) (Or.inl ⟨by rfl, ?_⟩) hHeld ?_
          rotate_left
          · intro w' hSw
            go_simp
            first | done | rfl
          try simp only [Act.put, List.setIfInBounds_toArray, List.set_cons_zero, List.set_cons_succ]
          refine wpAnyH_take (i := 8) (oi := ⟨some 107, _, _, _, _, _⟩) (v := ?_) rfl (by kernel_rfl) (by kernel_rfl) (by kernel_rfl) (fun _ _ _ h => h) (Or.inl ⟨by rfl, ?_⟩) hHeld ?_
          rotate_left
          · intro w' hSw
            go_simp
            first | done | rfl
          try simp only [Act.put, List.setIfInBounds_toArray, List.set_cons_zero, List.set_cons_succ]
          refine wpAnyH_take (i := 9) (oi := ⟨some 108, _, _, _, _, _⟩) (v := ?_) rfl (by kernel_rfl) (by kernel_rfl) (by kernel_rfl) (fun _ _ _ h => h) (Or.inl ⟨by rfl, ?_⟩) hHeld ?_
          rotate_left
          · intro w' hSw
            go_simp
            first | done | rfl
          try simp only [Act.put, List.setIfInBounds_toArray, List.set_cons_zero, List.set_cons_succ]
          refine wpAnyH_take (i := 10) (oi := ⟨some 109, _, _, _, _, _⟩) (v := ?_) rfl (by kernel_rfl) (by kernel_rfl) (by kernel_rfl) (fun _ _ _ h => h) (Or.inl ⟨by rfl, ?_⟩) hHeld ?_
          rotate_left
          · intro w' hSw
            go_simp
            first | done | rfl
          try simp only [Act.put, List.setIfInBounds_toArray, List.set_cons_zero, List.set_cons_succ]
          refine wpAnyH_take (i := 11) (oi := ⟨some 110, _, _, _, _, _⟩) (v := undef) rfl (by kernel_rfl) (by kernel_rfl) (by kernel_rfl) (fun _ _ _ h => h) (Or.inr ⟨by rfl, rfl⟩) hHeld ?_
          try simp only [Act.put, List.setIfInBounds_toArray, List.set_cons_zero, List.set_cons_succ]
          refine wpAnyH_take (i := 12) (oi := ⟨some 111, _, _, _, _, _⟩) (v := undef) rfl (by kernel_rfl) (by kernel_rfl) (by kernel_rfl) (fun _ _ _ h => h) (Or.inr ⟨by rfl, rfl⟩) hHeld ?_
          try simp only [Act.put, List.setIfInBounds_toArray, List.set_cons_zero, List.set_cons_succ]
          refine wpAnyH_take (i := 13) (oi := ⟨some 112, _, _, _, _, _⟩) (v := undef) rfl (by kernel_rfl) (by kernel_rfl) (by kernel_rfl) (fun _ _ _ h => h) (Or.inr ⟨by rfl, rfl⟩) hHeld ?_
          try simp only [Act.put, List.setIfInBounds_toArray, List.set_cons_zero, List.set_cons_succ]
          refine wpAnyH_take (i := 14) (oi := ⟨some 113, _, _, _, _, _⟩) (v := ?_) rfl (by kernel_rfl) (by kernel_rfl) (by kernel_rfl) (fun _ _ _ h => h) (Or.inl ⟨by rfl, ?_⟩) hHeld ?_
          rotate_left
          · intro w' hSw
            go_simp
            first | done | rfl
          try simp only [Act.put, List.setIfInBounds_toArray, List.set_cons_zero, List.set_cons_succ]
          refine wpAnyH_take (i := 15) (oi := ⟨some 114, _, _, _, _, _⟩) (v := ?_) rfl (by kernel_rfl) (by kernel_rfl) (by kernel_rfl) (fun _ _ _ h => h) (Or.inl ⟨by rfl, ?_⟩) hHeld ?_
          rotate_left
          · intro w' hSw
            go_simp
            first | done | rfl
          try simp only [Act.put, List.setIfInBounds_toArray, List.set_cons_zero, List.set_cons_succ]
          refine wpAnyH_done (by kernel_rfl) ?_ _
          go_upto_region 21 with fail
          refine gen_codeF (fun W => Keeps (fun _ => False) wr W ∧ ∃ D, At D W (.num a)) ⟨HK14.out.1.trans hHeld (fun _ _ h => h), HK14.out.2.imp fun D h => h.keep hHeld (fun _ _ h => h)⟩ ?_
          intro w15 h15
          have HK15 := Lib.hid h15
          clear h15 hHeld HK14 HQ HQ0 HT q0
          go_upto_region 23 with (go_at_call 13; refine (HR.out _ (HFA.out.keep.trans HK15.out.1 (fun _ _ h => h))).mono ?_; rintro e w16 ⟨rfl, HK16⟩)
          obtain ⟨s, hs⟩ : ∃ s, s = w16.heap.size := ⟨_, rfl⟩
          rw [← hs]
          refine gen_codeF (fun W => Keeps (fun _ => False) wr W ∧ (∃ D, At D W (.num a)) ∧ Blk W s 36 [.int .i64 2, .int .i64 d, .int .i64 a, .int .i64 0, .string ⟨#[]⟩, .int .i64 0]) ⟨(HK15.out.1.trans HK16.out (fun _ _ h => h)).alloc _, HK15.out.2.imp fun D h => h.keep (HK16.out.alloc _) (fun _ _ h => h), by rw [hs]; exact Blk.new w16 _ _⟩ ?_
          intro w17 h17
          have HS17 := Lib.hid h17
          have HKD : Hid (Calls Tryd.prog 14 #[.iface 33 (.int .i64 a), .agg #[.int .i64 2, .int .i64 d, .int .i64 a, .int .i64 0, .string ⟨#[]⟩, .int .i64 0]] w17 fun e w' => e = .returned (.bool true) ∧ Hid (Keeps (fun _ => False) w17 w')) := Lib.hid (by
            obtain ⟨D, hD⟩ := h17.2.1
            exact (lkind_any w17 D (.num a) hD d).mono fun e w' h => ⟨h.1, Lib.hid h.2⟩)
          have cc0 := h17.2.2.cell 0
          have cc1 := h17.2.2.cell 1
          have cc2 := h17.2.2.cell 2
          have cc3 := h17.2.2.cell 3
          have cc4 := h17.2.2.cell 4
          have cc5 := h17.2.2.cell 5
          clear h17 hs HK15 HK16 HR
          have x0 := as_num_num
          go_wp2_with (go_at_call 14; refine HKD.out.mono ?_; rintro e w18 ⟨rfl, HK18⟩; have hk18 : Keeps (fun _ => False) wr w18 := HS17.out.1.trans HK18.out (fun _ _ h => h); have HKW18 := Lib.hid hk18; have y0 : w18.cell? ⟨g, 0, none⟩ = some (.int .i64 a) := (hk18.blk HFA.out.b1 (fun h => h)).cell 0; clear hk18)
          go_roundg (5 - (0 + 1))
          case measure => rw [HG2.out]; omega
          case rel => exact ⟨0 + 1, 1, rfl, by omega, by first | rfl | go_num, rfl, Lib.hid ⟨HA.out.1.trans HKW18.out (fun _ _ h => h), Keeps.blk HKW18.out HA.out.2 (fun h => h)⟩⟩
      · obtain rfl : i' = 1 := by omega
        clear hij hj hlt
        cases o2 with
        | none =>
          have HQ0 : Hid (wr.cell? ⟨gg, 1, none⟩ = some (.bool false)) := Lib.hid (HGB.out.cell 1)
          have q0 : wr.cell? ⟨gq, 1, none⟩ = some (.int .i64 3) := HA.out.2.cell 1
          have HT : Hid (∀ W, Keeps (fun _ => False) w W → Calls Tryd.prog 12 #[.slice A n c, .int .i64 3] W fun e w' => e = .returned (.tuple #[.nilIface, .iface 33 (.int .i64 4)]) ∧ Hid (Keeps (fun _ => False) W w')) := Lib.hid fun W hW => (HAS.out W vt 3 hW rfl HVE.out).mono fun e w' h => by
            rw [← HO.out.2.1] at h
            exact ⟨h.1, Lib.hid h.2⟩
          clear HFB HKW HAS HSA HCN HVE HO HFA HGB
          go_upto_region 19 with (go_at_call 12; refine (HT.out _ HW.out).mono ?_; rintro e w14 ⟨rfl, HK14⟩; have HQ := Lib.hid (cell_keep HK14.out HQ0.out))
          refine wp_region_held_drew (S := Keeps (fun _ => False) w14) (by kernel_rfl) (Keeps.refl _ _).drew (fun hHeld => ?_)
          refine wpAnyH_take (i := 0) (oi := ⟨some 99, _, _, _, _, _⟩) (v := ?_) rfl (by kernel_rfl) (by kernel_rfl) (by kernel_rfl) (fun _ _ _ h => h) (Or.inl ⟨by rfl, ?_⟩) hHeld ?_
          rotate_left
          · intro w' hSw
            go_simp
            first | done | rfl
          try simp only [Act.put, List.setIfInBounds_toArray, List.set_cons_zero, List.set_cons_succ]
          refine wpAnyH_take (i := 1) (oi := ⟨some 100, _, _, _, _, _⟩) (v := ?_) rfl (by kernel_rfl) (by kernel_rfl) (by kernel_rfl) (fun _ _ _ h => h) (Or.inl ⟨by rfl, ?_⟩) hHeld ?_
          rotate_left
          · intro w' hSw
            go_simp
            first | done | rfl
          try simp only [Act.put, List.setIfInBounds_toArray, List.set_cons_zero, List.set_cons_succ]
          refine wpAnyH_take (i := 2) (oi := ⟨some 101, _, _, _, _, _⟩) (v := ?_) rfl (by kernel_rfl) (by kernel_rfl) (by kernel_rfl) (fun _ _ _ h => h) (Or.inl ⟨by rfl, ?_⟩) hHeld ?_
          rotate_left
          · intro w' hSw
            go_simp
            first | done | rfl
          try simp only [Act.put, List.setIfInBounds_toArray, List.set_cons_zero, List.set_cons_succ]
          refine wpAnyH_take (i := 3) (oi := ⟨some 102, _, _, _, _, _⟩) (v := ?_) rfl (by kernel_rfl) (by kernel_rfl) (by kernel_rfl) (fun _ _ _ h => h) (Or.inl ⟨by rfl, ?_⟩) hHeld ?_
          rotate_left
          · intro w' hSw
            go_simp
            first | done | rfl
          try simp only [Act.put, List.setIfInBounds_toArray, List.set_cons_zero, List.set_cons_succ]
          refine wpAnyH_take (i := 4) (oi := ⟨some 103, _, _, _, _, _⟩) (v := ?_) rfl (by kernel_rfl) (by kernel_rfl) (by kernel_rfl) (fun _ _ _ h => h) (Or.inl ⟨by rfl, ?_⟩) hHeld ?_
          rotate_left
          · intro w' hSw
            go_simp
            first | done | rfl
          try simp only [Act.put, List.setIfInBounds_toArray, List.set_cons_zero, List.set_cons_succ]
          refine wpAnyH_take (i := 5) (oi := ⟨some 104, _, _, _, _, _⟩) (v := ?_) rfl (by kernel_rfl) (by kernel_rfl) (by kernel_rfl) (fun _ _ _ h => h) (Or.inl ⟨by rfl, ?_⟩) hHeld ?_
          rotate_left
          · intro w' hSw
            have cv := cell_keep hSw HQ.out
            go_simp
            first | done | rfl
          try simp only [Act.put, List.setIfInBounds_toArray, List.set_cons_zero, List.set_cons_succ]
          refine wpAnyH_take (i := 6) (oi := ⟨some 105, _, _, _, _, _⟩) (v := ?_) rfl (by kernel_rfl) (by kernel_rfl) (by kernel_rfl) (fun _ _ _ h => h) (Or.inl ⟨by rfl, ?_⟩) hHeld ?_
          rotate_left
          · intro w' hSw
            go_simp
            first | done | rfl
          try simp only [Act.put, List.setIfInBounds_toArray, List.set_cons_zero, List.set_cons_succ]
          refine wpAnyH_take (i := 7) (oi := ⟨some 106, _, _, _, _, _⟩) (v := ?_) rfl (by kernel_rfl) (by kernel_rfl) (by kernel_rfl) (fun _ _ _ h => h) (Or.inl ⟨by rfl, ?_⟩) hHeld ?_
          rotate_left
          · intro w' hSw
            go_simp
            first | done | rfl
          try simp only [Act.put, List.setIfInBounds_toArray, List.set_cons_zero, List.set_cons_succ]
          refine wpAnyH_take (i := 8) (oi := ⟨some 107, _, _, _, _, _⟩) (v := ?_) rfl (by kernel_rfl) (by kernel_rfl) (by kernel_rfl) (fun _ _ _ h => h) (Or.inl ⟨by rfl, ?_⟩) hHeld ?_
          rotate_left
          · intro w' hSw
            go_simp
            first | done | rfl
          try simp only [Act.put, List.setIfInBounds_toArray, List.set_cons_zero, List.set_cons_succ]
          refine wpAnyH_take (i := 9) (oi := ⟨some 108, _, _, _, _, _⟩) (v := ?_) rfl (by kernel_rfl) (by kernel_rfl) (by kernel_rfl) (fun _ _ _ h => h) (Or.inl ⟨by rfl, ?_⟩) hHeld ?_
          rotate_left
          · intro w' hSw
            go_simp
            first | done | rfl
          try simp only [Act.put, List.setIfInBounds_toArray, List.set_cons_zero, List.set_cons_succ]
          refine wpAnyH_take (i := 10) (oi := ⟨some 109, _, _, _, _, _⟩) (v := ?_) rfl (by kernel_rfl) (by kernel_rfl) (by kernel_rfl) (fun _ _ _ h => h) (Or.inl ⟨by rfl, ?_⟩) hHeld ?_
          rotate_left
          · intro w' hSw
            go_simp
            first | done | rfl
          try simp only [Act.put, List.setIfInBounds_toArray, List.set_cons_zero, List.set_cons_succ]
          refine wpAnyH_take (i := 11) (oi := ⟨some 110, _, _, _, _, _⟩) (v := ?_) rfl (by kernel_rfl) (by kernel_rfl) (by kernel_rfl) (fun _ _ _ h => h) (Or.inl ⟨by rfl, ?_⟩) hHeld ?_
          rotate_left
          · intro w' hSw
            go_simp
            first | done | rfl
          try simp only [Act.put, List.setIfInBounds_toArray, List.set_cons_zero, List.set_cons_succ]
          refine wpAnyH_take (i := 12) (oi := ⟨some 111, _, _, _, _, _⟩) (v := ?_) rfl (by kernel_rfl) (by kernel_rfl) (by kernel_rfl) (fun _ _ _ h => h) (Or.inl ⟨by rfl, ?_⟩) hHeld ?_
          rotate_left
          · intro w' hSw
            go_simp
            first | done | rfl
          try simp only [Act.put, List.setIfInBounds_toArray, List.set_cons_zero, List.set_cons_succ]
          refine wpAnyH_take (i := 13) (oi := ⟨some 112, _, _, _, _, _⟩) (v := ?_) rfl (by kernel_rfl) (by kernel_rfl) (by kernel_rfl) (fun _ _ _ h => h) (Or.inl ⟨by rfl, ?_⟩) hHeld ?_
          rotate_left
          · intro w' hSw
            go_simp
            first | done | rfl
          try simp only [Act.put, List.setIfInBounds_toArray, List.set_cons_zero, List.set_cons_succ]
          refine wpAnyH_take (i := 14) (oi := ⟨some 113, _, _, _, _, _⟩) (v := ?_) rfl (by kernel_rfl) (by kernel_rfl) (by kernel_rfl) (fun _ _ _ h => h) (Or.inl ⟨by rfl, ?_⟩) hHeld ?_
          rotate_left
          · intro w' hSw
            go_simp
            first | done | rfl
          try simp only [Act.put, List.setIfInBounds_toArray, List.set_cons_zero, List.set_cons_succ]
          refine wpAnyH_take (i := 15) (oi := ⟨some 114, _, _, _, _, _⟩) (v := ?_) rfl (by kernel_rfl) (by kernel_rfl) (by kernel_rfl) (fun _ _ _ h => h) (Or.inl ⟨by rfl, ?_⟩) hHeld ?_
          rotate_left
          · intro w' hSw
            go_simp
            first | done | rfl
          try simp only [Act.put, List.setIfInBounds_toArray, List.set_cons_zero, List.set_cons_succ]
          refine wpAnyH_done (by kernel_rfl) ?_ _
          go_upto_region 21 with fail
          refine gen_codeF (fun W => Keeps (fun _ => False) wr W) (HK14.out.trans hHeld (fun _ _ h => h)) ?_
          intro w15 h15
          have HK15 := Lib.hid h15
          clear h15 hHeld HK14 HQ HQ0 HT q0
          go_wp2
          go_roundg (5 - (1 + 1))
          case measure => rw [HG2.out]; omega
          case rel => exact ⟨1 + 1, 2, rfl, by omega, by first | rfl | go_num, rfl, Lib.hid ⟨HA.out.1.trans HK15.out (fun _ _ h => h), HK15.out.blk HA.out.2 (fun h => h)⟩⟩
        | some x =>
          obtain ⟨a, b, rfl⟩ := x1_spot (firstT_place HO.out.2.1.symm).1
          have HQ0 : Hid (wr.cell? ⟨gg, 1, none⟩ = some (.bool true)) := Lib.hid (HGB.out.cell 1)
          have q0 : wr.cell? ⟨gq, 1, none⟩ = some (.int .i64 3) := HA.out.2.cell 1
          have HT : Hid (∀ W, Keeps (fun _ => False) w W → Calls Tryd.prog 12 #[.slice A n c, .int .i64 3] W fun e w' => e = .returned (.tuple #[.iface 40 (.agg #[.int .i64 a, .int .i64 b]), .nilIface]) ∧ Hid (Keeps (fun _ => False) W w' ∧ ∃ D, At D w' (.spot a b))) := Lib.hid fun W hW => (HAS.out W vt 3 hW rfl HVE.out).mono fun e w' h => by
            rw [← HO.out.2.1] at h
            obtain ⟨x2, D, h1, h2, h3, h4⟩ := h
            obtain rfl := x2_spot h3
            simp only [vv] at h1
            exact ⟨h1, Lib.hid ⟨h2, D, h4⟩⟩
          obtain ⟨d, hfr⟩ := lfirst_found w5 A3 t.count c3 t vt _ 3 HVE.out HO.out.2.1.symm rfl (by have := HCN.out; omega) HSA.out
          have HR : Hid (∀ W, Keeps (fun _ => False) w5 W → Calls Tryd.prog 13 #[.slice A3 t.count c3, .int .i64 3] W fun e w' => e = .returned (.tuple #[.agg #[.int .i64 3, .int .i64 d, .int .i64 a, .int .i64 b, .string ⟨#[]⟩, .int .i64 0], .bool true]) ∧ Hid (Keeps (fun _ => False) W w')) := Lib.hid fun W hW => (hfr W hW).mono fun e w' h => ⟨h.1, Lib.hid h.2⟩
          clear hfr HFB HKW HAS HSA HCN HVE HO HGB
          go_upto_region 19 with (go_at_call 12; refine (HT.out _ HW.out).mono ?_; rintro e w14 ⟨rfl, HK14⟩; have HQ := Lib.hid (cell_keep HK14.out.1 HQ0.out))
          refine wp_region_held_drew (S := Keeps (fun _ => False) w14) (by kernel_rfl) (Keeps.refl _ _).drew (fun hHeld => ?_)
          refine wpAnyH_take (i := 0) (oi := ⟨some 99, _, _, _, _, _⟩) (v := ?_) rfl (by kernel_rfl) (by kernel_rfl) (by kernel_rfl) (fun _ _ _ h => h) (Or.inl ⟨by rfl, ?_⟩) hHeld ?_
          rotate_left
          · intro w' hSw
            go_simp
            first | done | rfl
          try simp only [Act.put, List.setIfInBounds_toArray, List.set_cons_zero, List.set_cons_succ]
          refine wpAnyH_take (i := 1) (oi := ⟨some 100, _, _, _, _, _⟩) (v := ?_) rfl (by kernel_rfl) (by kernel_rfl) (by kernel_rfl) (fun _ _ _ h => h) (Or.inl ⟨by rfl, ?_⟩) hHeld ?_
          rotate_left
          · intro w' hSw
            go_simp
            first | done | rfl
          try simp only [Act.put, List.setIfInBounds_toArray, List.set_cons_zero, List.set_cons_succ]
          refine wpAnyH_take (i := 2) (oi := ⟨some 101, _, _, _, _, _⟩) (v := ?_) rfl (by kernel_rfl) (by kernel_rfl) (by kernel_rfl) (fun _ _ _ h => h) (Or.inl ⟨by rfl, ?_⟩) hHeld ?_
          rotate_left
          · intro w' hSw
            go_simp
            first | done | rfl
          try simp only [Act.put, List.setIfInBounds_toArray, List.set_cons_zero, List.set_cons_succ]
          refine wpAnyH_take (i := 3) (oi := ⟨some 102, _, _, _, _, _⟩) (v := ?_) rfl (by kernel_rfl) (by kernel_rfl) (by kernel_rfl) (fun _ _ _ h => h) (Or.inl ⟨by rfl, ?_⟩) hHeld ?_
          rotate_left
          · intro w' hSw
            go_simp
            first | done | rfl
          try simp only [Act.put, List.setIfInBounds_toArray, List.set_cons_zero, List.set_cons_succ]
          refine wpAnyH_take (i := 4) (oi := ⟨some 103, _, _, _, _, _⟩) (v := ?_) rfl (by kernel_rfl) (by kernel_rfl) (by kernel_rfl) (fun _ _ _ h => h) (Or.inl ⟨by rfl, ?_⟩) hHeld ?_
          rotate_left
          · intro w' hSw
            go_simp
            first | done | rfl
          try simp only [Act.put, List.setIfInBounds_toArray, List.set_cons_zero, List.set_cons_succ]
          refine wpAnyH_take (i := 5) (oi := ⟨some 104, _, _, _, _, _⟩) (v := ?_) rfl (by kernel_rfl) (by kernel_rfl) (by kernel_rfl) (fun _ _ _ h => h) (Or.inl ⟨by rfl, ?_⟩) hHeld ?_
          rotate_left
          · intro w' hSw
            have cv := cell_keep hSw HQ.out
            go_simp
            first | done | rfl
          try simp only [Act.put, List.setIfInBounds_toArray, List.set_cons_zero, List.set_cons_succ]
          refine wpAnyH_take (i := 6) (oi := ⟨some 105, _, _, _, _, _⟩) (v := ?_) rfl (by kernel_rfl) (by kernel_rfl) (by kernel_rfl) (fun _ _ _ h => h) (Or.inl ⟨by rfl, ?_⟩) hHeld ?_
          rotate_left
          · intro w' hSw
            go_simp
            first | done | rfl
          try simp only [Act.put, List.setIfInBounds_toArray, List.set_cons_zero, List.set_cons_succ]
          refine wpAnyH_take (i := 7) (oi := ⟨some 106, _, _, _, _, _⟩) (v := ?_) rfl (by kernel_rfl) (by kernel_rfl) (by kernel_rfl) (fun _ _ _ h => h) (Or.inl ⟨by rfl, ?_⟩) hHeld ?_
          rotate_left
          · intro w' hSw
            go_simp
            first | done | rfl
          try simp only [Act.put, List.setIfInBounds_toArray, List.set_cons_zero, List.set_cons_succ]
          refine wpAnyH_take (i := 8) (oi := ⟨some 107, _, _, _, _, _⟩) (v := ?_) rfl (by kernel_rfl) (by kernel_rfl) (by kernel_rfl) (fun _ _ _ h => h) (Or.inl ⟨by rfl, ?_⟩) hHeld ?_
          rotate_left
          · intro w' hSw
            go_simp
            first | done | rfl
          try simp only [Act.put, List.setIfInBounds_toArray, List.set_cons_zero, List.set_cons_succ]
          refine wpAnyH_take (i := 9) (oi := ⟨some 108, _, _, _, _, _⟩) (v := ?_) rfl (by kernel_rfl) (by kernel_rfl) (by kernel_rfl) (fun _ _ _ h => h) (Or.inl ⟨by rfl, ?_⟩) hHeld ?_
          rotate_left
          · intro w' hSw
            go_simp
            first | done | rfl
          try simp only [Act.put, List.setIfInBounds_toArray, List.set_cons_zero, List.set_cons_succ]
          refine wpAnyH_take (i := 10) (oi := ⟨some 109, _, _, _, _, _⟩) (v := ?_) rfl (by kernel_rfl) (by kernel_rfl) (by kernel_rfl) (fun _ _ _ h => h) (Or.inl ⟨by rfl, ?_⟩) hHeld ?_
          rotate_left
          · intro w' hSw
            go_simp
            first | done | rfl
          try simp only [Act.put, List.setIfInBounds_toArray, List.set_cons_zero, List.set_cons_succ]
          refine wpAnyH_take (i := 11) (oi := ⟨some 110, _, _, _, _, _⟩) (v := undef) rfl (by kernel_rfl) (by kernel_rfl) (by kernel_rfl) (fun _ _ _ h => h) (Or.inr ⟨by rfl, rfl⟩) hHeld ?_
          try simp only [Act.put, List.setIfInBounds_toArray, List.set_cons_zero, List.set_cons_succ]
          refine wpAnyH_take (i := 12) (oi := ⟨some 111, _, _, _, _, _⟩) (v := undef) rfl (by kernel_rfl) (by kernel_rfl) (by kernel_rfl) (fun _ _ _ h => h) (Or.inr ⟨by rfl, rfl⟩) hHeld ?_
          try simp only [Act.put, List.setIfInBounds_toArray, List.set_cons_zero, List.set_cons_succ]
          refine wpAnyH_take (i := 13) (oi := ⟨some 112, _, _, _, _, _⟩) (v := undef) rfl (by kernel_rfl) (by kernel_rfl) (by kernel_rfl) (fun _ _ _ h => h) (Or.inr ⟨by rfl, rfl⟩) hHeld ?_
          try simp only [Act.put, List.setIfInBounds_toArray, List.set_cons_zero, List.set_cons_succ]
          refine wpAnyH_take (i := 14) (oi := ⟨some 113, _, _, _, _, _⟩) (v := ?_) rfl (by kernel_rfl) (by kernel_rfl) (by kernel_rfl) (fun _ _ _ h => h) (Or.inl ⟨by rfl, ?_⟩) hHeld ?_
          rotate_left
          · intro w' hSw
            go_simp
            first | done | rfl
          try simp only [Act.put, List.setIfInBounds_toArray, List.set_cons_zero, List.set_cons_succ]
          refine wpAnyH_take (i := 15) (oi := ⟨some 114, _, _, _, _, _⟩) (v := ?_) rfl (by kernel_rfl) (by kernel_rfl) (by kernel_rfl) (fun _ _ _ h => h) (Or.inl ⟨by rfl, ?_⟩) hHeld ?_
          rotate_left
          · intro w' hSw
            go_simp
            first | done | rfl
          try simp only [Act.put, List.setIfInBounds_toArray, List.set_cons_zero, List.set_cons_succ]
          refine wpAnyH_done (by kernel_rfl) ?_ _
          go_upto_region 21 with fail
          refine gen_codeF (fun W => Keeps (fun _ => False) wr W ∧ ∃ D, At D W (.spot a b)) ⟨HK14.out.1.trans hHeld (fun _ _ h => h), HK14.out.2.imp fun D h => h.keep hHeld (fun _ _ h => h)⟩ ?_
          intro w15 h15
          have HK15 := Lib.hid h15
          clear h15 hHeld HK14 HQ HQ0 HT q0
          go_upto_region 23 with (go_at_call 13; refine (HR.out _ (HFA.out.keep.trans HK15.out.1 (fun _ _ h => h))).mono ?_; rintro e w16 ⟨rfl, HK16⟩)
          obtain ⟨s, hs⟩ : ∃ s, s = w16.heap.size := ⟨_, rfl⟩
          rw [← hs]
          refine gen_codeF (fun W => Keeps (fun _ => False) wr W ∧ (∃ D, At D W (.spot a b)) ∧ Blk W s 36 [.int .i64 3, .int .i64 d, .int .i64 a, .int .i64 b, .string ⟨#[]⟩, .int .i64 0]) ⟨(HK15.out.1.trans HK16.out (fun _ _ h => h)).alloc _, HK15.out.2.imp fun D h => h.keep (HK16.out.alloc _) (fun _ _ h => h), by rw [hs]; exact Blk.new w16 _ _⟩ ?_
          intro w17 h17
          have HS17 := Lib.hid h17
          have HKD : Hid (Calls Tryd.prog 14 #[.iface 40 (.agg #[.int .i64 a, .int .i64 b]), .agg #[.int .i64 3, .int .i64 d, .int .i64 a, .int .i64 b, .string ⟨#[]⟩, .int .i64 0]] w17 fun e w' => e = .returned (.bool true) ∧ Hid (Keeps (fun _ => False) w17 w')) := Lib.hid (by
            obtain ⟨D, hD⟩ := h17.2.1
            exact (lkind_any w17 D (.spot a b) hD d).mono fun e w' h => ⟨h.1, Lib.hid h.2⟩)
          have cc0 := h17.2.2.cell 0
          have cc1 := h17.2.2.cell 1
          have cc2 := h17.2.2.cell 2
          have cc3 := h17.2.2.cell 3
          have cc4 := h17.2.2.cell 4
          have cc5 := h17.2.2.cell 5
          clear h17 hs HK15 HK16 HR
          have x0 := as_spot_num
          have x1 := as_spot_spot
          go_wp2_with (go_at_call 14; refine HKD.out.mono ?_; rintro e w18 ⟨rfl, HK18⟩; have hk18 : Keeps (fun _ => False) wr w18 := HS17.out.1.trans HK18.out (fun _ _ h => h); have HKW18 := Lib.hid hk18; have y0 : (w18.alloc (.cells #[.int .i64 a, .int .i64 b] 40)).cell? ⟨g + 1, 0, none⟩ = some (.int .i64 a) := ((hk18.blk HFA.out.b2 (fun h => h)).alloc _).cell 0; have u0 : (w18.alloc (.cells #[.int .i64 a, .int .i64 b] 40)).cell? ⟨w18.heap.size, 0, none⟩ = some (.int .i64 a) := (Blk.new w18 40 [.int .i64 a, .int .i64 b]).cell 0; have y1 : (w18.alloc (.cells #[.int .i64 a, .int .i64 b] 40)).cell? ⟨g + 1, 1, none⟩ = some (.int .i64 b) := ((hk18.blk HFA.out.b2 (fun h => h)).alloc _).cell 1; have u1 : (w18.alloc (.cells #[.int .i64 a, .int .i64 b] 40)).cell? ⟨w18.heap.size, 1, none⟩ = some (.int .i64 b) := (Blk.new w18 40 [.int .i64 a, .int .i64 b]).cell 1; clear hk18)
          go_roundg (5 - (1 + 1))
          case measure => rw [HG2.out]; omega
          case rel => exact ⟨1 + 1, 2, rfl, by omega, by first | rfl | go_num, rfl, Lib.hid ⟨HA.out.1.trans (HKW18.out.alloc _) (fun _ _ h => h), Keeps.blk (HKW18.out.alloc _) HA.out.2 (fun h => h)⟩⟩
      · obtain rfl : i' = 2 := by omega
        clear hij hj hlt
        cases o3 with
        | none =>
          have HQ0 : Hid (wr.cell? ⟨gg, 2, none⟩ = some (.bool false)) := Lib.hid (HGB.out.cell 2)
          have q0 : wr.cell? ⟨gq, 2, none⟩ = some (.int .i64 4) := HA.out.2.cell 2
          have HT : Hid (∀ W, Keeps (fun _ => False) w W → Calls Tryd.prog 12 #[.slice A n c, .int .i64 4] W fun e w' => e = .returned (.tuple #[.nilIface, .iface 33 (.int .i64 4)]) ∧ Hid (Keeps (fun _ => False) W w')) := Lib.hid fun W hW => (HAS.out W vt 4 hW rfl HVE.out).mono fun e w' h => by
            rw [← HO.out.2.2.1] at h
            exact ⟨h.1, Lib.hid h.2⟩
          clear HFB HKW HAS HSA HCN HVE HO HFA HGB
          go_upto_region 19 with (go_at_call 12; refine (HT.out _ HW.out).mono ?_; rintro e w14 ⟨rfl, HK14⟩; have HQ := Lib.hid (cell_keep HK14.out HQ0.out))
          refine wp_region_held_drew (S := Keeps (fun _ => False) w14) (by kernel_rfl) (Keeps.refl _ _).drew (fun hHeld => ?_)
          refine wpAnyH_take (i := 0) (oi := ⟨some 99, _, _, _, _, _⟩) (v := ?_) rfl (by kernel_rfl) (by kernel_rfl) (by kernel_rfl) (fun _ _ _ h => h) (Or.inl ⟨by rfl, ?_⟩) hHeld ?_
          rotate_left
          · intro w' hSw
            go_simp
            first | done | rfl
          try simp only [Act.put, List.setIfInBounds_toArray, List.set_cons_zero, List.set_cons_succ]
          refine wpAnyH_take (i := 1) (oi := ⟨some 100, _, _, _, _, _⟩) (v := ?_) rfl (by kernel_rfl) (by kernel_rfl) (by kernel_rfl) (fun _ _ _ h => h) (Or.inl ⟨by rfl, ?_⟩) hHeld ?_
          rotate_left
          · intro w' hSw
            go_simp
            first | done | rfl
          try simp only [Act.put, List.setIfInBounds_toArray, List.set_cons_zero, List.set_cons_succ]
          refine wpAnyH_take (i := 2) (oi := ⟨some 101, _, _, _, _, _⟩) (v := ?_) rfl (by kernel_rfl) (by kernel_rfl) (by kernel_rfl) (fun _ _ _ h => h) (Or.inl ⟨by rfl, ?_⟩) hHeld ?_
          rotate_left
          · intro w' hSw
            go_simp
            first | done | rfl
          try simp only [Act.put, List.setIfInBounds_toArray, List.set_cons_zero, List.set_cons_succ]
          refine wpAnyH_take (i := 3) (oi := ⟨some 102, _, _, _, _, _⟩) (v := ?_) rfl (by kernel_rfl) (by kernel_rfl) (by kernel_rfl) (fun _ _ _ h => h) (Or.inl ⟨by rfl, ?_⟩) hHeld ?_
          rotate_left
          · intro w' hSw
            go_simp
            first | done | rfl
          try simp only [Act.put, List.setIfInBounds_toArray, List.set_cons_zero, List.set_cons_succ]
          refine wpAnyH_take (i := 4) (oi := ⟨some 103, _, _, _, _, _⟩) (v := ?_) rfl (by kernel_rfl) (by kernel_rfl) (by kernel_rfl) (fun _ _ _ h => h) (Or.inl ⟨by rfl, ?_⟩) hHeld ?_
          rotate_left
          · intro w' hSw
            go_simp
            first | done | rfl
          try simp only [Act.put, List.setIfInBounds_toArray, List.set_cons_zero, List.set_cons_succ]
          refine wpAnyH_take (i := 5) (oi := ⟨some 104, _, _, _, _, _⟩) (v := ?_) rfl (by kernel_rfl) (by kernel_rfl) (by kernel_rfl) (fun _ _ _ h => h) (Or.inl ⟨by rfl, ?_⟩) hHeld ?_
          rotate_left
          · intro w' hSw
            have cv := cell_keep hSw HQ.out
            go_simp
            first | done | rfl
          try simp only [Act.put, List.setIfInBounds_toArray, List.set_cons_zero, List.set_cons_succ]
          refine wpAnyH_take (i := 6) (oi := ⟨some 105, _, _, _, _, _⟩) (v := ?_) rfl (by kernel_rfl) (by kernel_rfl) (by kernel_rfl) (fun _ _ _ h => h) (Or.inl ⟨by rfl, ?_⟩) hHeld ?_
          rotate_left
          · intro w' hSw
            go_simp
            first | done | rfl
          try simp only [Act.put, List.setIfInBounds_toArray, List.set_cons_zero, List.set_cons_succ]
          refine wpAnyH_take (i := 7) (oi := ⟨some 106, _, _, _, _, _⟩) (v := ?_) rfl (by kernel_rfl) (by kernel_rfl) (by kernel_rfl) (fun _ _ _ h => h) (Or.inl ⟨by rfl, ?_⟩) hHeld ?_
          rotate_left
          · intro w' hSw
            go_simp
            first | done | rfl
          try simp only [Act.put, List.setIfInBounds_toArray, List.set_cons_zero, List.set_cons_succ]
          refine wpAnyH_take (i := 8) (oi := ⟨some 107, _, _, _, _, _⟩) (v := ?_) rfl (by kernel_rfl) (by kernel_rfl) (by kernel_rfl) (fun _ _ _ h => h) (Or.inl ⟨by rfl, ?_⟩) hHeld ?_
          rotate_left
          · intro w' hSw
            go_simp
            first | done | rfl
          try simp only [Act.put, List.setIfInBounds_toArray, List.set_cons_zero, List.set_cons_succ]
          refine wpAnyH_take (i := 9) (oi := ⟨some 108, _, _, _, _, _⟩) (v := ?_) rfl (by kernel_rfl) (by kernel_rfl) (by kernel_rfl) (fun _ _ _ h => h) (Or.inl ⟨by rfl, ?_⟩) hHeld ?_
          rotate_left
          · intro w' hSw
            go_simp
            first | done | rfl
          try simp only [Act.put, List.setIfInBounds_toArray, List.set_cons_zero, List.set_cons_succ]
          refine wpAnyH_take (i := 10) (oi := ⟨some 109, _, _, _, _, _⟩) (v := ?_) rfl (by kernel_rfl) (by kernel_rfl) (by kernel_rfl) (fun _ _ _ h => h) (Or.inl ⟨by rfl, ?_⟩) hHeld ?_
          rotate_left
          · intro w' hSw
            go_simp
            first | done | rfl
          try simp only [Act.put, List.setIfInBounds_toArray, List.set_cons_zero, List.set_cons_succ]
          refine wpAnyH_take (i := 11) (oi := ⟨some 110, _, _, _, _, _⟩) (v := ?_) rfl (by kernel_rfl) (by kernel_rfl) (by kernel_rfl) (fun _ _ _ h => h) (Or.inl ⟨by rfl, ?_⟩) hHeld ?_
          rotate_left
          · intro w' hSw
            go_simp
            first | done | rfl
          try simp only [Act.put, List.setIfInBounds_toArray, List.set_cons_zero, List.set_cons_succ]
          refine wpAnyH_take (i := 12) (oi := ⟨some 111, _, _, _, _, _⟩) (v := ?_) rfl (by kernel_rfl) (by kernel_rfl) (by kernel_rfl) (fun _ _ _ h => h) (Or.inl ⟨by rfl, ?_⟩) hHeld ?_
          rotate_left
          · intro w' hSw
            go_simp
            first | done | rfl
          try simp only [Act.put, List.setIfInBounds_toArray, List.set_cons_zero, List.set_cons_succ]
          refine wpAnyH_take (i := 13) (oi := ⟨some 112, _, _, _, _, _⟩) (v := ?_) rfl (by kernel_rfl) (by kernel_rfl) (by kernel_rfl) (fun _ _ _ h => h) (Or.inl ⟨by rfl, ?_⟩) hHeld ?_
          rotate_left
          · intro w' hSw
            go_simp
            first | done | rfl
          try simp only [Act.put, List.setIfInBounds_toArray, List.set_cons_zero, List.set_cons_succ]
          refine wpAnyH_take (i := 14) (oi := ⟨some 113, _, _, _, _, _⟩) (v := ?_) rfl (by kernel_rfl) (by kernel_rfl) (by kernel_rfl) (fun _ _ _ h => h) (Or.inl ⟨by rfl, ?_⟩) hHeld ?_
          rotate_left
          · intro w' hSw
            go_simp
            first | done | rfl
          try simp only [Act.put, List.setIfInBounds_toArray, List.set_cons_zero, List.set_cons_succ]
          refine wpAnyH_take (i := 15) (oi := ⟨some 114, _, _, _, _, _⟩) (v := ?_) rfl (by kernel_rfl) (by kernel_rfl) (by kernel_rfl) (fun _ _ _ h => h) (Or.inl ⟨by rfl, ?_⟩) hHeld ?_
          rotate_left
          · intro w' hSw
            go_simp
            first | done | rfl
          try simp only [Act.put, List.setIfInBounds_toArray, List.set_cons_zero, List.set_cons_succ]
          refine wpAnyH_done (by kernel_rfl) ?_ _
          go_upto_region 21 with fail
          refine gen_codeF (fun W => Keeps (fun _ => False) wr W) (HK14.out.trans hHeld (fun _ _ h => h)) ?_
          intro w15 h15
          have HK15 := Lib.hid h15
          clear h15 hHeld HK14 HQ HQ0 HT q0
          go_wp2
          go_roundg (5 - (2 + 1))
          case measure => rw [HG2.out]; omega
          case rel => exact ⟨2 + 1, 3, rfl, by omega, by first | rfl | go_num, rfl, Lib.hid ⟨HA.out.1.trans HK15.out (fun _ _ h => h), HK15.out.blk HA.out.2 (fun h => h)⟩⟩
        | some x =>
          obtain ⟨a, b, rfl⟩ := x1_trail (firstT_place HO.out.2.2.1.symm).1
          have HQ0 : Hid (wr.cell? ⟨gg, 2, none⟩ = some (.bool true)) := Lib.hid (HGB.out.cell 2)
          have q0 : wr.cell? ⟨gq, 2, none⟩ = some (.int .i64 4) := HA.out.2.cell 2
          have HT : Hid (∀ W, Keeps (fun _ => False) w W → Calls Tryd.prog 12 #[.slice A n c, .int .i64 4] W fun e w' => e = .returned (.tuple #[.iface 42 (.agg #[.int .i64 a, .string b]), .nilIface]) ∧ Hid (Keeps (fun _ => False) W w' ∧ ∃ D, At D w' (.trail a b))) := Lib.hid fun W hW => (HAS.out W vt 4 hW rfl HVE.out).mono fun e w' h => by
            rw [← HO.out.2.2.1] at h
            obtain ⟨x2, D, h1, h2, h3, h4⟩ := h
            obtain rfl := x2_trail h3
            simp only [vv] at h1
            exact ⟨h1, Lib.hid ⟨h2, D, h4⟩⟩
          obtain ⟨d, hfr⟩ := lfirst_found w5 A3 t.count c3 t vt _ 4 HVE.out HO.out.2.2.1.symm rfl (by have := HCN.out; omega) HSA.out
          have HR : Hid (∀ W, Keeps (fun _ => False) w5 W → Calls Tryd.prog 13 #[.slice A3 t.count c3, .int .i64 4] W fun e w' => e = .returned (.tuple #[.agg #[.int .i64 4, .int .i64 d, .int .i64 a, .int .i64 0, .string b, .int .i64 0], .bool true]) ∧ Hid (Keeps (fun _ => False) W w')) := Lib.hid fun W hW => (hfr W hW).mono fun e w' h => ⟨h.1, Lib.hid h.2⟩
          clear hfr HFB HKW HAS HSA HCN HVE HO HGB
          go_upto_region 19 with (go_at_call 12; refine (HT.out _ HW.out).mono ?_; rintro e w14 ⟨rfl, HK14⟩; have HQ := Lib.hid (cell_keep HK14.out.1 HQ0.out))
          refine wp_region_held_drew (S := Keeps (fun _ => False) w14) (by kernel_rfl) (Keeps.refl _ _).drew (fun hHeld => ?_)
          refine wpAnyH_take (i := 0) (oi := ⟨some 99, _, _, _, _, _⟩) (v := ?_) rfl (by kernel_rfl) (by kernel_rfl) (by kernel_rfl) (fun _ _ _ h => h) (Or.inl ⟨by rfl, ?_⟩) hHeld ?_
          rotate_left
          · intro w' hSw
            go_simp
            first | done | rfl
          try simp only [Act.put, List.setIfInBounds_toArray, List.set_cons_zero, List.set_cons_succ]
          refine wpAnyH_take (i := 1) (oi := ⟨some 100, _, _, _, _, _⟩) (v := ?_) rfl (by kernel_rfl) (by kernel_rfl) (by kernel_rfl) (fun _ _ _ h => h) (Or.inl ⟨by rfl, ?_⟩) hHeld ?_
          rotate_left
          · intro w' hSw
            go_simp
            first | done | rfl
          try simp only [Act.put, List.setIfInBounds_toArray, List.set_cons_zero, List.set_cons_succ]
          refine wpAnyH_take (i := 2) (oi := ⟨some 101, _, _, _, _, _⟩) (v := ?_) rfl (by kernel_rfl) (by kernel_rfl) (by kernel_rfl) (fun _ _ _ h => h) (Or.inl ⟨by rfl, ?_⟩) hHeld ?_
          rotate_left
          · intro w' hSw
            go_simp
            first | done | rfl
          try simp only [Act.put, List.setIfInBounds_toArray, List.set_cons_zero, List.set_cons_succ]
          refine wpAnyH_take (i := 3) (oi := ⟨some 102, _, _, _, _, _⟩) (v := ?_) rfl (by kernel_rfl) (by kernel_rfl) (by kernel_rfl) (fun _ _ _ h => h) (Or.inl ⟨by rfl, ?_⟩) hHeld ?_
          rotate_left
          · intro w' hSw
            go_simp
            first | done | rfl
          try simp only [Act.put, List.setIfInBounds_toArray, List.set_cons_zero, List.set_cons_succ]
          refine wpAnyH_take (i := 4) (oi := ⟨some 103, _, _, _, _, _⟩) (v := ?_) rfl (by kernel_rfl) (by kernel_rfl) (by kernel_rfl) (fun _ _ _ h => h) (Or.inl ⟨by rfl, ?_⟩) hHeld ?_
          rotate_left
          · intro w' hSw
            go_simp
            first | done | rfl
          try simp only [Act.put, List.setIfInBounds_toArray, List.set_cons_zero, List.set_cons_succ]
          refine wpAnyH_take (i := 5) (oi := ⟨some 104, _, _, _, _, _⟩) (v := ?_) rfl (by kernel_rfl) (by kernel_rfl) (by kernel_rfl) (fun _ _ _ h => h) (Or.inl ⟨by rfl, ?_⟩) hHeld ?_
          rotate_left
          · intro w' hSw
            have cv := cell_keep hSw HQ.out
            go_simp
            first | done | rfl
          try simp only [Act.put, List.setIfInBounds_toArray, List.set_cons_zero, List.set_cons_succ]
          refine wpAnyH_take (i := 6) (oi := ⟨some 105, _, _, _, _, _⟩) (v := ?_) rfl (by kernel_rfl) (by kernel_rfl) (by kernel_rfl) (fun _ _ _ h => h) (Or.inl ⟨by rfl, ?_⟩) hHeld ?_
          rotate_left
          · intro w' hSw
            go_simp
            first | done | rfl
          try simp only [Act.put, List.setIfInBounds_toArray, List.set_cons_zero, List.set_cons_succ]
          refine wpAnyH_take (i := 7) (oi := ⟨some 106, _, _, _, _, _⟩) (v := ?_) rfl (by kernel_rfl) (by kernel_rfl) (by kernel_rfl) (fun _ _ _ h => h) (Or.inl ⟨by rfl, ?_⟩) hHeld ?_
          rotate_left
          · intro w' hSw
            go_simp
            first | done | rfl
          try simp only [Act.put, List.setIfInBounds_toArray, List.set_cons_zero, List.set_cons_succ]
          refine wpAnyH_take (i := 8) (oi := ⟨some 107, _, _, _, _, _⟩) (v := ?_) rfl (by kernel_rfl) (by kernel_rfl) (by kernel_rfl) (fun _ _ _ h => h) (Or.inl ⟨by rfl, ?_⟩) hHeld ?_
          rotate_left
          · intro w' hSw
            go_simp
            first | done | rfl
          try simp only [Act.put, List.setIfInBounds_toArray, List.set_cons_zero, List.set_cons_succ]
          refine wpAnyH_take (i := 9) (oi := ⟨some 108, _, _, _, _, _⟩) (v := ?_) rfl (by kernel_rfl) (by kernel_rfl) (by kernel_rfl) (fun _ _ _ h => h) (Or.inl ⟨by rfl, ?_⟩) hHeld ?_
          rotate_left
          · intro w' hSw
            go_simp
            first | done | rfl
          try simp only [Act.put, List.setIfInBounds_toArray, List.set_cons_zero, List.set_cons_succ]
          refine wpAnyH_take (i := 10) (oi := ⟨some 109, _, _, _, _, _⟩) (v := ?_) rfl (by kernel_rfl) (by kernel_rfl) (by kernel_rfl) (fun _ _ _ h => h) (Or.inl ⟨by rfl, ?_⟩) hHeld ?_
          rotate_left
          · intro w' hSw
            go_simp
            first | done | rfl
          try simp only [Act.put, List.setIfInBounds_toArray, List.set_cons_zero, List.set_cons_succ]
          refine wpAnyH_take (i := 11) (oi := ⟨some 110, _, _, _, _, _⟩) (v := undef) rfl (by kernel_rfl) (by kernel_rfl) (by kernel_rfl) (fun _ _ _ h => h) (Or.inr ⟨by rfl, rfl⟩) hHeld ?_
          try simp only [Act.put, List.setIfInBounds_toArray, List.set_cons_zero, List.set_cons_succ]
          refine wpAnyH_take (i := 12) (oi := ⟨some 111, _, _, _, _, _⟩) (v := undef) rfl (by kernel_rfl) (by kernel_rfl) (by kernel_rfl) (fun _ _ _ h => h) (Or.inr ⟨by rfl, rfl⟩) hHeld ?_
          try simp only [Act.put, List.setIfInBounds_toArray, List.set_cons_zero, List.set_cons_succ]
          refine wpAnyH_take (i := 13) (oi := ⟨some 112, _, _, _, _, _⟩) (v := undef) rfl (by kernel_rfl) (by kernel_rfl) (by kernel_rfl) (fun _ _ _ h => h) (Or.inr ⟨by rfl, rfl⟩) hHeld ?_
          try simp only [Act.put, List.setIfInBounds_toArray, List.set_cons_zero, List.set_cons_succ]
          refine wpAnyH_take (i := 14) (oi := ⟨some 113, _, _, _, _, _⟩) (v := ?_) rfl (by kernel_rfl) (by kernel_rfl) (by kernel_rfl) (fun _ _ _ h => h) (Or.inl ⟨by rfl, ?_⟩) hHeld ?_
          rotate_left
          · intro w' hSw
            go_simp
            first | done | rfl
          try simp only [Act.put, List.setIfInBounds_toArray, List.set_cons_zero, List.set_cons_succ]
          refine wpAnyH_take (i := 15) (oi := ⟨some 114, _, _, _, _, _⟩) (v := ?_) rfl (by kernel_rfl) (by kernel_rfl) (by kernel_rfl) (fun _ _ _ h => h) (Or.inl ⟨by rfl, ?_⟩) hHeld ?_
          rotate_left
          · intro w' hSw
            go_simp
            first | done | rfl
          try simp only [Act.put, List.setIfInBounds_toArray, List.set_cons_zero, List.set_cons_succ]
          refine wpAnyH_done (by kernel_rfl) ?_ _
          go_upto_region 21 with fail
          refine gen_codeF (fun W => Keeps (fun _ => False) wr W ∧ ∃ D, At D W (.trail a b)) ⟨HK14.out.1.trans hHeld (fun _ _ h => h), HK14.out.2.imp fun D h => h.keep hHeld (fun _ _ h => h)⟩ ?_
          intro w15 h15
          have HK15 := Lib.hid h15
          clear h15 hHeld HK14 HQ HQ0 HT q0
          go_upto_region 23 with (go_at_call 13; refine (HR.out _ (HFA.out.keep.trans HK15.out.1 (fun _ _ h => h))).mono ?_; rintro e w16 ⟨rfl, HK16⟩)
          obtain ⟨s, hs⟩ : ∃ s, s = w16.heap.size := ⟨_, rfl⟩
          rw [← hs]
          refine gen_codeF (fun W => Keeps (fun _ => False) wr W ∧ (∃ D, At D W (.trail a b)) ∧ Blk W s 36 [.int .i64 4, .int .i64 d, .int .i64 a, .int .i64 0, .string b, .int .i64 0]) ⟨(HK15.out.1.trans HK16.out (fun _ _ h => h)).alloc _, HK15.out.2.imp fun D h => h.keep (HK16.out.alloc _) (fun _ _ h => h), by rw [hs]; exact Blk.new w16 _ _⟩ ?_
          intro w17 h17
          have HS17 := Lib.hid h17
          have HKD : Hid (Calls Tryd.prog 14 #[.iface 42 (.agg #[.int .i64 a, .string b]), .agg #[.int .i64 4, .int .i64 d, .int .i64 a, .int .i64 0, .string b, .int .i64 0]] w17 fun e w' => e = .returned (.bool true) ∧ Hid (Keeps (fun _ => False) w17 w')) := Lib.hid (by
            obtain ⟨D, hD⟩ := h17.2.1
            exact (lkind_any w17 D (.trail a b) hD d).mono fun e w' h => ⟨h.1, Lib.hid h.2⟩)
          have cc0 := h17.2.2.cell 0
          have cc1 := h17.2.2.cell 1
          have cc2 := h17.2.2.cell 2
          have cc3 := h17.2.2.cell 3
          have cc4 := h17.2.2.cell 4
          have cc5 := h17.2.2.cell 5
          clear h17 hs HK15 HK16 HR
          have x0 := as_trail_num
          have x1 := as_trail_spot
          have x2 := as_trail_trail
          go_wp2_with (go_at_call 14; refine HKD.out.mono ?_; rintro e w18 ⟨rfl, HK18⟩; have hk18 : Keeps (fun _ => False) wr w18 := HS17.out.1.trans HK18.out (fun _ _ h => h); have HKW18 := Lib.hid hk18; have y0 : (w18.alloc (.cells #[.int .i64 a, .string b] 42)).cell? ⟨g + 2, 0, none⟩ = some (.int .i64 a) := ((hk18.blk HFA.out.b3 (fun h => h)).alloc _).cell 0; have u0 : (w18.alloc (.cells #[.int .i64 a, .string b] 42)).cell? ⟨w18.heap.size, 0, none⟩ = some (.int .i64 a) := (Blk.new w18 42 [.int .i64 a, .string b]).cell 0; have y1 : (w18.alloc (.cells #[.int .i64 a, .string b] 42)).cell? ⟨g + 2, 1, none⟩ = some (.string b) := ((hk18.blk HFA.out.b3 (fun h => h)).alloc _).cell 1; have u1 : (w18.alloc (.cells #[.int .i64 a, .string b] 42)).cell? ⟨w18.heap.size, 1, none⟩ = some (.string b) := (Blk.new w18 42 [.int .i64 a, .string b]).cell 1; clear hk18)
          go_roundg (5 - (2 + 1))
          case measure => rw [HG2.out]; omega
          case rel => exact ⟨2 + 1, 3, rfl, by omega, by first | rfl | go_num, rfl, Lib.hid ⟨HA.out.1.trans (HKW18.out.alloc _) (fun _ _ h => h), Keeps.blk (HKW18.out.alloc _) HA.out.2 (fun h => h)⟩⟩
      · obtain rfl : i' = 3 := by omega
        clear hij hj hlt
        cases o4 with
        | none =>
          have HQ0 : Hid (wr.cell? ⟨gg, 3, none⟩ = some (.bool false)) := Lib.hid (HGB.out.cell 3)
          have q0 : wr.cell? ⟨gq, 3, none⟩ = some (.int .i64 5) := HA.out.2.cell 3
          have HT : Hid (∀ W, Keeps (fun _ => False) w W → Calls Tryd.prog 12 #[.slice A n c, .int .i64 5] W fun e w' => e = .returned (.tuple #[.nilIface, .iface 33 (.int .i64 4)]) ∧ Hid (Keeps (fun _ => False) W w')) := Lib.hid fun W hW => (HAS.out W vt 5 hW rfl HVE.out).mono fun e w' h => by
            rw [← HO.out.2.2.2.1] at h
            exact ⟨h.1, Lib.hid h.2⟩
          clear HFB HKW HAS HSA HCN HVE HO HFA HGB
          go_upto_region 19 with (go_at_call 12; refine (HT.out _ HW.out).mono ?_; rintro e w14 ⟨rfl, HK14⟩; have HQ := Lib.hid (cell_keep HK14.out HQ0.out))
          refine wp_region_held_drew (S := Keeps (fun _ => False) w14) (by kernel_rfl) (Keeps.refl _ _).drew (fun hHeld => ?_)
          refine wpAnyH_take (i := 0) (oi := ⟨some 99, _, _, _, _, _⟩) (v := ?_) rfl (by kernel_rfl) (by kernel_rfl) (by kernel_rfl) (fun _ _ _ h => h) (Or.inl ⟨by rfl, ?_⟩) hHeld ?_
          rotate_left
          · intro w' hSw
            go_simp
            first | done | rfl
          try simp only [Act.put, List.setIfInBounds_toArray, List.set_cons_zero, List.set_cons_succ]
          refine wpAnyH_take (i := 1) (oi := ⟨some 100, _, _, _, _, _⟩) (v := ?_) rfl (by kernel_rfl) (by kernel_rfl) (by kernel_rfl) (fun _ _ _ h => h) (Or.inl ⟨by rfl, ?_⟩) hHeld ?_
          rotate_left
          · intro w' hSw
            go_simp
            first | done | rfl
          try simp only [Act.put, List.setIfInBounds_toArray, List.set_cons_zero, List.set_cons_succ]
          refine wpAnyH_take (i := 2) (oi := ⟨some 101, _, _, _, _, _⟩) (v := ?_) rfl (by kernel_rfl) (by kernel_rfl) (by kernel_rfl) (fun _ _ _ h => h) (Or.inl ⟨by rfl, ?_⟩) hHeld ?_
          rotate_left
          · intro w' hSw
            go_simp
            first | done | rfl
          try simp only [Act.put, List.setIfInBounds_toArray, List.set_cons_zero, List.set_cons_succ]
          refine wpAnyH_take (i := 3) (oi := ⟨some 102, _, _, _, _, _⟩) (v := ?_) rfl (by kernel_rfl) (by kernel_rfl) (by kernel_rfl) (fun _ _ _ h => h) (Or.inl ⟨by rfl, ?_⟩) hHeld ?_
          rotate_left
          · intro w' hSw
            go_simp
            first | done | rfl
          try simp only [Act.put, List.setIfInBounds_toArray, List.set_cons_zero, List.set_cons_succ]
          refine wpAnyH_take (i := 4) (oi := ⟨some 103, _, _, _, _, _⟩) (v := ?_) rfl (by kernel_rfl) (by kernel_rfl) (by kernel_rfl) (fun _ _ _ h => h) (Or.inl ⟨by rfl, ?_⟩) hHeld ?_
          rotate_left
          · intro w' hSw
            go_simp
            first | done | rfl
          try simp only [Act.put, List.setIfInBounds_toArray, List.set_cons_zero, List.set_cons_succ]
          refine wpAnyH_take (i := 5) (oi := ⟨some 104, _, _, _, _, _⟩) (v := ?_) rfl (by kernel_rfl) (by kernel_rfl) (by kernel_rfl) (fun _ _ _ h => h) (Or.inl ⟨by rfl, ?_⟩) hHeld ?_
          rotate_left
          · intro w' hSw
            have cv := cell_keep hSw HQ.out
            go_simp
            first | done | rfl
          try simp only [Act.put, List.setIfInBounds_toArray, List.set_cons_zero, List.set_cons_succ]
          refine wpAnyH_take (i := 6) (oi := ⟨some 105, _, _, _, _, _⟩) (v := ?_) rfl (by kernel_rfl) (by kernel_rfl) (by kernel_rfl) (fun _ _ _ h => h) (Or.inl ⟨by rfl, ?_⟩) hHeld ?_
          rotate_left
          · intro w' hSw
            go_simp
            first | done | rfl
          try simp only [Act.put, List.setIfInBounds_toArray, List.set_cons_zero, List.set_cons_succ]
          refine wpAnyH_take (i := 7) (oi := ⟨some 106, _, _, _, _, _⟩) (v := ?_) rfl (by kernel_rfl) (by kernel_rfl) (by kernel_rfl) (fun _ _ _ h => h) (Or.inl ⟨by rfl, ?_⟩) hHeld ?_
          rotate_left
          · intro w' hSw
            go_simp
            first | done | rfl
          try simp only [Act.put, List.setIfInBounds_toArray, List.set_cons_zero, List.set_cons_succ]
          refine wpAnyH_take (i := 8) (oi := ⟨some 107, _, _, _, _, _⟩) (v := ?_) rfl (by kernel_rfl) (by kernel_rfl) (by kernel_rfl) (fun _ _ _ h => h) (Or.inl ⟨by rfl, ?_⟩) hHeld ?_
          rotate_left
          · intro w' hSw
            go_simp
            first | done | rfl
          try simp only [Act.put, List.setIfInBounds_toArray, List.set_cons_zero, List.set_cons_succ]
          refine wpAnyH_take (i := 9) (oi := ⟨some 108, _, _, _, _, _⟩) (v := ?_) rfl (by kernel_rfl) (by kernel_rfl) (by kernel_rfl) (fun _ _ _ h => h) (Or.inl ⟨by rfl, ?_⟩) hHeld ?_
          rotate_left
          · intro w' hSw
            go_simp
            first | done | rfl
          try simp only [Act.put, List.setIfInBounds_toArray, List.set_cons_zero, List.set_cons_succ]
          refine wpAnyH_take (i := 10) (oi := ⟨some 109, _, _, _, _, _⟩) (v := ?_) rfl (by kernel_rfl) (by kernel_rfl) (by kernel_rfl) (fun _ _ _ h => h) (Or.inl ⟨by rfl, ?_⟩) hHeld ?_
          rotate_left
          · intro w' hSw
            go_simp
            first | done | rfl
          try simp only [Act.put, List.setIfInBounds_toArray, List.set_cons_zero, List.set_cons_succ]
          refine wpAnyH_take (i := 11) (oi := ⟨some 110, _, _, _, _, _⟩) (v := ?_) rfl (by kernel_rfl) (by kernel_rfl) (by kernel_rfl) (fun _ _ _ h => h) (Or.inl ⟨by rfl, ?_⟩) hHeld ?_
          rotate_left
          · intro w' hSw
            go_simp
            first | done | rfl
          try simp only [Act.put, List.setIfInBounds_toArray, List.set_cons_zero, List.set_cons_succ]
          refine wpAnyH_take (i := 12) (oi := ⟨some 111, _, _, _, _, _⟩) (v := ?_) rfl (by kernel_rfl) (by kernel_rfl) (by kernel_rfl) (fun _ _ _ h => h) (Or.inl ⟨by rfl, ?_⟩) hHeld ?_
          rotate_left
          · intro w' hSw
            go_simp
            first | done | rfl
          try simp only [Act.put, List.setIfInBounds_toArray, List.set_cons_zero, List.set_cons_succ]
          refine wpAnyH_take (i := 13) (oi := ⟨some 112, _, _, _, _, _⟩) (v := ?_) rfl (by kernel_rfl) (by kernel_rfl) (by kernel_rfl) (fun _ _ _ h => h) (Or.inl ⟨by rfl, ?_⟩) hHeld ?_
          rotate_left
          · intro w' hSw
            go_simp
            first | done | rfl
          try simp only [Act.put, List.setIfInBounds_toArray, List.set_cons_zero, List.set_cons_succ]
          refine wpAnyH_take (i := 14) (oi := ⟨some 113, _, _, _, _, _⟩) (v := ?_) rfl (by kernel_rfl) (by kernel_rfl) (by kernel_rfl) (fun _ _ _ h => h) (Or.inl ⟨by rfl, ?_⟩) hHeld ?_
          rotate_left
          · intro w' hSw
            go_simp
            first | done | rfl
          try simp only [Act.put, List.setIfInBounds_toArray, List.set_cons_zero, List.set_cons_succ]
          refine wpAnyH_take (i := 15) (oi := ⟨some 114, _, _, _, _, _⟩) (v := ?_) rfl (by kernel_rfl) (by kernel_rfl) (by kernel_rfl) (fun _ _ _ h => h) (Or.inl ⟨by rfl, ?_⟩) hHeld ?_
          rotate_left
          · intro w' hSw
            go_simp
            first | done | rfl
          try simp only [Act.put, List.setIfInBounds_toArray, List.set_cons_zero, List.set_cons_succ]
          refine wpAnyH_done (by kernel_rfl) ?_ _
          go_upto_region 21 with fail
          refine gen_codeF (fun W => Keeps (fun _ => False) wr W) (HK14.out.trans hHeld (fun _ _ h => h)) ?_
          intro w15 h15
          have HK15 := Lib.hid h15
          clear h15 hHeld HK14 HQ HQ0 HT q0
          go_wp2
          go_roundg (5 - (3 + 1))
          case measure => rw [HG2.out]; omega
          case rel => exact ⟨3 + 1, 4, rfl, by omega, by first | rfl | go_num, rfl, Lib.hid ⟨HA.out.1.trans HK15.out (fun _ _ h => h), HK15.out.blk HA.out.2 (fun h => h)⟩⟩
        | some x =>
          rcases x1_note (firstT_place HO.out.2.2.2.1.symm).1 with rfl | ⟨b1, wd, e1, rfl⟩
          · have HQ0 : Hid (wr.cell? ⟨gg, 3, none⟩ = some (.bool true)) := Lib.hid (HGB.out.cell 3)
            have q0 : wr.cell? ⟨gq, 3, none⟩ = some (.int .i64 5) := HA.out.2.cell 3
            have HT : Hid (∀ W, Keeps (fun _ => False) w W → Calls Tryd.prog 12 #[.slice A n c, .int .i64 5] W fun e w' => e = .returned (.tuple #[.iface 43 (.pointer none), .nilIface]) ∧ Hid (Keeps (fun _ => False) W w' ∧ ∃ D, At D w' (.gone))) := Lib.hid fun W hW => (HAS.out W vt 5 hW rfl HVE.out).mono fun e w' h => by
              rw [← HO.out.2.2.2.1] at h
              obtain ⟨x2, D, h1, h2, h3, h4⟩ := h
              obtain rfl := x2_gone h3
              simp only [vv] at h1
              exact ⟨h1, Lib.hid ⟨h2, D, h4⟩⟩
            obtain ⟨d, hfr⟩ := lfirst_found w5 A3 t.count c3 t vt _ 5 HVE.out HO.out.2.2.2.1.symm rfl (by have := HCN.out; omega) HSA.out
            have HR : Hid (∀ W, Keeps (fun _ => False) w5 W → Calls Tryd.prog 13 #[.slice A3 t.count c3, .int .i64 5] W fun e w' => e = .returned (.tuple #[.agg #[.int .i64 6, .int .i64 d, .int .i64 0, .int .i64 0, .string ⟨#[]⟩, .int .i64 0], .bool true]) ∧ Hid (Keeps (fun _ => False) W w')) := Lib.hid fun W hW => (hfr W hW).mono fun e w' h => ⟨h.1, Lib.hid h.2⟩
            clear hfr HFB HKW HAS HSA HCN HVE HO HGB
            go_upto_region 19 with (go_at_call 12; refine (HT.out _ HW.out).mono ?_; rintro e w14 ⟨rfl, HK14⟩; have HQ := Lib.hid (cell_keep HK14.out.1 HQ0.out))
            refine wp_region_held_drew (S := Keeps (fun _ => False) w14) (by kernel_rfl) (Keeps.refl _ _).drew (fun hHeld => ?_)
            refine wpAnyH_take (i := 0) (oi := ⟨some 99, _, _, _, _, _⟩) (v := ?_) rfl (by kernel_rfl) (by kernel_rfl) (by kernel_rfl) (fun _ _ _ h => h) (Or.inl ⟨by rfl, ?_⟩) hHeld ?_
            rotate_left
            · intro w' hSw
              go_simp
              first | done | rfl
            try simp only [Act.put, List.setIfInBounds_toArray, List.set_cons_zero, List.set_cons_succ]
            refine wpAnyH_take (i := 1) (oi := ⟨some 100, _, _, _, _, _⟩) (v := ?_) rfl (by kernel_rfl) (by kernel_rfl) (by kernel_rfl) (fun _ _ _ h => h) (Or.inl ⟨by rfl, ?_⟩) hHeld ?_
            rotate_left
            · intro w' hSw
              go_simp
              first | done | rfl
            try simp only [Act.put, List.setIfInBounds_toArray, List.set_cons_zero, List.set_cons_succ]
            refine wpAnyH_take (i := 2) (oi := ⟨some 101, _, _, _, _, _⟩) (v := ?_) rfl (by kernel_rfl) (by kernel_rfl) (by kernel_rfl) (fun _ _ _ h => h) (Or.inl ⟨by rfl, ?_⟩) hHeld ?_
            rotate_left
            · intro w' hSw
              go_simp
              first | done | rfl
            try simp only [Act.put, List.setIfInBounds_toArray, List.set_cons_zero, List.set_cons_succ]
            refine wpAnyH_take (i := 3) (oi := ⟨some 102, _, _, _, _, _⟩) (v := ?_) rfl (by kernel_rfl) (by kernel_rfl) (by kernel_rfl) (fun _ _ _ h => h) (Or.inl ⟨by rfl, ?_⟩) hHeld ?_
            rotate_left
            · intro w' hSw
              go_simp
              first | done | rfl
            try simp only [Act.put, List.setIfInBounds_toArray, List.set_cons_zero, List.set_cons_succ]
            refine wpAnyH_take (i := 4) (oi := ⟨some 103, _, _, _, _, _⟩) (v := ?_) rfl (by kernel_rfl) (by kernel_rfl) (by kernel_rfl) (fun _ _ _ h => h) (Or.inl ⟨by rfl, ?_⟩) hHeld ?_
            rotate_left
            · intro w' hSw
              go_simp
              first | done | rfl
            try simp only [Act.put, List.setIfInBounds_toArray, List.set_cons_zero, List.set_cons_succ]
            refine wpAnyH_take (i := 5) (oi := ⟨some 104, _, _, _, _, _⟩) (v := ?_) rfl (by kernel_rfl) (by kernel_rfl) (by kernel_rfl) (fun _ _ _ h => h) (Or.inl ⟨by rfl, ?_⟩) hHeld ?_
            rotate_left
            · intro w' hSw
              have cv := cell_keep hSw HQ.out
              go_simp
              first | done | rfl
            try simp only [Act.put, List.setIfInBounds_toArray, List.set_cons_zero, List.set_cons_succ]
            refine wpAnyH_take (i := 6) (oi := ⟨some 105, _, _, _, _, _⟩) (v := ?_) rfl (by kernel_rfl) (by kernel_rfl) (by kernel_rfl) (fun _ _ _ h => h) (Or.inl ⟨by rfl, ?_⟩) hHeld ?_
            rotate_left
            · intro w' hSw
              go_simp
              first | done | rfl
            try simp only [Act.put, List.setIfInBounds_toArray, List.set_cons_zero, List.set_cons_succ]
            refine wpAnyH_take (i := 7) (oi := ⟨some 106, _, _, _, _, _⟩) (v := ?_) rfl (by kernel_rfl) (by kernel_rfl) (by kernel_rfl) (fun _ _ _ h => h) (Or.inl ⟨by rfl, ?_⟩) hHeld ?_
            rotate_left
            · intro w' hSw
              go_simp
              first | done | rfl
            try simp only [Act.put, List.setIfInBounds_toArray, List.set_cons_zero, List.set_cons_succ]
            refine wpAnyH_take (i := 8) (oi := ⟨some 107, _, _, _, _, _⟩) (v := ?_) rfl (by kernel_rfl) (by kernel_rfl) (by kernel_rfl) (fun _ _ _ h => h) (Or.inl ⟨by rfl, ?_⟩) hHeld ?_
            rotate_left
            · intro w' hSw
              go_simp
              first | done | rfl
            try simp only [Act.put, List.setIfInBounds_toArray, List.set_cons_zero, List.set_cons_succ]
            refine wpAnyH_take (i := 9) (oi := ⟨some 108, _, _, _, _, _⟩) (v := ?_) rfl (by kernel_rfl) (by kernel_rfl) (by kernel_rfl) (fun _ _ _ h => h) (Or.inl ⟨by rfl, ?_⟩) hHeld ?_
            rotate_left
            · intro w' hSw
              go_simp
              first | done | rfl
            try simp only [Act.put, List.setIfInBounds_toArray, List.set_cons_zero, List.set_cons_succ]
            refine wpAnyH_take (i := 10) (oi := ⟨some 109, _, _, _, _, _⟩) (v := ?_) rfl (by kernel_rfl) (by kernel_rfl) (by kernel_rfl) (fun _ _ _ h => h) (Or.inl ⟨by rfl, ?_⟩) hHeld ?_
            rotate_left
            · intro w' hSw
              go_simp
              first | done | rfl
            try simp only [Act.put, List.setIfInBounds_toArray, List.set_cons_zero, List.set_cons_succ]
            refine wpAnyH_take (i := 11) (oi := ⟨some 110, _, _, _, _, _⟩) (v := undef) rfl (by kernel_rfl) (by kernel_rfl) (by kernel_rfl) (fun _ _ _ h => h) (Or.inr ⟨by rfl, rfl⟩) hHeld ?_
            try simp only [Act.put, List.setIfInBounds_toArray, List.set_cons_zero, List.set_cons_succ]
            refine wpAnyH_take (i := 12) (oi := ⟨some 111, _, _, _, _, _⟩) (v := undef) rfl (by kernel_rfl) (by kernel_rfl) (by kernel_rfl) (fun _ _ _ h => h) (Or.inr ⟨by rfl, rfl⟩) hHeld ?_
            try simp only [Act.put, List.setIfInBounds_toArray, List.set_cons_zero, List.set_cons_succ]
            refine wpAnyH_take (i := 13) (oi := ⟨some 112, _, _, _, _, _⟩) (v := undef) rfl (by kernel_rfl) (by kernel_rfl) (by kernel_rfl) (fun _ _ _ h => h) (Or.inr ⟨by rfl, rfl⟩) hHeld ?_
            try simp only [Act.put, List.setIfInBounds_toArray, List.set_cons_zero, List.set_cons_succ]
            refine wpAnyH_take (i := 14) (oi := ⟨some 113, _, _, _, _, _⟩) (v := ?_) rfl (by kernel_rfl) (by kernel_rfl) (by kernel_rfl) (fun _ _ _ h => h) (Or.inl ⟨by rfl, ?_⟩) hHeld ?_
            rotate_left
            · intro w' hSw
              go_simp
              first | done | rfl
            try simp only [Act.put, List.setIfInBounds_toArray, List.set_cons_zero, List.set_cons_succ]
            refine wpAnyH_take (i := 15) (oi := ⟨some 114, _, _, _, _, _⟩) (v := ?_) rfl (by kernel_rfl) (by kernel_rfl) (by kernel_rfl) (fun _ _ _ h => h) (Or.inl ⟨by rfl, ?_⟩) hHeld ?_
            rotate_left
            · intro w' hSw
              go_simp
              first | done | rfl
            try simp only [Act.put, List.setIfInBounds_toArray, List.set_cons_zero, List.set_cons_succ]
            refine wpAnyH_done (by kernel_rfl) ?_ _
            go_upto_region 21 with fail
            refine gen_codeF (fun W => Keeps (fun _ => False) wr W ∧ ∃ D, At D W (.gone)) ⟨HK14.out.1.trans hHeld (fun _ _ h => h), HK14.out.2.imp fun D h => h.keep hHeld (fun _ _ h => h)⟩ ?_
            intro w15 h15
            have HK15 := Lib.hid h15
            clear h15 hHeld HK14 HQ HQ0 HT q0
            go_upto_region 23 with (go_at_call 13; refine (HR.out _ (HFA.out.keep.trans HK15.out.1 (fun _ _ h => h))).mono ?_; rintro e w16 ⟨rfl, HK16⟩)
            obtain ⟨s, hs⟩ : ∃ s, s = w16.heap.size := ⟨_, rfl⟩
            rw [← hs]
            refine gen_codeF (fun W => Keeps (fun _ => False) wr W ∧ (∃ D, At D W (.gone)) ∧ Blk W s 36 [.int .i64 6, .int .i64 d, .int .i64 0, .int .i64 0, .string ⟨#[]⟩, .int .i64 0]) ⟨(HK15.out.1.trans HK16.out (fun _ _ h => h)).alloc _, HK15.out.2.imp fun D h => h.keep (HK16.out.alloc _) (fun _ _ h => h), by rw [hs]; exact Blk.new w16 _ _⟩ ?_
            intro w17 h17
            have HS17 := Lib.hid h17
            have HKD : Hid (Calls Tryd.prog 14 #[.iface 43 (.pointer none), .agg #[.int .i64 6, .int .i64 d, .int .i64 0, .int .i64 0, .string ⟨#[]⟩, .int .i64 0]] w17 fun e w' => e = .returned (.bool true) ∧ Hid (Keeps (fun _ => False) w17 w')) := Lib.hid (by
              obtain ⟨D, hD⟩ := h17.2.1
              exact (lkind_any w17 D (.gone) hD d).mono fun e w' h => ⟨h.1, Lib.hid h.2⟩)
            have cc0 := h17.2.2.cell 0
            have cc1 := h17.2.2.cell 1
            have cc2 := h17.2.2.cell 2
            have cc3 := h17.2.2.cell 3
            have cc4 := h17.2.2.cell 4
            have cc5 := h17.2.2.cell 5
            clear h17 hs HK15 HK16 HR
            have x0 := as_note_num
            have x1 := as_note_spot
            have x2 := as_note_trail
            have x3 := as_note_note
            go_upto_region 37 with (go_at_call 14; refine HKD.out.mono ?_; rintro e w18 ⟨rfl, HK18⟩; have hk18 : Keeps (fun _ => False) wr w18 := HS17.out.1.trans HK18.out (fun _ _ h => h); have HKW18 := Lib.hid hk18; have HY := Lib.hid (show w18.cell? ⟨g + 3, 0, none⟩ = some (.pointer none) from (hk18.blk HFA.out.b4 (fun h => h)).cell 0); clear hk18)
            refine wp_region_held_drew (S := Keeps (fun _ => False) w18) (by kernel_rfl) (Keeps.refl _ _).drew (fun hHeld => ?_)
            refine wpAnyH_take (i := 0) (oi := ⟨some 153, _, _, _, _, _⟩) (v := ?_) rfl (by kernel_rfl) (by kernel_rfl) (by kernel_rfl) (fun _ _ _ h => h) (Or.inl ⟨by rfl, ?_⟩) hHeld ?_
            rotate_left
            · intro w' hSw
              go_simp
              first | done | rfl
            try simp only [Act.put, List.setIfInBounds_toArray, List.set_cons_zero, List.set_cons_succ]
            refine wpAnyH_take (i := 1) (oi := ⟨some 154, _, _, _, _, _⟩) (v := ?_) rfl (by kernel_rfl) (by kernel_rfl) (by kernel_rfl) (fun _ _ _ h => h) (Or.inl ⟨by rfl, ?_⟩) hHeld ?_
            rotate_left
            · intro w' hSw
              go_simp
              first | done | rfl
            try simp only [Act.put, List.setIfInBounds_toArray, List.set_cons_zero, List.set_cons_succ]
            refine wpAnyH_take (i := 2) (oi := ⟨some 155, _, _, _, _, _⟩) (v := ?_) rfl (by kernel_rfl) (by kernel_rfl) (by kernel_rfl) (fun _ _ _ h => h) (Or.inl ⟨by rfl, ?_⟩) hHeld ?_
            rotate_left
            · intro w' hSw
              have cv := cell_keep hSw HY.out
              go_simp
              first | done | rfl
            try simp only [Act.put, List.setIfInBounds_toArray, List.set_cons_zero, List.set_cons_succ]
            refine wpAnyH_take (i := 3) (oi := ⟨some 156, _, _, _, _, _⟩) (v := ?_) rfl (by kernel_rfl) (by kernel_rfl) (by kernel_rfl) (fun _ _ _ h => h) (Or.inl ⟨by rfl, ?_⟩) hHeld ?_
            rotate_left
            · intro w' hSw
              go_simp
              first | done | rfl
            try simp only [Act.put, List.setIfInBounds_toArray, List.set_cons_zero, List.set_cons_succ]
            refine wpAnyH_take (i := 4) (oi := ⟨some 157, _, _, _, _, _⟩) (v := ?_) rfl (by kernel_rfl) (by kernel_rfl) (by kernel_rfl) (fun _ _ _ h => h) (Or.inl ⟨by rfl, ?_⟩) hHeld ?_
            rotate_left
            · intro w' hSw
              go_simp
              first | done | rfl
            try simp only [Act.put, List.setIfInBounds_toArray, List.set_cons_zero, List.set_cons_succ]
            refine wpAnyH_take (i := 5) (oi := ⟨some 158, _, _, _, _, _⟩) (v := ?_) rfl (by kernel_rfl) (by kernel_rfl) (by kernel_rfl) (fun _ _ _ h => h) (Or.inl ⟨by rfl, ?_⟩) hHeld ?_
            rotate_left
            · intro w' hSw
              go_simp
              first | done | rfl
            try simp only [Act.put, List.setIfInBounds_toArray, List.set_cons_zero, List.set_cons_succ]
            refine wpAnyH_take (i := 6) (oi := ⟨some 159, _, _, _, _, _⟩) (v := ?_) rfl (by kernel_rfl) (by kernel_rfl) (by kernel_rfl) (fun _ _ _ h => h) (Or.inl ⟨by rfl, ?_⟩) hHeld ?_
            rotate_left
            · intro w' hSw
              go_simp
              first | done | rfl
            try simp only [Act.put, List.setIfInBounds_toArray, List.set_cons_zero, List.set_cons_succ]
            refine wpAnyH_take (i := 7) (oi := ⟨some 160, _, _, _, _, _⟩) (v := ?_) rfl (by kernel_rfl) (by kernel_rfl) (by kernel_rfl) (fun _ _ _ h => h) (Or.inl ⟨by rfl, ?_⟩) hHeld ?_
            rotate_left
            · intro w' hSw
              go_simp
              first | done | rfl
            try simp only [Act.put, List.setIfInBounds_toArray, List.set_cons_zero, List.set_cons_succ]
            refine wpAnyH_take (i := 8) (oi := ⟨some 161, _, _, _, _, _⟩) (v := ?_) rfl (by kernel_rfl) (by kernel_rfl) (by kernel_rfl) (fun _ _ _ h => h) (Or.inl ⟨by rfl, ?_⟩) hHeld ?_
            rotate_left
            · intro w' hSw
              go_simp
              first | done | rfl
            try simp only [Act.put, List.setIfInBounds_toArray, List.set_cons_zero, List.set_cons_succ]
            refine wpAnyH_take (i := 9) (oi := ⟨some 162, _, _, _, _, _⟩) (v := undef) rfl (by kernel_rfl) (by kernel_rfl) (by kernel_rfl) (fun _ _ _ h => h) (Or.inr ⟨by rfl, rfl⟩) hHeld ?_
            try simp only [Act.put, List.setIfInBounds_toArray, List.set_cons_zero, List.set_cons_succ]
            refine wpAnyH_take (i := 10) (oi := ⟨some 163, _, _, _, _, _⟩) (v := undef) rfl (by kernel_rfl) (by kernel_rfl) (by kernel_rfl) (fun _ _ _ h => h) (Or.inr ⟨by rfl, rfl⟩) hHeld ?_
            try simp only [Act.put, List.setIfInBounds_toArray, List.set_cons_zero, List.set_cons_succ]
            refine wpAnyH_take (i := 11) (oi := ⟨some 164, _, _, _, _, _⟩) (v := undef) rfl (by kernel_rfl) (by kernel_rfl) (by kernel_rfl) (fun _ _ _ h => h) (Or.inr ⟨by rfl, rfl⟩) hHeld ?_
            try simp only [Act.put, List.setIfInBounds_toArray, List.set_cons_zero, List.set_cons_succ]
            refine wpAnyH_take (i := 12) (oi := ⟨some 165, _, _, _, _, _⟩) (v := undef) rfl (by kernel_rfl) (by kernel_rfl) (by kernel_rfl) (fun _ _ _ h => h) (Or.inr ⟨by rfl, rfl⟩) hHeld ?_
            try simp only [Act.put, List.setIfInBounds_toArray, List.set_cons_zero, List.set_cons_succ]
            refine wpAnyH_take (i := 13) (oi := ⟨some 166, _, _, _, _, _⟩) (v := undef) rfl (by kernel_rfl) (by kernel_rfl) (by kernel_rfl) (fun _ _ _ h => h) (Or.inr ⟨by rfl, rfl⟩) hHeld ?_
            try simp only [Act.put, List.setIfInBounds_toArray, List.set_cons_zero, List.set_cons_succ]
            refine wpAnyH_take (i := 14) (oi := ⟨some 167, _, _, _, _, _⟩) (v := undef) rfl (by kernel_rfl) (by kernel_rfl) (by kernel_rfl) (fun _ _ _ h => h) (Or.inr ⟨by rfl, rfl⟩) hHeld ?_
            try simp only [Act.put, List.setIfInBounds_toArray, List.set_cons_zero, List.set_cons_succ]
            refine wpAnyH_take (i := 15) (oi := ⟨some 168, _, _, _, _, _⟩) (v := undef) rfl (by kernel_rfl) (by kernel_rfl) (by kernel_rfl) (fun _ _ _ h => h) (Or.inr ⟨by rfl, rfl⟩) hHeld ?_
            try simp only [Act.put, List.setIfInBounds_toArray, List.set_cons_zero, List.set_cons_succ]
            refine wpAnyH_take (i := 16) (oi := ⟨some 169, _, _, _, _, _⟩) (v := undef) rfl (by kernel_rfl) (by kernel_rfl) (by kernel_rfl) (fun _ _ _ h => h) (Or.inr ⟨by rfl, rfl⟩) hHeld ?_
            try simp only [Act.put, List.setIfInBounds_toArray, List.set_cons_zero, List.set_cons_succ]
            refine wpAnyH_take (i := 17) (oi := ⟨some 170, _, _, _, _, _⟩) (v := undef) rfl (by kernel_rfl) (by kernel_rfl) (by kernel_rfl) (fun _ _ _ h => h) (Or.inr ⟨by rfl, rfl⟩) hHeld ?_
            try simp only [Act.put, List.setIfInBounds_toArray, List.set_cons_zero, List.set_cons_succ]
            refine wpAnyH_take (i := 18) (oi := ⟨some 171, _, _, _, _, _⟩) (v := ?_) rfl (by kernel_rfl) (by kernel_rfl) (by kernel_rfl) (fun _ _ _ h => h) (Or.inl ⟨by rfl, ?_⟩) hHeld ?_
            rotate_left
            · intro w' hSw
              go_simp
              first | done | rfl
            try simp only [Act.put, List.setIfInBounds_toArray, List.set_cons_zero, List.set_cons_succ]
            refine wpAnyH_take (i := 19) (oi := ⟨some 172, _, _, _, _, _⟩) (v := ?_) rfl (by kernel_rfl) (by kernel_rfl) (by kernel_rfl) (fun _ _ _ h => h) (Or.inl ⟨by rfl, ?_⟩) hHeld ?_
            rotate_left
            · intro w' hSw
              go_simp
              first | done | rfl
            try simp only [Act.put, List.setIfInBounds_toArray, List.set_cons_zero, List.set_cons_succ]
            refine wpAnyH_take (i := 20) (oi := ⟨some 11, _, _, _, _, _⟩) (v := ?_) rfl (by kernel_rfl) (by kernel_rfl) (by kernel_rfl) (fun _ _ _ h => h) (Or.inl ⟨by rfl, ?_⟩) hHeld ?_
            rotate_left
            · intro w' hSw
              go_simp
              first | done | rfl
            try simp only [Act.put, List.setIfInBounds_toArray, List.set_cons_zero, List.set_cons_succ]
            refine wpAnyH_done (by kernel_rfl) ?_ _
            go_upto_region 41 with fail
            refine gen_codeF (fun W => Keeps (fun _ => False) w18 W) hHeld ?_
            intro w19 h19
            have HK19 := Lib.hid h19
            clear h19 hHeld
            go_wp2
            go_roundg (5 - (3 + 1))
            case measure => rw [HG2.out]; omega
            case rel => exact ⟨3 + 1, 4, rfl, by omega, by first | rfl | go_num, rfl, Lib.hid ⟨HA.out.1.trans (HKW18.out.trans HK19.out (fun _ _ h => h)) (fun _ _ h => h), Keeps.blk (HKW18.out.trans HK19.out (fun _ _ h => h)) HA.out.2 (fun h => h)⟩⟩
          · have HQ0 : Hid (wr.cell? ⟨gg, 3, none⟩ = some (.bool true)) := Lib.hid (HGB.out.cell 3)
            have q0 : wr.cell? ⟨gq, 3, none⟩ = some (.int .i64 5) := HA.out.2.cell 3
            have HT : Hid (∀ W, Keeps (fun _ => False) w W → Calls Tryd.prog 12 #[.slice A n c, .int .i64 5] W fun e w' => ∃ b2 e2, e = .returned (.tuple #[.iface 43 (.pointer (some ⟨b2, 0, none⟩)), .nilIface]) ∧ Hid (Keeps (fun _ => False) W w' ∧ ∃ D, At D w' (.note b2 wd e2))) := Lib.hid fun W hW => (HAS.out W vt 5 hW rfl HVE.out).mono fun e w' h => by
              rw [← HO.out.2.2.2.1] at h
              obtain ⟨x2, D, h1, h2, h3, h4⟩ := h
              obtain ⟨b2, e2, rfl⟩ := x2_note h3
              simp only [vv] at h1
              exact ⟨b2, e2, h1, Lib.hid ⟨h2, D, h4⟩⟩
            obtain ⟨d, hfr⟩ := lfirst_found w5 A3 t.count c3 t vt _ 5 HVE.out HO.out.2.2.2.1.symm rfl (by have := HCN.out; omega) HSA.out
            have HR : Hid (∀ W, Keeps (fun _ => False) w5 W → Calls Tryd.prog 13 #[.slice A3 t.count c3, .int .i64 5] W fun e w' => e = .returned (.tuple #[.agg #[.int .i64 5, .int .i64 d, .int .i64 0, .int .i64 0, .string wd, .int .i64 0], .bool true]) ∧ Hid (Keeps (fun _ => False) W w')) := Lib.hid fun W hW => (hfr W hW).mono fun e w' h => ⟨h.1, Lib.hid h.2⟩
            have HAT1 : Hid (At (fun i => i < g) wr (.note b1 wd e1)) := Lib.hid (by obtain ⟨_, j0, d0, hj0, _⟩ := firstT_place HO.out.2.2.2.1.symm; exact HFA.out.at_.item 1 (d0, _) (List.mem_of_getElem? hj0))
            clear hfr HFB HKW HAS HSA HCN HVE HO HGB
            go_upto_region 19 with (go_at_call 12; refine (HT.out _ HW.out).mono ?_; rintro e w14 ⟨b2, e2, rfl, HK14⟩; have HQ := Lib.hid (cell_keep HK14.out.1 HQ0.out))
            refine wp_region_held_drew (S := Keeps (fun _ => False) w14) (by kernel_rfl) (Keeps.refl _ _).drew (fun hHeld => ?_)
            refine wpAnyH_take (i := 0) (oi := ⟨some 99, _, _, _, _, _⟩) (v := ?_) rfl (by kernel_rfl) (by kernel_rfl) (by kernel_rfl) (fun _ _ _ h => h) (Or.inl ⟨by rfl, ?_⟩) hHeld ?_
            rotate_left
            · intro w' hSw
              go_simp
              first | done | rfl
            try simp only [Act.put, List.setIfInBounds_toArray, List.set_cons_zero, List.set_cons_succ]
            refine wpAnyH_take (i := 1) (oi := ⟨some 100, _, _, _, _, _⟩) (v := ?_) rfl (by kernel_rfl) (by kernel_rfl) (by kernel_rfl) (fun _ _ _ h => h) (Or.inl ⟨by rfl, ?_⟩) hHeld ?_
            rotate_left
            · intro w' hSw
              go_simp
              first | done | rfl
            try simp only [Act.put, List.setIfInBounds_toArray, List.set_cons_zero, List.set_cons_succ]
            refine wpAnyH_take (i := 2) (oi := ⟨some 101, _, _, _, _, _⟩) (v := ?_) rfl (by kernel_rfl) (by kernel_rfl) (by kernel_rfl) (fun _ _ _ h => h) (Or.inl ⟨by rfl, ?_⟩) hHeld ?_
            rotate_left
            · intro w' hSw
              go_simp
              first | done | rfl
            try simp only [Act.put, List.setIfInBounds_toArray, List.set_cons_zero, List.set_cons_succ]
            refine wpAnyH_take (i := 3) (oi := ⟨some 102, _, _, _, _, _⟩) (v := ?_) rfl (by kernel_rfl) (by kernel_rfl) (by kernel_rfl) (fun _ _ _ h => h) (Or.inl ⟨by rfl, ?_⟩) hHeld ?_
            rotate_left
            · intro w' hSw
              go_simp
              first | done | rfl
            try simp only [Act.put, List.setIfInBounds_toArray, List.set_cons_zero, List.set_cons_succ]
            refine wpAnyH_take (i := 4) (oi := ⟨some 103, _, _, _, _, _⟩) (v := ?_) rfl (by kernel_rfl) (by kernel_rfl) (by kernel_rfl) (fun _ _ _ h => h) (Or.inl ⟨by rfl, ?_⟩) hHeld ?_
            rotate_left
            · intro w' hSw
              go_simp
              first | done | rfl
            try simp only [Act.put, List.setIfInBounds_toArray, List.set_cons_zero, List.set_cons_succ]
            refine wpAnyH_take (i := 5) (oi := ⟨some 104, _, _, _, _, _⟩) (v := ?_) rfl (by kernel_rfl) (by kernel_rfl) (by kernel_rfl) (fun _ _ _ h => h) (Or.inl ⟨by rfl, ?_⟩) hHeld ?_
            rotate_left
            · intro w' hSw
              have cv := cell_keep hSw HQ.out
              go_simp
              first | done | rfl
            try simp only [Act.put, List.setIfInBounds_toArray, List.set_cons_zero, List.set_cons_succ]
            refine wpAnyH_take (i := 6) (oi := ⟨some 105, _, _, _, _, _⟩) (v := ?_) rfl (by kernel_rfl) (by kernel_rfl) (by kernel_rfl) (fun _ _ _ h => h) (Or.inl ⟨by rfl, ?_⟩) hHeld ?_
            rotate_left
            · intro w' hSw
              go_simp
              first | done | rfl
            try simp only [Act.put, List.setIfInBounds_toArray, List.set_cons_zero, List.set_cons_succ]
            refine wpAnyH_take (i := 7) (oi := ⟨some 106, _, _, _, _, _⟩) (v := ?_) rfl (by kernel_rfl) (by kernel_rfl) (by kernel_rfl) (fun _ _ _ h => h) (Or.inl ⟨by rfl, ?_⟩) hHeld ?_
            rotate_left
            · intro w' hSw
              go_simp
              first | done | rfl
            try simp only [Act.put, List.setIfInBounds_toArray, List.set_cons_zero, List.set_cons_succ]
            refine wpAnyH_take (i := 8) (oi := ⟨some 107, _, _, _, _, _⟩) (v := ?_) rfl (by kernel_rfl) (by kernel_rfl) (by kernel_rfl) (fun _ _ _ h => h) (Or.inl ⟨by rfl, ?_⟩) hHeld ?_
            rotate_left
            · intro w' hSw
              go_simp
              first | done | rfl
            try simp only [Act.put, List.setIfInBounds_toArray, List.set_cons_zero, List.set_cons_succ]
            refine wpAnyH_take (i := 9) (oi := ⟨some 108, _, _, _, _, _⟩) (v := ?_) rfl (by kernel_rfl) (by kernel_rfl) (by kernel_rfl) (fun _ _ _ h => h) (Or.inl ⟨by rfl, ?_⟩) hHeld ?_
            rotate_left
            · intro w' hSw
              go_simp
              first | done | rfl
            try simp only [Act.put, List.setIfInBounds_toArray, List.set_cons_zero, List.set_cons_succ]
            refine wpAnyH_take (i := 10) (oi := ⟨some 109, _, _, _, _, _⟩) (v := ?_) rfl (by kernel_rfl) (by kernel_rfl) (by kernel_rfl) (fun _ _ _ h => h) (Or.inl ⟨by rfl, ?_⟩) hHeld ?_
            rotate_left
            · intro w' hSw
              go_simp
              first | done | rfl
            try simp only [Act.put, List.setIfInBounds_toArray, List.set_cons_zero, List.set_cons_succ]
            refine wpAnyH_take (i := 11) (oi := ⟨some 110, _, _, _, _, _⟩) (v := undef) rfl (by kernel_rfl) (by kernel_rfl) (by kernel_rfl) (fun _ _ _ h => h) (Or.inr ⟨by rfl, rfl⟩) hHeld ?_
            try simp only [Act.put, List.setIfInBounds_toArray, List.set_cons_zero, List.set_cons_succ]
            refine wpAnyH_take (i := 12) (oi := ⟨some 111, _, _, _, _, _⟩) (v := undef) rfl (by kernel_rfl) (by kernel_rfl) (by kernel_rfl) (fun _ _ _ h => h) (Or.inr ⟨by rfl, rfl⟩) hHeld ?_
            try simp only [Act.put, List.setIfInBounds_toArray, List.set_cons_zero, List.set_cons_succ]
            refine wpAnyH_take (i := 13) (oi := ⟨some 112, _, _, _, _, _⟩) (v := undef) rfl (by kernel_rfl) (by kernel_rfl) (by kernel_rfl) (fun _ _ _ h => h) (Or.inr ⟨by rfl, rfl⟩) hHeld ?_
            try simp only [Act.put, List.setIfInBounds_toArray, List.set_cons_zero, List.set_cons_succ]
            refine wpAnyH_take (i := 14) (oi := ⟨some 113, _, _, _, _, _⟩) (v := ?_) rfl (by kernel_rfl) (by kernel_rfl) (by kernel_rfl) (fun _ _ _ h => h) (Or.inl ⟨by rfl, ?_⟩) hHeld ?_
            rotate_left
            · intro w' hSw
              go_simp
              first | done | rfl
            try simp only [Act.put, List.setIfInBounds_toArray, List.set_cons_zero, List.set_cons_succ]
            refine wpAnyH_take (i := 15) (oi := ⟨some 114, _, _, _, _, _⟩) (v := ?_) rfl (by kernel_rfl) (by kernel_rfl) (by kernel_rfl) (fun _ _ _ h => h) (Or.inl ⟨by rfl, ?_⟩) hHeld ?_
            rotate_left
            · intro w' hSw
              go_simp
              first | done | rfl
            try simp only [Act.put, List.setIfInBounds_toArray, List.set_cons_zero, List.set_cons_succ]
            refine wpAnyH_done (by kernel_rfl) ?_ _
            go_upto_region 21 with fail
            refine gen_codeF (fun W => Keeps (fun _ => False) wr W ∧ ∃ D, At D W (.note b2 wd e2)) ⟨HK14.out.1.trans hHeld (fun _ _ h => h), HK14.out.2.imp fun D h => h.keep hHeld (fun _ _ h => h)⟩ ?_
            intro w15 h15
            have HK15 := Lib.hid h15
            clear h15 hHeld HK14 HQ HQ0 HT q0
            go_upto_region 23 with (go_at_call 13; refine (HR.out _ (HFA.out.keep.trans HK15.out.1 (fun _ _ h => h))).mono ?_; rintro e w16 ⟨rfl, HK16⟩)
            obtain ⟨s, hs⟩ : ∃ s, s = w16.heap.size := ⟨_, rfl⟩
            rw [← hs]
            refine gen_codeF (fun W => Keeps (fun _ => False) wr W ∧ (∃ D, At D W (.note b2 wd e2)) ∧ Blk W s 36 [.int .i64 5, .int .i64 d, .int .i64 0, .int .i64 0, .string wd, .int .i64 0]) ⟨(HK15.out.1.trans HK16.out (fun _ _ h => h)).alloc _, HK15.out.2.imp fun D h => h.keep (HK16.out.alloc _) (fun _ _ h => h), by rw [hs]; exact Blk.new w16 _ _⟩ ?_
            intro w17 h17
            have HS17 := Lib.hid h17
            have HKD : Hid (Calls Tryd.prog 14 #[.iface 43 (.pointer (some ⟨b2, 0, none⟩)), .agg #[.int .i64 5, .int .i64 d, .int .i64 0, .int .i64 0, .string wd, .int .i64 0]] w17 fun e w' => e = .returned (.bool true) ∧ Hid (Keeps (fun _ => False) w17 w')) := Lib.hid (by
              obtain ⟨D, hD⟩ := h17.2.1
              exact (lkind_any w17 D (.note b2 wd e2) hD d).mono fun e w' h => ⟨h.1, Lib.hid h.2⟩)
            have cc0 := h17.2.2.cell 0
            have cc1 := h17.2.2.cell 1
            have cc2 := h17.2.2.cell 2
            have cc3 := h17.2.2.cell 3
            have cc4 := h17.2.2.cell 4
            have cc5 := h17.2.2.cell 5
            clear h17 hs HK15 HK16 HR
            have x0 := as_note_num
            have x1 := as_note_spot
            have x2 := as_note_trail
            have x3 := as_note_note
            go_upto_region 37 with (go_at_call 14; refine HKD.out.mono ?_; rintro e w18 ⟨rfl, HK18⟩; have hk18 : Keeps (fun _ => False) wr w18 := HS17.out.1.trans HK18.out (fun _ _ h => h); have HKW18 := Lib.hid hk18; have HY := Lib.hid (show w18.cell? ⟨g + 3, 0, none⟩ = some (.pointer (some ⟨b1, 0, none⟩)) from (hk18.blk HFA.out.b4 (fun h => h)).cell 0); have HY1 : Hid (w18.cell? ⟨b1, 0, none⟩ = some (.string wd)) := Lib.hid (by have h9 := HAT1.out; simp only [At] at h9; exact (hk18.blk h9.2.1 (fun h => h)).cell 0); have HY2 : Hid (w18.cell? ⟨b2, 0, none⟩ = some (.string wd)) := Lib.hid (by obtain ⟨D9, h9⟩ := HS17.out.2.1; simp only [At] at h9; exact (HK18.out.blk h9.2.1 (fun h => h)).cell 0); clear hk18)
            refine wp_region_held_drew (S := Keeps (fun _ => False) w18) (by kernel_rfl) (Keeps.refl _ _).drew (fun hHeld => ?_)
            refine wpAnyH_take (i := 0) (oi := ⟨some 153, _, _, _, _, _⟩) (v := ?_) rfl (by kernel_rfl) (by kernel_rfl) (by kernel_rfl) (fun _ _ _ h => h) (Or.inl ⟨by rfl, ?_⟩) hHeld ?_
            rotate_left
            · intro w' hSw
              go_simp
              first | done | rfl
            try simp only [Act.put, List.setIfInBounds_toArray, List.set_cons_zero, List.set_cons_succ]
            refine wpAnyH_take (i := 1) (oi := ⟨some 154, _, _, _, _, _⟩) (v := ?_) rfl (by kernel_rfl) (by kernel_rfl) (by kernel_rfl) (fun _ _ _ h => h) (Or.inl ⟨by rfl, ?_⟩) hHeld ?_
            rotate_left
            · intro w' hSw
              go_simp
              first | done | rfl
            try simp only [Act.put, List.setIfInBounds_toArray, List.set_cons_zero, List.set_cons_succ]
            refine wpAnyH_take (i := 2) (oi := ⟨some 155, _, _, _, _, _⟩) (v := ?_) rfl (by kernel_rfl) (by kernel_rfl) (by kernel_rfl) (fun _ _ _ h => h) (Or.inl ⟨by rfl, ?_⟩) hHeld ?_
            rotate_left
            · intro w' hSw
              have cv := cell_keep hSw HY.out
              go_simp
              first | done | rfl
            try simp only [Act.put, List.setIfInBounds_toArray, List.set_cons_zero, List.set_cons_succ]
            refine wpAnyH_take (i := 3) (oi := ⟨some 156, _, _, _, _, _⟩) (v := ?_) rfl (by kernel_rfl) (by kernel_rfl) (by kernel_rfl) (fun _ _ _ h => h) (Or.inl ⟨by rfl, ?_⟩) hHeld ?_
            rotate_left
            · intro w' hSw
              go_simp
              first | done | rfl
            try simp only [Act.put, List.setIfInBounds_toArray, List.set_cons_zero, List.set_cons_succ]
            refine wpAnyH_take (i := 4) (oi := ⟨some 157, _, _, _, _, _⟩) (v := ?_) rfl (by kernel_rfl) (by kernel_rfl) (by kernel_rfl) (fun _ _ _ h => h) (Or.inl ⟨by rfl, ?_⟩) hHeld ?_
            rotate_left
            · intro w' hSw
              go_simp
              first | done | rfl
            try simp only [Act.put, List.setIfInBounds_toArray, List.set_cons_zero, List.set_cons_succ]
            refine wpAnyH_take (i := 5) (oi := ⟨some 158, _, _, _, _, _⟩) (v := ?_) rfl (by kernel_rfl) (by kernel_rfl) (by kernel_rfl) (fun _ _ _ h => h) (Or.inl ⟨by rfl, ?_⟩) hHeld ?_
            rotate_left
            · intro w' hSw
              go_simp
              first | done | rfl
            try simp only [Act.put, List.setIfInBounds_toArray, List.set_cons_zero, List.set_cons_succ]
            refine wpAnyH_take (i := 6) (oi := ⟨some 159, _, _, _, _, _⟩) (v := ?_) rfl (by kernel_rfl) (by kernel_rfl) (by kernel_rfl) (fun _ _ _ h => h) (Or.inl ⟨by rfl, ?_⟩) hHeld ?_
            rotate_left
            · intro w' hSw
              go_simp
              first | done | rfl
            try simp only [Act.put, List.setIfInBounds_toArray, List.set_cons_zero, List.set_cons_succ]
            refine wpAnyH_take (i := 7) (oi := ⟨some 160, _, _, _, _, _⟩) (v := ?_) rfl (by kernel_rfl) (by kernel_rfl) (by kernel_rfl) (fun _ _ _ h => h) (Or.inl ⟨by rfl, ?_⟩) hHeld ?_
            rotate_left
            · intro w' hSw
              go_simp
              first | done | rfl
            try simp only [Act.put, List.setIfInBounds_toArray, List.set_cons_zero, List.set_cons_succ]
            refine wpAnyH_take (i := 8) (oi := ⟨some 161, _, _, _, _, _⟩) (v := ?_) rfl (by kernel_rfl) (by kernel_rfl) (by kernel_rfl) (fun _ _ _ h => h) (Or.inl ⟨by rfl, ?_⟩) hHeld ?_
            rotate_left
            · intro w' hSw
              go_simp
              first | done | rfl
            try simp only [Act.put, List.setIfInBounds_toArray, List.set_cons_zero, List.set_cons_succ]
            refine wpAnyH_take (i := 9) (oi := ⟨some 162, _, _, _, _, _⟩) (v := ?_) rfl (by kernel_rfl) (by kernel_rfl) (by kernel_rfl) (fun _ _ _ h => h) (Or.inl ⟨by rfl, ?_⟩) hHeld ?_
            rotate_left
            · intro w' hSw
              go_simp
              first | done | rfl
            try simp only [Act.put, List.setIfInBounds_toArray, List.set_cons_zero, List.set_cons_succ]
            refine wpAnyH_take (i := 10) (oi := ⟨some 163, _, _, _, _, _⟩) (v := ?_) rfl (by kernel_rfl) (by kernel_rfl) (by kernel_rfl) (fun _ _ _ h => h) (Or.inl ⟨by rfl, ?_⟩) hHeld ?_
            rotate_left
            · intro w' hSw
              go_simp
              first | done | rfl
            try simp only [Act.put, List.setIfInBounds_toArray, List.set_cons_zero, List.set_cons_succ]
            refine wpAnyH_take (i := 11) (oi := ⟨some 164, _, _, _, _, _⟩) (v := ?_) rfl (by kernel_rfl) (by kernel_rfl) (by kernel_rfl) (fun _ _ _ h => h) (Or.inl ⟨by rfl, ?_⟩) hHeld ?_
            rotate_left
            · intro w' hSw
              go_simp
              first | done | rfl
            try simp only [Act.put, List.setIfInBounds_toArray, List.set_cons_zero, List.set_cons_succ]
            refine wpAnyH_take (i := 12) (oi := ⟨some 165, _, _, _, _, _⟩) (v := ?_) rfl (by kernel_rfl) (by kernel_rfl) (by kernel_rfl) (fun _ _ _ h => h) (Or.inl ⟨by rfl, ?_⟩) hHeld ?_
            rotate_left
            · intro w' hSw
              have cv := cell_keep hSw HY2.out
              go_simp
              first | done | rfl
            try simp only [Act.put, List.setIfInBounds_toArray, List.set_cons_zero, List.set_cons_succ]
            refine wpAnyH_take (i := 13) (oi := ⟨some 166, _, _, _, _, _⟩) (v := ?_) rfl (by kernel_rfl) (by kernel_rfl) (by kernel_rfl) (fun _ _ _ h => h) (Or.inl ⟨by rfl, ?_⟩) hHeld ?_
            rotate_left
            · intro w' hSw
              have cv := cell_keep hSw HY.out
              go_simp
              first | done | rfl
            try simp only [Act.put, List.setIfInBounds_toArray, List.set_cons_zero, List.set_cons_succ]
            refine wpAnyH_take (i := 14) (oi := ⟨some 167, _, _, _, _, _⟩) (v := ?_) rfl (by kernel_rfl) (by kernel_rfl) (by kernel_rfl) (fun _ _ _ h => h) (Or.inl ⟨by rfl, ?_⟩) hHeld ?_
            rotate_left
            · intro w' hSw
              go_simp
              first | done | rfl
            try simp only [Act.put, List.setIfInBounds_toArray, List.set_cons_zero, List.set_cons_succ]
            refine wpAnyH_take (i := 15) (oi := ⟨some 168, _, _, _, _, _⟩) (v := ?_) rfl (by kernel_rfl) (by kernel_rfl) (by kernel_rfl) (fun _ _ _ h => h) (Or.inl ⟨by rfl, ?_⟩) hHeld ?_
            rotate_left
            · intro w' hSw
              go_simp
              first | done | rfl
            try simp only [Act.put, List.setIfInBounds_toArray, List.set_cons_zero, List.set_cons_succ]
            refine wpAnyH_take (i := 16) (oi := ⟨some 169, _, _, _, _, _⟩) (v := ?_) rfl (by kernel_rfl) (by kernel_rfl) (by kernel_rfl) (fun _ _ _ h => h) (Or.inl ⟨by rfl, ?_⟩) hHeld ?_
            rotate_left
            · intro w' hSw
              have cv := cell_keep hSw HY1.out
              go_simp
              first | done | rfl
            try simp only [Act.put, List.setIfInBounds_toArray, List.set_cons_zero, List.set_cons_succ]
            refine wpAnyH_take (i := 17) (oi := ⟨some 170, _, _, _, _, _⟩) (v := ?_) rfl (by kernel_rfl) (by kernel_rfl) (by kernel_rfl) (fun _ _ _ h => h) (Or.inl ⟨by rfl, ?_⟩) hHeld ?_
            rotate_left
            · intro w' hSw
              go_simp
              first | done | rfl
            try simp only [Act.put, List.setIfInBounds_toArray, List.set_cons_zero, List.set_cons_succ]
            refine wpAnyH_take (i := 18) (oi := ⟨some 171, _, _, _, _, _⟩) (v := ?_) rfl (by kernel_rfl) (by kernel_rfl) (by kernel_rfl) (fun _ _ _ h => h) (Or.inl ⟨by rfl, ?_⟩) hHeld ?_
            rotate_left
            · intro w' hSw
              go_simp
              first | done | rfl
            try simp only [Act.put, List.setIfInBounds_toArray, List.set_cons_zero, List.set_cons_succ]
            refine wpAnyH_take (i := 19) (oi := ⟨some 172, _, _, _, _, _⟩) (v := ?_) rfl (by kernel_rfl) (by kernel_rfl) (by kernel_rfl) (fun _ _ _ h => h) (Or.inl ⟨by rfl, ?_⟩) hHeld ?_
            rotate_left
            · intro w' hSw
              go_simp
              first | done | rfl
            try simp only [Act.put, List.setIfInBounds_toArray, List.set_cons_zero, List.set_cons_succ]
            refine wpAnyH_take (i := 20) (oi := ⟨some 11, _, _, _, _, _⟩) (v := ?_) rfl (by kernel_rfl) (by kernel_rfl) (by kernel_rfl) (fun _ _ _ h => h) (Or.inl ⟨by rfl, ?_⟩) hHeld ?_
            rotate_left
            · intro w' hSw
              go_simp
              first | done | rfl
            try simp only [Act.put, List.setIfInBounds_toArray, List.set_cons_zero, List.set_cons_succ]
            refine wpAnyH_done (by kernel_rfl) ?_ _
            go_upto_region 41 with fail
            refine gen_codeF (fun W => Keeps (fun _ => False) w18 W) hHeld ?_
            intro w19 h19
            have HK19 := Lib.hid h19
            clear h19 hHeld
            go_wp2
            go_roundg (5 - (3 + 1))
            case measure => rw [HG2.out]; omega
            case rel => exact ⟨3 + 1, 4, rfl, by omega, by first | rfl | go_num, rfl, Lib.hid ⟨HA.out.1.trans (HKW18.out.trans HK19.out (fun _ _ h => h)) (fun _ _ h => h), Keeps.blk (HKW18.out.trans HK19.out (fun _ _ h => h)) HA.out.2 (fun h => h)⟩⟩
      · obtain rfl : i' = 4 := by omega
        clear hij hj hlt
        cases o5 with
        | none =>
          have HQ0 : Hid (wr.cell? ⟨gg, 4, none⟩ = some (.bool false)) := Lib.hid (HGB.out.cell 4)
          have q0 : wr.cell? ⟨gq, 4, none⟩ = some (.int .i64 7) := HA.out.2.cell 4
          have HT : Hid (∀ W, Keeps (fun _ => False) w W → Calls Tryd.prog 12 #[.slice A n c, .int .i64 7] W fun e w' => e = .returned (.tuple #[.nilIface, .iface 33 (.int .i64 4)]) ∧ Hid (Keeps (fun _ => False) W w')) := Lib.hid fun W hW => (HAS.out W vt 7 hW rfl HVE.out).mono fun e w' h => by
            rw [← HO.out.2.2.2.2] at h
            exact ⟨h.1, Lib.hid h.2⟩
          clear HFB HKW HAS HSA HCN HVE HO HFA HGB
          go_upto_region 19 with (go_at_call 12; refine (HT.out _ HW.out).mono ?_; rintro e w14 ⟨rfl, HK14⟩; have HQ := Lib.hid (cell_keep HK14.out HQ0.out))
          refine wp_region_held_drew (S := Keeps (fun _ => False) w14) (by kernel_rfl) (Keeps.refl _ _).drew (fun hHeld => ?_)
          refine wpAnyH_take (i := 0) (oi := ⟨some 99, _, _, _, _, _⟩) (v := ?_) rfl (by kernel_rfl) (by kernel_rfl) (by kernel_rfl) (fun _ _ _ h => h) (Or.inl ⟨by rfl, ?_⟩) hHeld ?_
          rotate_left
          · intro w' hSw
            go_simp
            first | done | rfl
          try simp only [Act.put, List.setIfInBounds_toArray, List.set_cons_zero, List.set_cons_succ]
          refine wpAnyH_take (i := 1) (oi := ⟨some 100, _, _, _, _, _⟩) (v := ?_) rfl (by kernel_rfl) (by kernel_rfl) (by kernel_rfl) (fun _ _ _ h => h) (Or.inl ⟨by rfl, ?_⟩) hHeld ?_
          rotate_left
          · intro w' hSw
            go_simp
            first | done | rfl
          try simp only [Act.put, List.setIfInBounds_toArray, List.set_cons_zero, List.set_cons_succ]
          refine wpAnyH_take (i := 2) (oi := ⟨some 101, _, _, _, _, _⟩) (v := ?_) rfl (by kernel_rfl) (by kernel_rfl) (by kernel_rfl) (fun _ _ _ h => h) (Or.inl ⟨by rfl, ?_⟩) hHeld ?_
          rotate_left
          · intro w' hSw
            go_simp
            first | done | rfl
          try simp only [Act.put, List.setIfInBounds_toArray, List.set_cons_zero, List.set_cons_succ]
          refine wpAnyH_take (i := 3) (oi := ⟨some 102, _, _, _, _, _⟩) (v := ?_) rfl (by kernel_rfl) (by kernel_rfl) (by kernel_rfl) (fun _ _ _ h => h) (Or.inl ⟨by rfl, ?_⟩) hHeld ?_
          rotate_left
          · intro w' hSw
            go_simp
            first | done | rfl
          try simp only [Act.put, List.setIfInBounds_toArray, List.set_cons_zero, List.set_cons_succ]
          refine wpAnyH_take (i := 4) (oi := ⟨some 103, _, _, _, _, _⟩) (v := ?_) rfl (by kernel_rfl) (by kernel_rfl) (by kernel_rfl) (fun _ _ _ h => h) (Or.inl ⟨by rfl, ?_⟩) hHeld ?_
          rotate_left
          · intro w' hSw
            go_simp
            first | done | rfl
          try simp only [Act.put, List.setIfInBounds_toArray, List.set_cons_zero, List.set_cons_succ]
          refine wpAnyH_take (i := 5) (oi := ⟨some 104, _, _, _, _, _⟩) (v := ?_) rfl (by kernel_rfl) (by kernel_rfl) (by kernel_rfl) (fun _ _ _ h => h) (Or.inl ⟨by rfl, ?_⟩) hHeld ?_
          rotate_left
          · intro w' hSw
            have cv := cell_keep hSw HQ.out
            go_simp
            first | done | rfl
          try simp only [Act.put, List.setIfInBounds_toArray, List.set_cons_zero, List.set_cons_succ]
          refine wpAnyH_take (i := 6) (oi := ⟨some 105, _, _, _, _, _⟩) (v := ?_) rfl (by kernel_rfl) (by kernel_rfl) (by kernel_rfl) (fun _ _ _ h => h) (Or.inl ⟨by rfl, ?_⟩) hHeld ?_
          rotate_left
          · intro w' hSw
            go_simp
            first | done | rfl
          try simp only [Act.put, List.setIfInBounds_toArray, List.set_cons_zero, List.set_cons_succ]
          refine wpAnyH_take (i := 7) (oi := ⟨some 106, _, _, _, _, _⟩) (v := ?_) rfl (by kernel_rfl) (by kernel_rfl) (by kernel_rfl) (fun _ _ _ h => h) (Or.inl ⟨by rfl, ?_⟩) hHeld ?_
          rotate_left
          · intro w' hSw
            go_simp
            first | done | rfl
          try simp only [Act.put, List.setIfInBounds_toArray, List.set_cons_zero, List.set_cons_succ]
          refine wpAnyH_take (i := 8) (oi := ⟨some 107, _, _, _, _, _⟩) (v := ?_) rfl (by kernel_rfl) (by kernel_rfl) (by kernel_rfl) (fun _ _ _ h => h) (Or.inl ⟨by rfl, ?_⟩) hHeld ?_
          rotate_left
          · intro w' hSw
            go_simp
            first | done | rfl
          try simp only [Act.put, List.setIfInBounds_toArray, List.set_cons_zero, List.set_cons_succ]
          refine wpAnyH_take (i := 9) (oi := ⟨some 108, _, _, _, _, _⟩) (v := ?_) rfl (by kernel_rfl) (by kernel_rfl) (by kernel_rfl) (fun _ _ _ h => h) (Or.inl ⟨by rfl, ?_⟩) hHeld ?_
          rotate_left
          · intro w' hSw
            go_simp
            first | done | rfl
          try simp only [Act.put, List.setIfInBounds_toArray, List.set_cons_zero, List.set_cons_succ]
          refine wpAnyH_take (i := 10) (oi := ⟨some 109, _, _, _, _, _⟩) (v := ?_) rfl (by kernel_rfl) (by kernel_rfl) (by kernel_rfl) (fun _ _ _ h => h) (Or.inl ⟨by rfl, ?_⟩) hHeld ?_
          rotate_left
          · intro w' hSw
            go_simp
            first | done | rfl
          try simp only [Act.put, List.setIfInBounds_toArray, List.set_cons_zero, List.set_cons_succ]
          refine wpAnyH_take (i := 11) (oi := ⟨some 110, _, _, _, _, _⟩) (v := ?_) rfl (by kernel_rfl) (by kernel_rfl) (by kernel_rfl) (fun _ _ _ h => h) (Or.inl ⟨by rfl, ?_⟩) hHeld ?_
          rotate_left
          · intro w' hSw
            go_simp
            first | done | rfl
          try simp only [Act.put, List.setIfInBounds_toArray, List.set_cons_zero, List.set_cons_succ]
          refine wpAnyH_take (i := 12) (oi := ⟨some 111, _, _, _, _, _⟩) (v := ?_) rfl (by kernel_rfl) (by kernel_rfl) (by kernel_rfl) (fun _ _ _ h => h) (Or.inl ⟨by rfl, ?_⟩) hHeld ?_
          rotate_left
          · intro w' hSw
            go_simp
            first | done | rfl
          try simp only [Act.put, List.setIfInBounds_toArray, List.set_cons_zero, List.set_cons_succ]
          refine wpAnyH_take (i := 13) (oi := ⟨some 112, _, _, _, _, _⟩) (v := ?_) rfl (by kernel_rfl) (by kernel_rfl) (by kernel_rfl) (fun _ _ _ h => h) (Or.inl ⟨by rfl, ?_⟩) hHeld ?_
          rotate_left
          · intro w' hSw
            go_simp
            first | done | rfl
          try simp only [Act.put, List.setIfInBounds_toArray, List.set_cons_zero, List.set_cons_succ]
          refine wpAnyH_take (i := 14) (oi := ⟨some 113, _, _, _, _, _⟩) (v := ?_) rfl (by kernel_rfl) (by kernel_rfl) (by kernel_rfl) (fun _ _ _ h => h) (Or.inl ⟨by rfl, ?_⟩) hHeld ?_
          rotate_left
          · intro w' hSw
            go_simp
            first | done | rfl
          try simp only [Act.put, List.setIfInBounds_toArray, List.set_cons_zero, List.set_cons_succ]
          refine wpAnyH_take (i := 15) (oi := ⟨some 114, _, _, _, _, _⟩) (v := ?_) rfl (by kernel_rfl) (by kernel_rfl) (by kernel_rfl) (fun _ _ _ h => h) (Or.inl ⟨by rfl, ?_⟩) hHeld ?_
          rotate_left
          · intro w' hSw
            go_simp
            first | done | rfl
          try simp only [Act.put, List.setIfInBounds_toArray, List.set_cons_zero, List.set_cons_succ]
          refine wpAnyH_done (by kernel_rfl) ?_ _
          go_upto_region 21 with fail
          refine gen_codeF (fun W => Keeps (fun _ => False) wr W) (HK14.out.trans hHeld (fun _ _ h => h)) ?_
          intro w15 h15
          have HK15 := Lib.hid h15
          clear h15 hHeld HK14 HQ HQ0 HT q0
          go_wp2
          go_roundg (5 - (4 + 1))
          case measure => rw [HG2.out]; omega
          case rel => exact ⟨4 + 1, 5, rfl, by omega, by first | rfl | go_num, rfl, Lib.hid ⟨HA.out.1.trans HK15.out (fun _ _ h => h), HK15.out.blk HA.out.2 (fun h => h)⟩⟩
        | some x =>
          obtain ⟨A1, c1, l1, rfl⟩ := x1_all (firstT_place HO.out.2.2.2.2.symm).1
          have HQ0 : Hid (wr.cell? ⟨gg, 4, none⟩ = some (.bool true)) := Lib.hid (HGB.out.cell 4)
          have q0 : wr.cell? ⟨gq, 4, none⟩ = some (.int .i64 7) := HA.out.2.cell 4
          have HT : Hid (∀ W, Keeps (fun _ => False) w W → Calls Tryd.prog 12 #[.slice A n c, .int .i64 7] W fun e w' => ∃ A2 c2 l2, Hid (l2.length = l1.length) ∧ e = .returned (.tuple #[.iface 45 (.slice A2 l1.length c2), .nilIface]) ∧ Hid (Keeps (fun _ => False) W w' ∧ ∃ D, At D w' (.all A2 c2 l2))) := Lib.hid fun W hW => (HAS.out W vt 7 hW rfl HVE.out).mono fun e w' h => by
            rw [← HO.out.2.2.2.2] at h
            obtain ⟨x2, D, h1, h2, h3, h4⟩ := h
            obtain ⟨A2, c2, l2, rfl, hl⟩ := x2_all h3
            simp only [vv] at h1
            rw [hl] at h1
            exact ⟨A2, c2, l2, Lib.hid hl, h1, Lib.hid ⟨h2, D, h4⟩⟩
          obtain ⟨d, hfr⟩ := lfirst_found w5 A3 t.count c3 t vt _ 7 HVE.out HO.out.2.2.2.2.symm rfl (by have := HCN.out; omega) HSA.out
          have HR : Hid (∀ W, Keeps (fun _ => False) w5 W → Calls Tryd.prog 13 #[.slice A3 t.count c3, .int .i64 7] W fun e w' => e = .returned (.tuple #[.agg #[.int .i64 7, .int .i64 d, .int .i64 0, .int .i64 0, .string ⟨#[]⟩, .int .i64 l1.length], .bool true]) ∧ Hid (Keeps (fun _ => False) W w')) := Lib.hid fun W hW => (hfr W hW).mono fun e w' h => ⟨h.1, Lib.hid h.2⟩
          clear hfr HFB HKW HAS HSA HCN HVE HO HGB
          go_upto_region 19 with (go_at_call 12; refine (HT.out _ HW.out).mono ?_; rintro e w14 ⟨A2, c2, l2, HLL, rfl, HK14⟩; have HQ := Lib.hid (cell_keep HK14.out.1 HQ0.out))
          refine wp_region_held_drew (S := Keeps (fun _ => False) w14) (by kernel_rfl) (Keeps.refl _ _).drew (fun hHeld => ?_)
          refine wpAnyH_take (i := 0) (oi := ⟨some 99, _, _, _, _, _⟩) (v := ?_) rfl (by kernel_rfl) (by kernel_rfl) (by kernel_rfl) (fun _ _ _ h => h) (Or.inl ⟨by rfl, ?_⟩) hHeld ?_
          rotate_left
          · intro w' hSw
            go_simp
            first | done | rfl
          try simp only [Act.put, List.setIfInBounds_toArray, List.set_cons_zero, List.set_cons_succ]
          refine wpAnyH_take (i := 1) (oi := ⟨some 100, _, _, _, _, _⟩) (v := ?_) rfl (by kernel_rfl) (by kernel_rfl) (by kernel_rfl) (fun _ _ _ h => h) (Or.inl ⟨by rfl, ?_⟩) hHeld ?_
          rotate_left
          · intro w' hSw
            go_simp
            first | done | rfl
          try simp only [Act.put, List.setIfInBounds_toArray, List.set_cons_zero, List.set_cons_succ]
          refine wpAnyH_take (i := 2) (oi := ⟨some 101, _, _, _, _, _⟩) (v := ?_) rfl (by kernel_rfl) (by kernel_rfl) (by kernel_rfl) (fun _ _ _ h => h) (Or.inl ⟨by rfl, ?_⟩) hHeld ?_
          rotate_left
          · intro w' hSw
            go_simp
            first | done | rfl
          try simp only [Act.put, List.setIfInBounds_toArray, List.set_cons_zero, List.set_cons_succ]
          refine wpAnyH_take (i := 3) (oi := ⟨some 102, _, _, _, _, _⟩) (v := ?_) rfl (by kernel_rfl) (by kernel_rfl) (by kernel_rfl) (fun _ _ _ h => h) (Or.inl ⟨by rfl, ?_⟩) hHeld ?_
          rotate_left
          · intro w' hSw
            go_simp
            first | done | rfl
          try simp only [Act.put, List.setIfInBounds_toArray, List.set_cons_zero, List.set_cons_succ]
          refine wpAnyH_take (i := 4) (oi := ⟨some 103, _, _, _, _, _⟩) (v := ?_) rfl (by kernel_rfl) (by kernel_rfl) (by kernel_rfl) (fun _ _ _ h => h) (Or.inl ⟨by rfl, ?_⟩) hHeld ?_
          rotate_left
          · intro w' hSw
            go_simp
            first | done | rfl
          try simp only [Act.put, List.setIfInBounds_toArray, List.set_cons_zero, List.set_cons_succ]
          refine wpAnyH_take (i := 5) (oi := ⟨some 104, _, _, _, _, _⟩) (v := ?_) rfl (by kernel_rfl) (by kernel_rfl) (by kernel_rfl) (fun _ _ _ h => h) (Or.inl ⟨by rfl, ?_⟩) hHeld ?_
          rotate_left
          · intro w' hSw
            have cv := cell_keep hSw HQ.out
            go_simp
            first | done | rfl
          try simp only [Act.put, List.setIfInBounds_toArray, List.set_cons_zero, List.set_cons_succ]
          refine wpAnyH_take (i := 6) (oi := ⟨some 105, _, _, _, _, _⟩) (v := ?_) rfl (by kernel_rfl) (by kernel_rfl) (by kernel_rfl) (fun _ _ _ h => h) (Or.inl ⟨by rfl, ?_⟩) hHeld ?_
          rotate_left
          · intro w' hSw
            go_simp
            first | done | rfl
          try simp only [Act.put, List.setIfInBounds_toArray, List.set_cons_zero, List.set_cons_succ]
          refine wpAnyH_take (i := 7) (oi := ⟨some 106, _, _, _, _, _⟩) (v := ?_) rfl (by kernel_rfl) (by kernel_rfl) (by kernel_rfl) (fun _ _ _ h => h) (Or.inl ⟨by rfl, ?_⟩) hHeld ?_
          rotate_left
          · intro w' hSw
            go_simp
            first | done | rfl
          try simp only [Act.put, List.setIfInBounds_toArray, List.set_cons_zero, List.set_cons_succ]
          refine wpAnyH_take (i := 8) (oi := ⟨some 107, _, _, _, _, _⟩) (v := ?_) rfl (by kernel_rfl) (by kernel_rfl) (by kernel_rfl) (fun _ _ _ h => h) (Or.inl ⟨by rfl, ?_⟩) hHeld ?_
          rotate_left
          · intro w' hSw
            go_simp
            first | done | rfl
          try simp only [Act.put, List.setIfInBounds_toArray, List.set_cons_zero, List.set_cons_succ]
          refine wpAnyH_take (i := 9) (oi := ⟨some 108, _, _, _, _, _⟩) (v := ?_) rfl (by kernel_rfl) (by kernel_rfl) (by kernel_rfl) (fun _ _ _ h => h) (Or.inl ⟨by rfl, ?_⟩) hHeld ?_
          rotate_left
          · intro w' hSw
            go_simp
            first | done | rfl
          try simp only [Act.put, List.setIfInBounds_toArray, List.set_cons_zero, List.set_cons_succ]
          refine wpAnyH_take (i := 10) (oi := ⟨some 109, _, _, _, _, _⟩) (v := ?_) rfl (by kernel_rfl) (by kernel_rfl) (by kernel_rfl) (fun _ _ _ h => h) (Or.inl ⟨by rfl, ?_⟩) hHeld ?_
          rotate_left
          · intro w' hSw
            go_simp
            first | done | rfl
          try simp only [Act.put, List.setIfInBounds_toArray, List.set_cons_zero, List.set_cons_succ]
          refine wpAnyH_take (i := 11) (oi := ⟨some 110, _, _, _, _, _⟩) (v := undef) rfl (by kernel_rfl) (by kernel_rfl) (by kernel_rfl) (fun _ _ _ h => h) (Or.inr ⟨by rfl, rfl⟩) hHeld ?_
          try simp only [Act.put, List.setIfInBounds_toArray, List.set_cons_zero, List.set_cons_succ]
          refine wpAnyH_take (i := 12) (oi := ⟨some 111, _, _, _, _, _⟩) (v := undef) rfl (by kernel_rfl) (by kernel_rfl) (by kernel_rfl) (fun _ _ _ h => h) (Or.inr ⟨by rfl, rfl⟩) hHeld ?_
          try simp only [Act.put, List.setIfInBounds_toArray, List.set_cons_zero, List.set_cons_succ]
          refine wpAnyH_take (i := 13) (oi := ⟨some 112, _, _, _, _, _⟩) (v := undef) rfl (by kernel_rfl) (by kernel_rfl) (by kernel_rfl) (fun _ _ _ h => h) (Or.inr ⟨by rfl, rfl⟩) hHeld ?_
          try simp only [Act.put, List.setIfInBounds_toArray, List.set_cons_zero, List.set_cons_succ]
          refine wpAnyH_take (i := 14) (oi := ⟨some 113, _, _, _, _, _⟩) (v := ?_) rfl (by kernel_rfl) (by kernel_rfl) (by kernel_rfl) (fun _ _ _ h => h) (Or.inl ⟨by rfl, ?_⟩) hHeld ?_
          rotate_left
          · intro w' hSw
            go_simp
            first | done | rfl
          try simp only [Act.put, List.setIfInBounds_toArray, List.set_cons_zero, List.set_cons_succ]
          refine wpAnyH_take (i := 15) (oi := ⟨some 114, _, _, _, _, _⟩) (v := ?_) rfl (by kernel_rfl) (by kernel_rfl) (by kernel_rfl) (fun _ _ _ h => h) (Or.inl ⟨by rfl, ?_⟩) hHeld ?_
          rotate_left
          · intro w' hSw
            go_simp
            first | done | rfl
          try simp only [Act.put, List.setIfInBounds_toArray, List.set_cons_zero, List.set_cons_succ]
          refine wpAnyH_done (by kernel_rfl) ?_ _
          go_upto_region 21 with fail
          refine gen_codeF (fun W => Keeps (fun _ => False) wr W ∧ ∃ D, At D W (.all A2 c2 l2)) ⟨HK14.out.1.trans hHeld (fun _ _ h => h), HK14.out.2.imp fun D h => h.keep hHeld (fun _ _ h => h)⟩ ?_
          intro w15 h15
          have HK15 := Lib.hid h15
          clear h15 hHeld HK14 HQ HQ0 HT q0
          go_upto_region 23 with (go_at_call 13; refine (HR.out _ (HFA.out.keep.trans HK15.out.1 (fun _ _ h => h))).mono ?_; rintro e w16 ⟨rfl, HK16⟩)
          obtain ⟨s, hs⟩ : ∃ s, s = w16.heap.size := ⟨_, rfl⟩
          rw [← hs]
          refine gen_codeF (fun W => Keeps (fun _ => False) wr W ∧ (∃ D, At D W (.all A2 c2 l2)) ∧ Blk W s 36 [.int .i64 7, .int .i64 d, .int .i64 0, .int .i64 0, .string ⟨#[]⟩, .int .i64 l1.length]) ⟨(HK15.out.1.trans HK16.out (fun _ _ h => h)).alloc _, HK15.out.2.imp fun D h => h.keep (HK16.out.alloc _) (fun _ _ h => h), by rw [hs]; exact Blk.new w16 _ _⟩ ?_
          intro w17 h17
          have HS17 := Lib.hid h17
          have HKD : Hid (Calls Tryd.prog 14 #[.iface 45 (.slice A2 l1.length c2), .agg #[.int .i64 7, .int .i64 d, .int .i64 0, .int .i64 0, .string ⟨#[]⟩, .int .i64 l1.length]] w17 fun e w' => e = .returned (.bool true) ∧ Hid (Keeps (fun _ => False) w17 w')) := Lib.hid (by
            obtain ⟨D, hD⟩ := h17.2.1
            have h := lkind_any w17 D (.all A2 c2 l2) hD d
            simp only [vv, seenV] at h
            rw [HLL.out] at h
            exact h.mono fun e w' h => ⟨h.1, Lib.hid h.2⟩)
          have cc0 := h17.2.2.cell 0
          have cc1 := h17.2.2.cell 1
          have cc2 := h17.2.2.cell 2
          have cc3 := h17.2.2.cell 3
          have cc4 := h17.2.2.cell 4
          have cc5 := h17.2.2.cell 5
          clear h17 hs HK15 HK16 HR
          have x0 := as_all_num
          have x1 := as_all_spot
          have x2 := as_all_trail
          have x3 := as_all_note
          have x4 := as_all_all
          go_wp2_with (go_at_call 14; refine HKD.out.mono ?_; rintro e w18 ⟨rfl, HK18⟩; have hk18 : Keeps (fun _ => False) wr w18 := HS17.out.1.trans HK18.out (fun _ _ h => h); have HKW18 := Lib.hid hk18; have y0 : w18.cell? ⟨g + 4, 0, none⟩ = some (.slice A1 l1.length c1) := (hk18.blk HFA.out.b5 (fun h => h)).cell 0; clear hk18)
          go_roundg (5 - (4 + 1))
          case measure => rw [HG2.out]; omega
          case rel => exact ⟨4 + 1, 5, rfl, by omega, by first | rfl | go_num, rfl, Lib.hid ⟨HA.out.1.trans HKW18.out (fun _ _ h => h), Keeps.blk HKW18.out HA.out.2 (fun h => h)⟩⟩
      · omega
    · obtain rfl : j = 5 := by omega
      obtain rfl : i' = 5 := by omega
      have HW : Hid (Keeps (fun _ => False) w wr) := Lib.hid (HKW.out.trans (HFB.out.1.step HA.out.1).keep (fun _ _ h => h))
      clear HFB HA HG2 HKW HAS HSA HCN HVE HO hij hj hlt
      go_wp2_with (go_at_call 5; refine (works_any _).mono ?_; rintro e w0 ⟨rfl, hk0⟩; have HK0 := Lib.hid hk0; clear hk0)
      go_ret
      exact ⟨rfl, HW.out.trans HK0.out (fun _ _ h => h)⟩
set_option maxHeartbeats 4000000 in
set_option maxRecDepth 100000 in
theorem found_bad (w : World) (A : Option Addr) (n c : Nat) (cs : List CauseV) (no : Int) (hn : cs.length = n) (hS : CausesAt w A cs) (er : Int × Nat) (hb : buildF cs = .inl er) :
    Calls Tryd.prog 3 #[.slice A n c, .int .i64 no] w fun e w' => e = .returned (.bool true) ∧ Keeps (fun _ => False) w w' := by
  have HB : Hid (∀ W, Keeps (fun _ => False) w W → Calls Tryd.prog 4 #[.slice A n c] W fun e w' => e = .returned (.tuple #[.nilIface, .iface 40 (.agg #[.int .i64 er.1, .int .i64 er.2])]) ∧ Hid (Keeps (fun _ => False) W w')) := Lib.hid fun W hW =>
    (Build_any W A n c cs hn (hS.keep hW)).mono fun e w' h => ⟨h.2.1 er hb, Lib.hid h.1⟩
  clear hn hS hb
  go_enter Tryd.func3, Tryd.ntmps3
  go_wp2_with (first
    | (go_at_call 4; refine (HB.out _ ((Keeps.refl _ w).alloc _)).mono ?_; rintro e w1 ⟨rfl, HK1⟩)
    | (go_at_call 5; refine (works_any _).mono ?_; rintro e w2 ⟨rfl, hk2⟩; have HK2 := Lib.hid hk2; clear hk2))
  go_ret
  exact ⟨rfl, (((Keeps.refl _ w).alloc _).trans HK1.out (fun _ _ h => h)).trans HK2.out (fun _ _ h => h)⟩
theorem found_any (w : World) (A : Option Addr) (n c : Nat) (cs : List CauseV) (no : Int) (hg : GlobE w) (hn : cs.length = n) (hS : CausesAt w A cs) :
    Calls Tryd.prog 3 #[.slice A n c, .int .i64 no] w fun e w' => e = .returned (.bool true) ∧ Keeps (fun _ => False) w w' := by
  cases hb : buildF cs with
  | inl er => exact found_bad w A n c cs no hn hS er hb
  | inr t => exact found_ok w A n c cs no hg hn hS t hb
end Go.Proofs.YtinonjfnhedlpaaDoor
