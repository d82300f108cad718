/-
  WALKS: the statement HmacMacs.
-/
import Derived.Test.YtnlnbgjpbnjjfaaDoorMacsNW
import Derived.Test.YtnlnbgjpbnjjfaaDoorMacsP
import Derived.Test.YtnlnbgjpbnjjfaaDoorSpoilW
import Derived.Test.YtnlnbgjpbnjjfaaDoorHmacSumsW
import Derived.Test.YtnlnbgjpbnjjfaaDoorRMacW
import Derived.Deep.CutRange
import Derived.Deep.DeepCutAuto
set_option linter.unusedSimpArgs false
namespace Go.Proofs.YtnlnbgjpbnjjfaaDoor
open Go Go.RowKit Go.Sha Go.Aff Go.Mac

theorem gen_code {P : Program} {code : Code} {Q : Exit → Act → World → Prop} {a : Act} {w : World} (R : World → Prop) (hR : R w) (h : ∀ W, R W → code.wp P Q a W) : code.wp P Q a w := h w hR
set_option maxHeartbeats 40000000 in
set_option maxRecDepth 100000 in
theorem hmacs_any (w : World) (hG : Glob w) (A B : Option Addr) (n c m d : Nat) (a b : List Int) (hn : a.length = n) (hx : Rd w A n (vb a)) (bx : IsBytes a) (hm : n ≤ 140737488351232)
    (hn' : b.length = m) (hy : Rd w B m (vb b)) (by' : IsBytes b) (hm' : m ≤ 140737488351232) (E : Option Addr) (N ce : Nat) (ops : List OpV) (hN : ops.length = N) (hS : ScriptAt w E ops) (htot : totF ops N ≤ 1048576) (hN2 : N ≤ 140737488351232) :
    Calls Tryd.prog 10 #[.slice A n c, .slice B m d, .slice E N ce] w fun e w' => e = .returned (.bool true) ∧ Keeps (fun _ => False) w w' := by
  have HL1 : Hid (Calls Tryd.prog 12 #[.slice A n c] w fun e w' => ∃ g cap, e = .returned (.slice (some ⟨g, 0, none⟩) n cap) ∧ Lent w w' g n cap a) := Lib.hid (lent_any w A n c a hn hx hm)
  have HL2 : Hid (∀ W, Keeps (fun _ => False) w W → Calls Tryd.prog 12 #[.slice B m d] W fun e w' => ∃ g cap, e = .returned (.slice (some ⟨g, 0, none⟩) m cap) ∧ Lent W w' g m cap b) := Lib.hid fun W hk => lent_any W B m d b hn' (hy.keep hk (no_out _ _)) hm'
  have HNW : Hid (∀ (w1 w1' : World) (g1 c1 g2 c2 : Nat), Lent w w1 g1 n c1 a → Lent w1 w1' g2 m c2 b → ∀ W, Keeps (fun _ => False) w1' W →
      (Calls Tryd.prog 31 #[.slice (some ⟨g1, 0, none⟩) n c1] W fun e w' => ∃ p q v, e = .returned (ptr p) ∧ OMac W w' p q v a []) ∧
      (Calls Tryd.prog 31 #[.slice (some ⟨g2, 0, none⟩) m c2] W fun e w' => ∃ p q v, e = .returned (ptr p) ∧ OMac W w' p q v b []) ∧
      (Calls Tryd.prog 15 #[.slice (some ⟨g1, 0, none⟩) n c1, .slice A n c] W fun e w' => e = .returned (.bool true) ∧ W = w') ∧
      (Calls Tryd.prog 15 #[.slice (some ⟨g2, 0, none⟩) m c2, .slice B m d] W fun e w' => e = .returned (.bool true) ∧ W = w')) := Lib.hid fun w1 w1' g1 c1 g2 c2 h1 h2 W hk => by
    have l1 := (h1.keep h2.2.1).keep hk
    have l2 := h2.keep hk
    have hwW : Keeps (fun _ => False) w W := (h1.2.1.trans h2.2.1 (fun _ _ h => h)).trans hk (fun _ _ h => h)
    have hc1 := l1.cap
    have hc2 := l2.cap
    exact ⟨mnew_any W (hG.keep hwW (fun _ h => h.elim)) _ n c1 a hn (l1.rd hn) bx (by omega) hm, mnew_any W (hG.keep hwW (fun _ h => h.elim)) _ m c2 b hn' (l2.rd hn') by' (by omega) hm',
      (kept_any W w g1 n c1 A c a hn l1 (hx.keep hwW (no_out _ _)) hm).mono fun e w' h => ⟨h.1, h.2.symm⟩, (kept_any W w1 g2 m c2 B d b hn' l2 (hy.keep hwW (no_out _ _)) hm').mono fun e w' h => ⟨h.1, h.2.symm⟩⟩
  have HSC : Hid (∀ (W : World) (k : Nat), Keeps (fun _ => False) w W → k < N → ∃ (g o : Nat) (kd wh : Int) (A' : Option Addr) (nb c' : Nat) (bs : List Int), E = some ⟨g, o, none⟩ ∧ W.cell? ⟨g, o + k * 3, none⟩ = some (.int .i64 kd) ∧ W.cell? ⟨g, o + k * 3 + 1, none⟩ = some (.int .i64 wh) ∧ W.cell? ⟨g, o + k * 3 + 2, none⟩ = some (.slice A' nb c') ∧
      bs.length = nb ∧ (Rd w A' nb (vb bs) ∧ totF ops (k + 1) = totF ops k + nb) ∧ IsBytes bs ∧ nb ≤ c' ∧ nb ≤ 140737488351232) := Lib.hid fun W k hk hlt => by
    have hop : ∃ op, ops[k]? = some op := ⟨_, List.getElem?_eq_getElem (by omega)⟩
    obtain ⟨op, hop⟩ := hop
    obtain ⟨g, o, e, a1, a2, a3, a4, a5, a6, a7⟩ := hS k op hop
    have kc : ∀ x y, w.cell? ⟨g, x, none⟩ = some y → W.cell? ⟨g, x, none⟩ = some y := fun x y h => (hk.cell (p := ⟨g, x, none⟩) (World.block_lt_of_cell? w _ h) (fun h => h)).trans h
    exact ⟨g, o, op.kind, op.who, op.A, op.bs.length, op.c, op.bs, e, kc _ _ a1, kc _ _ a2, kc _ _ a3, rfl, ⟨a4, totF_succ ops k op hop⟩, a5, a6, a7⟩
  have HTS : Hid (∀ k, k < N → totF ops k ≤ totF ops (k + 1)) := Lib.hid fun k hlt => by
    have hop : ∃ op, ops[k]? = some op := ⟨_, List.getElem?_eq_getElem (by omega)⟩
    obtain ⟨op, hop⟩ := hop
    rw [totF_succ ops k op hop]; omega
  have HTB : Hid (∀ k, totF ops k ≤ 1048576) := Lib.hid fun k => by
    have := totF_le ops k
    rw [hN] at this
    omega
  have HGW := Lib.hid hG
  clear hS htot hN hG
  go_enter Tryd.func10, Tryd.ntmps10
  have tok1 : True := trivial
  go_upto_region 2 with (first
    | (go_at_call 12; have _t := tok1; clear tok1; refine HL1.out.mono ?_; rintro e w1 ⟨g1, c1, rfl, hl1⟩; have HX1 := Lib.hid hl1; clear hl1)
    | (go_at_call 12; refine (HL2.out _ HX1.out.2.1).mono ?_; rintro e wl ⟨g2, c2, rfl, hl2⟩; have HX2 := Lib.hid hl2; have hnw := HNW.out w1 wl g1 c1 g2 c2 HX1.out hl2; clear hl2 HL1 HL2 HNW; have HNW := Lib.hid hnw; clear hnw))
  refine gen_code (fun W => Keeps (fun _ => False) wl W ∧ Blk W wl.heap.size 71 [.slice (some ⟨g1, 0, none⟩) n c1, .slice (some ⟨g2, 0, none⟩) m c2]) ⟨(Keeps.refl _ _).alloc _, Blk.new wl 71 [.slice (some ⟨g1, 0, none⟩) n c1, .slice (some ⟨g2, 0, none⟩) m c2]⟩ ?_
  rintro w2 ⟨hk2, hb2⟩
  have HKL := Lib.hid hk2
  have HK2 := Lib.hid hb2
  have HN0 := Lib.hid (fun W (hk : Keeps (fun _ => False) w2 W) => (HNW.out W (HKL.out.trans hk (fun _ _ h => h))).1)
  have HN1 := Lib.hid (fun W (hk : Keeps (fun _ => False) w2 W) => (HNW.out W (HKL.out.trans hk (fun _ _ h => h))).2.1)
  clear hk2 hb2
  go_cut [8] (fun s wx => ∃ (gm p0 q0 : Nat) (v0 : Value) (p1 q1 : Nat) (v1 : Value), s = ptr gm ∧ Hid (NewTwo w2 wx a b gm p0 q0 v0 p1 q1 v1))
  case first =>
    refine wp_region_held_drew (S := Keeps (fun _ => False) w2) (by kernel_rfl) ((Keeps.refl (fun _ => False) w2).drew) (fun hHeld => ?_)
    refine wpAnyH_take (i := 0) (oi := ⟨some 21, _, _, _, _, _⟩) (v := ?_) rfl (by kernel_rfl) (by kernel_rfl) (by kernel_rfl) (fun _ _ _ h => h) (Or.inl ⟨by rfl, ?_⟩) hHeld ?_
    rotate_left
    · intro w' hSw
      go_simp
      first | done | rfl
    try simp only [Act.put, List.setIfInBounds_toArray, List.set_cons_zero, List.set_cons_succ]
    refine wpAnyH_take (i := 1) (oi := ⟨some 22, _, _, _, _, _⟩) (v := ?_) rfl (by kernel_rfl) (by kernel_rfl) (by kernel_rfl) (fun _ _ _ h => h) (Or.inl ⟨by rfl, ?_⟩) hHeld ?_
    rotate_left
    · intro w' hSw
      have hc := (hSw.blk HK2.out (fun h => h)).cell 0
      go_simp
      first | done | rfl
    try simp only [Act.put, List.setIfInBounds_toArray, List.set_cons_zero, List.set_cons_succ]
    refine wpAnyH_take (i := 3) (oi := ⟨some 24, _, _, _, _, _⟩) (v := ?_) rfl (by kernel_rfl) (by kernel_rfl) (by kernel_rfl) (fun _ _ _ h => h) (Or.inl ⟨by rfl, ?_⟩) hHeld ?_
    rotate_left
    · intro w' hSw
      go_simp
      first | done | rfl
    try simp only [Act.put, List.setIfInBounds_toArray, List.set_cons_zero, List.set_cons_succ]
    refine wpAnyH_take (i := 4) (oi := ⟨some 25, _, _, _, _, _⟩) (v := ?_) rfl (by kernel_rfl) (by kernel_rfl) (by kernel_rfl) (fun _ _ _ h => h) (Or.inl ⟨by rfl, ?_⟩) hHeld ?_
    rotate_left
    · intro w' hSw
      have hc := (hSw.blk HK2.out (fun h => h)).cell 1
      go_simp
      first | done | rfl
    try simp only [Act.put, List.setIfInBounds_toArray, List.set_cons_zero, List.set_cons_succ]
    refine wpAnyH_ready (rs := [2, 7]) (by kernel_rfl) (by simp) ?_
    refine (AllReadyH.cons (o := ⟨some 23, _, _, _, _, _⟩) rfl (fun K hK => ?_) (AllReadyH.cons (o := ⟨some 8, _, _, _, _, _⟩) rfl (fun K hK => ?_) AllReadyH.nil))
    · go_simp
      refine (HN0.out _ hHeld).mono ?_
      rintro e wA ⟨p0, q0, v0, rfl, ho0⟩
      have hqA := hHeld.trans ho0.own.2.1 (fun _ _ h => h)
      have HO0 := Lib.hid (ho0.older hHeld)
      have HL0 : Hid (∀ x, MFoot p0 q0 v0 x → w2.heap.size ≤ x) := Lib.hid (fun x hx => HO0.out.foot_low x hx)
      clear ho0
      refine hK.out _ _ hqA (fun hHeld => ?_)
      clear hK K
      try simp only [Act.put, List.setIfInBounds_toArray, List.set_cons_zero, List.set_cons_succ]
      refine wpAnyH_ready (rs := [5, 7]) (by kernel_rfl) (by simp) ?_
      refine (AllReadyH.cons (o := ⟨some 26, _, _, _, _, _⟩) rfl (fun K hK => ?_) (AllReadyH.cons (o := ⟨some 8, _, _, _, _, _⟩) rfl (fun K hK => ?_) AllReadyH.nil))
      · go_simp
        refine (HN1.out _ hHeld).mono ?_
        rintro e wB ⟨p1, q1, v1, rfl, ho1⟩
        have hqB := hHeld.trans ho1.own.2.1 (fun _ _ h => h)
        have HO1 := Lib.hid (ho1.older hHeld)
        have HSEP : Hid (∀ x, MFoot p0 q0 v0 x → ¬ MFoot p1 q1 v1 x) := Lib.hid (fun x hx hy => by have h1 := HO0.out.foot_lt x hx; have h2 := ho1.foot_low x hy; omega)
        have HO0 := Lib.hid (HO0.out.keep ho1.own.2.1)
        clear ho1
        refine hK.out _ _ hqB (fun hHeld => ?_)
        clear hK K
        try simp only [Act.put, List.setIfInBounds_toArray, List.set_cons_zero, List.set_cons_succ]
        refine wpAnyH_take (i := 6) (oi := ⟨some 27, _, _, _, _, _⟩) (v := ?_) rfl (by kernel_rfl) (by kernel_rfl) (by kernel_rfl) (fun _ _ _ h => h) (Or.inl ⟨by rfl, ?_⟩) hHeld ?_
        rotate_left
        · intro w' hSw
          go_simp
          first | done | rfl
        try simp only [Act.put, List.setIfInBounds_toArray, List.set_cons_zero, List.set_cons_succ]
        refine wpAnyH_ready (rs := [7]) (by kernel_rfl) (by simp) ?_
        refine (AllReadyH.cons (o := ⟨some 8, _, _, _, _, _⟩) rfl (fun K hK => ?_) AllReadyH.nil)
        go_simp
        have HB := Lib.hid (Blk.new wB 72 [.pointer none, .pointer none])
        have HGE : Hid (w2.heap.size ≤ wB.heap.size) := Lib.hid hHeld.size
        have HO0 := Lib.hid (HO0.out.keep ((Keeps.refl (fun _ => False) _).alloc (.cells #[.pointer none, .pointer none] 72)))
        have HO1 := Lib.hid (HO1.out.keep ((Keeps.refl (fun _ => False) _).alloc (.cells #[.pointer none, .pointer none] 72)))
        refine hK.out _ _ (hHeld.alloc _) (fun hHeld => ?_)
        clear hK K
        try simp only [Act.put, List.setIfInBounds_toArray, List.set_cons_zero, List.set_cons_succ]
        refine wpAnyH_ready (rs := [8]) (by kernel_rfl) (by simp) ?_
        refine (AllReadyH.cons (o := ⟨none, _, _, _, _, _⟩) rfl (fun K hK => ?_) AllReadyH.nil)
        refine stepH_store rfl 72 _ _ rfl [ptr p0, ptr p1] rfl rfl HB.out rfl (by kernel_rfl) (by intro u hu; simp at hu; rcases hu with rfl | rfl <;> rfl) ?_
        have HNT := Lib.hid (newTwo_mk HO0.out HO1.out HSEP.out HB.out HGE.out hHeld)
        refine hK.out _ _ (hHeld.setRow (.inr HGE.out) _) (fun hHeld => ?_)
        clear hK K
        try simp only [Act.put, List.setIfInBounds_toArray, List.set_cons_zero, List.set_cons_succ]
        refine wpAnyH_done (by kernel_rfl) ?_ _
        go_wp2_with fail
        go_meet
        exact ⟨_, p0, q0, v0, p1, q1, v1, rfl, HNT⟩
      · go_simp
        have HB := Lib.hid (Blk.new wA 72 [.pointer none, .pointer none])
        have HGE : Hid (w2.heap.size ≤ wA.heap.size) := Lib.hid hHeld.size
        have HO0 := Lib.hid (HO0.out.keep ((Keeps.refl (fun _ => False) _).alloc (.cells #[.pointer none, .pointer none] 72)))
        refine hK.out _ _ (hHeld.alloc _) (fun hHeld => ?_)
        clear hK K
        try simp only [Act.put, List.setIfInBounds_toArray, List.set_cons_zero, List.set_cons_succ]
        refine wpAnyH_ready (rs := [5]) (by kernel_rfl) (by simp) ?_
        refine (AllReadyH.cons (o := ⟨some 26, _, _, _, _, _⟩) rfl (fun K hK => ?_) AllReadyH.nil)
        go_simp
        refine (HN1.out _ hHeld).mono ?_
        rintro e wB ⟨p1, q1, v1, rfl, ho1⟩
        have hqB := hHeld.trans ho1.own.2.1 (fun _ _ h => h)
        have HO1 := Lib.hid (ho1.older hHeld)
        have HSEP : Hid (∀ x, MFoot p0 q0 v0 x → ¬ MFoot p1 q1 v1 x) := Lib.hid (fun x hx hy => by have h1 := HO0.out.foot_lt x hx; have h2 := ho1.foot_low x hy; omega)
        have HO0 := Lib.hid (HO0.out.keep ho1.own.2.1)
        have HB := Lib.hid (ho1.own.2.1.blk HB.out (fun h => h))
        clear ho1
        refine hK.out _ _ hqB (fun hHeld => ?_)
        clear hK K
        try simp only [Act.put, List.setIfInBounds_toArray, List.set_cons_zero, List.set_cons_succ]
        refine wpAnyH_take (i := 6) (oi := ⟨some 27, _, _, _, _, _⟩) (v := ?_) rfl (by kernel_rfl) (by kernel_rfl) (by kernel_rfl) (fun _ _ _ h => h) (Or.inl ⟨by rfl, ?_⟩) hHeld ?_
        rotate_left
        · intro w' hSw
          go_simp
          first | done | rfl
        try simp only [Act.put, List.setIfInBounds_toArray, List.set_cons_zero, List.set_cons_succ]
        refine wpAnyH_ready (rs := [8]) (by kernel_rfl) (by simp) ?_
        refine (AllReadyH.cons (o := ⟨none, _, _, _, _, _⟩) rfl (fun K hK => ?_) AllReadyH.nil)
        refine stepH_store rfl 72 _ _ rfl [ptr p0, ptr p1] rfl rfl HB.out rfl (by kernel_rfl) (by intro u hu; simp at hu; rcases hu with rfl | rfl <;> rfl) ?_
        have HNT := Lib.hid (newTwo_mk HO0.out HO1.out HSEP.out HB.out HGE.out hHeld)
        refine hK.out _ _ (hHeld.setRow (.inr HGE.out) _) (fun hHeld => ?_)
        clear hK K
        try simp only [Act.put, List.setIfInBounds_toArray, List.set_cons_zero, List.set_cons_succ]
        refine wpAnyH_done (by kernel_rfl) ?_ _
        go_wp2_with fail
        go_meet
        exact ⟨_, p0, q0, v0, p1, q1, v1, rfl, HNT⟩
    · go_simp
      have HB : Hid (Blk (w2.alloc (.cells #[.pointer none, .pointer none] 72)).drew w2.heap.size 72 [.pointer none, .pointer none]) := Lib.hid (((Keeps.refl (fun _ => False) _).drew).blk (Blk.new w2 72 [.pointer none, .pointer none]) (fun h => h))
      have HGE : Hid (w2.heap.size ≤ w2.heap.size) := Lib.hid (Nat.le_refl _)
      refine hK.out _ _ (((Keeps.refl (fun _ => False) w2).alloc (.cells #[.pointer none, .pointer none] 72)).drew) (fun hHeld => ?_)
      clear hK K
      try simp only [Act.put, List.setIfInBounds_toArray, List.set_cons_zero, List.set_cons_succ]
      refine wpAnyH_ready (rs := [2]) (by kernel_rfl) (by simp) ?_
      refine (AllReadyH.cons (o := ⟨some 23, _, _, _, _, _⟩) rfl (fun K hK => ?_) AllReadyH.nil)
      go_simp
      refine (HN0.out _ hHeld).mono ?_
      rintro e wA ⟨p0, q0, v0, rfl, ho0⟩
      have hqA := hHeld.trans ho0.own.2.1 (fun _ _ h => h)
      have HO0 := Lib.hid (ho0.older hHeld)
      have HL0 : Hid (∀ x, MFoot p0 q0 v0 x → w2.heap.size ≤ x) := Lib.hid (fun x hx => HO0.out.foot_low x hx)
      have HB := Lib.hid (ho0.own.2.1.blk HB.out (fun h => h))
      clear ho0
      refine hK.out _ _ hqA (fun hHeld => ?_)
      clear hK K
      try simp only [Act.put, List.setIfInBounds_toArray, List.set_cons_zero, List.set_cons_succ]
      refine wpAnyH_ready (rs := [5]) (by kernel_rfl) (by simp) ?_
      refine (AllReadyH.cons (o := ⟨some 26, _, _, _, _, _⟩) rfl (fun K hK => ?_) AllReadyH.nil)
      go_simp
      refine (HN1.out _ hHeld).mono ?_
      rintro e wB ⟨p1, q1, v1, rfl, ho1⟩
      have hqB := hHeld.trans ho1.own.2.1 (fun _ _ h => h)
      have HO1 := Lib.hid (ho1.older hHeld)
      have HSEP : Hid (∀ x, MFoot p0 q0 v0 x → ¬ MFoot p1 q1 v1 x) := Lib.hid (fun x hx hy => by have h1 := HO0.out.foot_lt x hx; have h2 := ho1.foot_low x hy; omega)
      have HO0 := Lib.hid (HO0.out.keep ho1.own.2.1)
      have HB := Lib.hid (ho1.own.2.1.blk HB.out (fun h => h))
      clear ho1
      refine hK.out _ _ hqB (fun hHeld => ?_)
      clear hK K
      try simp only [Act.put, List.setIfInBounds_toArray, List.set_cons_zero, List.set_cons_succ]
      refine wpAnyH_take (i := 6) (oi := ⟨some 27, _, _, _, _, _⟩) (v := ?_) rfl (by kernel_rfl) (by kernel_rfl) (by kernel_rfl) (fun _ _ _ h => h) (Or.inl ⟨by rfl, ?_⟩) hHeld ?_
      rotate_left
      · intro w' hSw
        go_simp
        first | done | rfl
      try simp only [Act.put, List.setIfInBounds_toArray, List.set_cons_zero, List.set_cons_succ]
      refine wpAnyH_ready (rs := [8]) (by kernel_rfl) (by simp) ?_
      refine (AllReadyH.cons (o := ⟨none, _, _, _, _, _⟩) rfl (fun K hK => ?_) AllReadyH.nil)
      refine stepH_store rfl 72 _ _ rfl [ptr p0, ptr p1] rfl rfl HB.out rfl (by kernel_rfl) (by intro u hu; simp at hu; rcases hu with rfl | rfl <;> rfl) ?_
      have HNT := Lib.hid (newTwo_mk HO0.out HO1.out HSEP.out HB.out HGE.out hHeld)
      refine hK.out _ _ (hHeld.setRow (.inr HGE.out) _) (fun hHeld => ?_)
      clear hK K
      try simp only [Act.put, List.setIfInBounds_toArray, List.set_cons_zero, List.set_cons_succ]
      refine wpAnyH_done (by kernel_rfl) ?_ _
      go_wp2_with fail
      go_meet
      exact ⟨_, p0, q0, v0, p1, q1, v1, rfl, HNT⟩
  case rest =>
    obtain ⟨gm, p0, q0, v0, p1, q1, v1, rfl, HNT⟩ := hcut
    clear HN0 HN1
    have hw2 : Keeps (fun _ => False) w w2 := (HX1.out.2.1.trans HX2.out.2.1 (fun _ _ h => h)).trans HKL.out (fun _ _ h => h)
    have hg1 : w.heap.size ≤ g1 ∧ g1 < w1.heap.size := ⟨HX1.out.2.2 g1 rfl, (HX1.out.1.lt g1 rfl).2⟩
    have hg2 : w1.heap.size ≤ g2 ∧ g2 < wl.heap.size := ⟨HX2.out.2.2 g2 rfl, (HX2.out.1.lt g2 rfl).2⟩
    have hsz : w.heap.size ≤ w1.heap.size ∧ w1.heap.size ≤ wl.heap.size ∧ wl.heap.size ≤ w2.heap.size := ⟨HX1.out.2.1.size, HX2.out.2.1.size, HKL.out.size⟩
    have hbk : Blk wc wl.heap.size 71 [.slice (some ⟨g1, 0, none⟩) n c1, .slice (some ⟨g2, 0, none⟩) m c2] := HNT.out.2.2.2.2.2.blk HK2.out (fun h => h)
    have hkc : Keeps (fun _ => False) wl wc := HKL.out.trans HNT.out.2.2.2.2.2 (fun _ _ h => h)
    have ho1 := own_short (((HX1.out.keep HX2.out.2.1).keep hkc).1) (k := n) (by omega)
    have ho2 := own_short ((HX2.out.keep hkc).1) (k := m) (by omega)
    have HKE := Lib.hid (HNW.out wc hkc).2.2
    have HSP1 := Lib.hid (spoil_any wc (some ⟨g1, 0, none⟩) n c1 _ 17 ho1 hm)
    have HSP2 : Hid (∀ W, Keeps (fun x => x = g1) wc W → Blk W wl.heap.size 71 [.slice (some ⟨g1, 0, none⟩) n c1, .slice (some ⟨g2, 0, none⟩) m c2] ∧ Calls Tryd.prog 39 #[.slice (some ⟨g2, 0, none⟩) m c2, .int .u8 34] W fun e w' => e = .returned (.tuple #[]) ∧ Keeps (fun x => x = g2) W w') := Lib.hid fun W hk =>
      ⟨hk.blk hbk (fun e => by have e' : wl.heap.size = g1 := e; omega), (spoil_any W (some ⟨g2, 0, none⟩) m c2 _ 34 (hk.own ho2 (fun g e e2 => by have e1 : some g2 = some g := e; injection e1 with e1; have e3 : g = g1 := e2; omega)) hm').mono fun e w' ⟨h1, h2⟩ => ⟨h1, h2.mono fun i _ hi => by have e1 : some g2 = some i := hi; injection e1 with e1; exact e1.symm⟩⟩
    have HMS : Hid (∀ w5 w6, Keeps (fun x => x = g1) wc w5 → Keeps (fun x => x = g2) w5 w6 → _) := Lib.hid fun w5 w6 k5 k6 => macs_start hw2 HNT.out ⟨hg1.1, by omega⟩ ⟨by omega, by omega⟩ k5 k6 ⟨A, n, c, rfl, hn, hx, bx, hm, no_out _ _⟩ ⟨B, m, d, rfl, hn', hy, by', hm', no_out _ _⟩
    have k0 := hbk.cell 0
    have k1 := hbk.cell 1
    have m0 := HNT.out.2.2.2.1.cell 0
    have m1 := HNT.out.2.2.2.1.cell 1
    clear hbk hkc ho1 ho2 hw2 hg1 hg2 hsz hx hy bx by' hn hn' HNW HNT
    go_wp2_with (first
      | (go_at_call 15; (with_reducible refine HKE.out.1.mono ?_); rintro e w3 ⟨rfl, rfl⟩)
      | (go_at_call 15; (with_reducible refine HKE.out.2.mono ?_); rintro e w3 ⟨rfl, rfl⟩)
      | (go_at_call 39; (with_reducible refine HSP1.out.mono ?_); rintro e w5 ⟨rfl, hk5⟩; have HK5 : Hid (Keeps (fun x => x = g1) wc w5) := Lib.hid (hk5.mono fun i _ hi => by have e1 : some g1 = some i := hi; injection e1 with e1; exact e1.symm); clear hk5 k0 k1 m0 m1; obtain ⟨hb5, hs5⟩ := HSP2.out w5 HK5.out; have k0 := hb5.cell 0; have k1 := hb5.cell 1; have HS5 := Lib.hid hs5; clear hb5 hs5)
      | (go_at_call 39; (with_reducible refine HS5.out.mono ?_); rintro e w6 ⟨rfl, hk6⟩; have HST := Lib.hid (HMS.out w5 w6 HK5.out hk6); clear hk6 k0 k1 HMS HSP1 HSP2 HS5 HKE))
    go_loopw [12, 13, 14, 61] (fun _ _ _ i wr => ∃ (k : Nat) (p q : Nat → Nat) (v : Nat → Value) (km mm : Nat → List Int) (sv lv : Nat → Value), k ≤ N ∧ i = .int .i64 k ∧ Hid (Macs (fun _ => False) w wr gm w6.heap.size (w6.heap.size + 1) p q v km mm km mm sv lv) ∧ Hid (∀ i, i < 2 → (mm i).length ≤ totF ops k)) (fun _ _ _ i _ => N - (intOf i).toNat)
    case atStart => exact ⟨0, _, _, _, _, _, _, _, by omega, rfl, HST, Lib.hid (fun i hi => by rcases (show i = 0 ∨ i = 1 by omega) with rfl | rfl <;> exact Nat.zero_le _)⟩
    case round =>
      clear HST
      obtain ⟨k, p, q, v, km, mm, sv, lv, hk, rfl, HM, HT⟩ := hrel
      by_cases hlt : k < N
      · obtain ⟨g, o, kd, wh, A', nb, c', bs, hE, hc0, hc1, hc2, hbs, hop, hbb, hbc, hbm⟩ := HSC.out wr k HM.out.keep hlt
        subst hE
        have HOP := Lib.hid hop
        have HBS := Lib.hid hbs
        have HBB := Lib.hid hbb
        have hcase : (wh ≠ 0 ∧ wh ≠ 1) ∨ ∃ i j : Nat, i < 2 ∧ j < 2 ∧ i ≠ j ∧ ((wh = 0 ∧ i = 0 ∧ j = 1) ∨ (wh = 1 ∧ i = 1 ∧ j = 0)) := by
          by_cases h0 : wh = 0
          · exact .inr ⟨0, 1, by omega, by omega, by omega, .inl ⟨h0, rfl, rfl⟩⟩
          · by_cases h1 : wh = 1
            · exact .inr ⟨1, 0, by omega, by omega, by omega, .inr ⟨h1, rfl, rfl⟩⟩
            · exact .inl ⟨h0, h1⟩
        clear hop hbs hbb
        rcases hcase with ⟨hw0, hw1⟩ | ⟨i, j, hi, hj, hij, hwho⟩
        · have b0 : (wh != 0) = true := by simpa using hw0
          have b1 : (wh != 1) = true := by simpa using hw1
          go_wp2_with (go_at_call 40; refine (none_any _ _ _ _).mono ?_; rintro e x1 ⟨rfl, hk1⟩; have HMN := Lib.hid (HM.out.read (((Keeps.refl (fun _ => False) _).alloc _).trans hk1 (fun _ _ h => h))); clear hk1)
          go_roundw
          case rel => exact ⟨k + 1, p, q, v, km, mm, sv, lv, by omega, by go_num, HMN, Lib.hid (fun i hi => Nat.le_trans (HT.out i hi) (HTS.out k hlt))⟩
          case measure => simp [intOf]; omega
        · have HI := Lib.hid hi
          have HJ := Lib.hid hj
          have HIJ := Lib.hid hij
          obtain ⟨LA, ln, lc, hlv, hll, hlr, hlb, hlm, _⟩ := HM.out.all i hi
          obtain ⟨SA, sn, sc, hsv, hsl, hsr, hsb, hsm, _⟩ := HM.out.of i hi
          have HSV := Lib.hid hsv
          have HLV := Lib.hid hlv
          have HLL := Lib.hid hll
          have hln : ln ≤ 1048576 := by have h1 := HT.out i hi; have h2 := HTB.out k; omega
          have hlnb : ln + nb ≤ totF ops (k + 1) := by have h1 := HT.out i hi; have h2 := HOP.out.2; omega
          have hlnb2 : ln + nb ≤ 1048576 := by have h2 := HTB.out (k + 1); omega
          have HLN := Lib.hid hlnb
          have hG := HGW.out
          have HSU : Hid (∀ W, Keeps (fun _ => False) wr W → Calls Tryd.prog 34 #[ptr (p i)] W fun e w' => e = .returned (.agg (vb (macF (km i) (mm i))).toArray) ∧ Keeps (fun _ => False) W w') := Lib.hid fun W hk => msum_any w hG W _ _ _ _ _ ((HM.out.read hk).mac i hi) hsb (by omega)
          have HRS : Hid (∀ W, Keeps (fun _ => False) wr W → Calls Tryd.prog 30 #[.slice SA sn sc, .slice LA ln lc] W fun e w' => e = .returned (.agg (vb (macF (km i) (mm i))).toArray) ∧ Keeps (fun _ => False) W w') := Lib.hid fun W hk => rmac_any W SA LA sn sc ln lc _ _ hsl (hsr.keep (HM.out.keep.trans hk (fun _ _ h => h)) (no_out _ _)) hsb hsm hll (hlr.keep hk (no_out _ _)) hlb (by omega)
          have HLN2 : Hid (∀ W, Keeps (fun _ => False) wr W → Calls Tryd.prog 35 #[ptr (p i)] W fun e w' => e = .returned (.int .i64 ln) ∧ Keeps (fun _ => False) W w') := Lib.hid fun W hk => by
            have := mlen_any w W _ _ _ _ _ ((HM.out.read hk).mac i hi)
            rw [hll] at this
            exact this.mono fun e w' ⟨a, b⟩ => ⟨a, by rw [b]; exact Keeps.refl _ _⟩
          have HLE : Hid (∀ W, Keeps (fun _ => False) wr W → Calls Tryd.prog 12 #[.slice A' nb c'] W fun e w' => ∃ g cap, e = .returned (.slice (some ⟨g, 0, none⟩) nb cap) ∧ Lent W w' g nb cap bs) := Lib.hid fun W hk => lent_any W A' nb c' bs HBS.out (HOP.out.1.keep (HM.out.keep.trans hk (fun _ _ h => h)) (no_out _ _)) hbm
          have HWR : Hid (∀ W w1 gg cap, Keeps (fun _ => False) wr W → Lent W w1 gg nb cap bs → Calls Tryd.prog 33 #[ptr (p i), .slice (some ⟨gg, 0, none⟩) nb cap] w1 fun e w' => e = .returned .nilIface ∧ ∃ v', Macs (fun x => x = gg) w w' gm w6.heap.size (w6.heap.size + 1) p (up q i (q i)) (up v i v') km (up mm i (mm i ++ bs)) km mm sv lv ∧ Lent w w' gg nb cap bs ∧ Keeps (MFoot (p i) (q i) (v i)) w1 w') := Lib.hid fun W w1 gg cap hk hl => by
            have hcap := hl.cap
            have hgg := hl.2.2 gg rfl
            have hgl := (hl.1.lt gg rfl).2
            have hwr := hk.size
            have hM1 := HM.out.widen (hk.trans hl.2.1 (fun _ _ h => h)) (g := gg) ⟨by omega, hgl⟩
            refine (mwrite_any w hG w1 _ _ _ _ _ (hM1.mac i hi) _ nb cap bs HBS.out (hl.rd HBS.out) (fun _ ad e hf => ?_) HBB.out (by omega) hbm (by omega)).mono fun e w' ⟨he, v', ho, hkw, hv⟩ => ⟨he, v', hM1.turn hi ho hkw (fun x hx => foot_new hv x hx), ?_, hkw⟩
            · injection e with e
              subst e
              have := (HM.out.mac i hi).foot_lt _ (.inr hf)
              have h3 : W.heap.size ≤ gg := hgg
              simp only at this
              omega
            · refine ⟨hkw.own hl.1 (fun x hx hf => ?_), (hM1.keep).trans hkw (fun x hx hf => ?_), fun x hx => ?_⟩
              · have e1 : some gg = some x := hx
                injection e1 with e1
                subst e1
                have := (HM.out.mac i hi).foot_lt _ hf
                omega
              · have := (HM.out.mac i hi).foot_low x hf
                omega
              · have := hl.2.2 x hx
                have := HM.out.keep.size
                omega
          have HKE : Hid (∀ W gg cap, Lent w W gg nb cap bs → Calls Tryd.prog 15 #[.slice (some ⟨gg, 0, none⟩) nb cap, .slice A' nb c'] W fun e w' => e = .returned (.bool true) ∧ W = w') := Lib.hid fun W gg cap hl => (kept_any W w gg nb cap A' c' bs HBS.out hl (HOP.out.1.keep hl.2.1 (no_out _ _)) hbm).mono fun e w' h => ⟨h.1, h.2.symm⟩
          have HSP : Hid (∀ W gg cap, Lent w W gg nb cap bs → Calls Tryd.prog 39 #[.slice (some ⟨gg, 0, none⟩) nb cap, .int .u8 51] W fun e w' => e = .returned (.tuple #[]) ∧ Keeps (fun x => x = gg) W w') := Lib.hid fun W gg cap hl => (spoil_any W (some ⟨gg, 0, none⟩) nb cap _ 51 (own_short hl.1 (k := nb) (by omega)) hbm).mono fun e w' ⟨h1, h2⟩ => ⟨h1, h2.mono fun i _ hi => by have e1 : some gg = some i := hi; injection e1 with e1; exact e1.symm⟩
          have HRT : Hid (∀ W, Keeps (fun _ => False) wr W → Calls Tryd.prog 36 #[ptr (p i)] W fun e w' => e = .returned .nilIface ∧ ∃ q2 v2, Macs (fun _ => False) w w' gm w6.heap.size (w6.heap.size + 1) p (up q i q2) (up v i v2) km (up mm i []) km mm sv lv) := Lib.hid fun W hk =>
            (mreset_any w hG W _ _ _ _ _ ((HM.out.read hk).mac i hi) hsb).mono fun e w' ⟨q2, v2, he, ho, hkw, hf⟩ => ⟨he, q2, v2, (HM.out.read hk).turn hi ho (hkw.mono fun x _ hx => .inl hx) (fun x hx => hx.elim (fun h => .inl (.inl h)) (fun h => .inr (hf x h)))⟩
          have HCP : Hid (∀ W, Keeps (fun _ => False) wr W → Calls Tryd.prog 32 #[ptr (p i)] W fun e w' => ∃ p2 q2 v2, e = .returned (ptr p2) ∧ OMac W w' p2 q2 v2 (km i) (mm i)) := Lib.hid fun W hk => mcopy_any w W _ _ _ _ _ ((HM.out.read hk).mac i hi)
          have heq : ∀ W, (binOp .neq 41 (.agg (vb (macF (km i) (mm i))).toArray) (.agg (vb (macF (km i) (mm i))).toArray)).run Tryd.prog W = .ok (.bool false) W := fun W => neq_eql (dig_self _ (macF_length _ _) W)
          obtain ⟨MS, hMS⟩ : ∃ MS, MS = vb (macF (km i) (mm i)) := ⟨_, rfl⟩
          rw [← hMS] at HSU HRS
          simp only [← hMS] at heq
          have HNE := Lib.hid heq
          have HRD : Hid (IsBytes (mm i ++ bs)) := Lib.hid fun x hx => (List.mem_append.1 hx).elim (hlb x) (HBB.out x)
          clear hMS heq hsv hlv hll hlr hlb hlm hsl hsr hsb hsm hG hi hj hij hlnb
          rcases hwho with ⟨rfl, rfl, rfl⟩ | ⟨rfl, rfl, rfl⟩
          · go_upto_region 17 with fail
            refine gen_code (fun W => Keeps (fun _ => False) wr W ∧ Blk W wr.heap.size 74 [.int .i64 kd, .int .i64 _, .slice A' nb c']) ⟨(Keeps.refl _ _).alloc _, Blk.new wr 74 [.int .i64 kd, .int .i64 _, .slice A' nb c']⟩ ?_
            rintro wa ⟨hka, hba⟩
            have HKA := Lib.hid hka
            have HBA := Lib.hid hba
            have HMA := Lib.hid (HM.out.read hka)
            have hob := hba.cell 2
            have hcm := (HMA.out.cm HI.out).1
            clear hka hba hc0 hc1 hc2
            have hkd : kd = 0 ∨ kd = 1 ∨ kd = 2 ∨ kd = 3 ∨ kd = 4 ∨ (kd ≠ 0 ∧ kd ≠ 1 ∧ kd ≠ 2 ∧ kd ≠ 3 ∧ kd ≠ 4) := by omega
            rcases hkd with rfl | rfl | rfl | rfl | rfl | ⟨z0, z1, z2, z3, z4⟩
            · go_wp2_with (first
                | (go_at_call 12; refine (HLE.out wa HKA.out).mono ?_; rintro e w1 ⟨gg, cap, rfl, hl1⟩; have HL1 := Lib.hid hl1; have hm1 := (HMA.out.read hl1.2.1); clear hcm hob; have hcm := (hm1.cm HI.out).1; have HB1 := Lib.hid (hl1.2.1.blk HBA.out (fun h => h)); clear hl1 hm1)
                | (go_at_call 33; refine (HWR.out wa w1 gg cap HKA.out HL1.out).mono ?_; rintro e w2 ⟨rfl, v', hm2, hl2, hk2⟩; have HM2 := Lib.hid hm2; have HL2 := Lib.hid hl2; have HB2 := Lib.hid (hk2.blk HB1.out (fun hf => by have := (HM.out.mac _ HI.out).foot_lt _ hf; omega)); have hob := HB2.out.cell 2; clear hm2 hl2 hk2 hcm)
                | (go_at_call 15; refine (HKE.out w2 gg cap HL2.out).mono ?_; rintro e w3 ⟨rfl, rfl⟩)
                | (go_at_call 39; refine (HSP.out w2 gg cap HL2.out).mono ?_; rintro e w3 ⟨rfl, hk3⟩; have HM3 := Lib.hid ((HM2.out.away hk3).drop); have HB3 := Lib.hid (hk3.blk HB2.out (fun e => by have h1 := HL1.out.2.2 gg rfl; have h2 := HBA.out.lt; have e' : wr.heap.size = gg := e; omega)); clear hk3 hob))
              have HLR := Lib.hid (fun W (hk : Keeps (fun _ => False) w3 W) => ((HM3.out.all _ HI.out).rd HLV.out).1.keep hk (no_out _ _))
              have HBR := Lib.hid (fun W (hk : Keeps (fun _ => False) w3 W) => HOP.out.1.keep (HM3.out.keep.trans hk (fun _ _ h => h)) (no_out _ _))
              refine wp_region_last (S := Keeps (fun _ => False) w3) 10 (by kernel_rfl) ((Keeps.refl (fun _ => False) _).drew) (fun hHeld => ?_)
              refine wpAnyZ_take (i := 0) (oi := ⟨some 100, _, _, _, _, _⟩) (v := ?_) rfl (by kernel_rfl) (by kernel_rfl) (by kernel_rfl) (by kernel_rfl) (fun _ _ _ h => h) (Or.inl ⟨by rfl, ?_⟩) hHeld ?_
              rotate_left
              · intro w' hSw
                go_simp
                first | done | rfl
              try simp only [Act.put, List.setIfInBounds_toArray, List.set_cons_zero, List.set_cons_succ]
              refine wpAnyZ_take (i := 2) (oi := ⟨some 102, _, _, _, _, _⟩) (v := ?_) rfl (by kernel_rfl) (by kernel_rfl) (by kernel_rfl) (by kernel_rfl) (fun _ _ _ h => h) (Or.inl ⟨by rfl, ?_⟩) hHeld ?_
              rotate_left
              · intro w' hSw
                go_simp
                first | done | rfl
              try simp only [Act.put, List.setIfInBounds_toArray, List.set_cons_zero, List.set_cons_succ]
              refine wpAnyZ_take (i := 3) (oi := ⟨some 103, _, _, _, _, _⟩) (v := ?_) rfl (by kernel_rfl) (by kernel_rfl) (by kernel_rfl) (by kernel_rfl) (fun _ _ _ h => h) (Or.inl ⟨by rfl, ?_⟩) hHeld ?_
              rotate_left
              · intro w' hSw
                go_simp
                first | done | rfl
              try simp only [Act.put, List.setIfInBounds_toArray, List.set_cons_zero, List.set_cons_succ]
              refine wpAnyZ_take (i := 4) (oi := ⟨some 104, _, _, _, _, _⟩) (v := ?_) rfl (by kernel_rfl) (by kernel_rfl) (by kernel_rfl) (by kernel_rfl) (fun _ _ _ h => h) (Or.inl ⟨by rfl, ?_⟩) hHeld ?_
              rotate_left
              · intro w' hSw
                have hc := ((HM3.out.read hSw).cl HI.out).1
                rw [HLV.out] at hc
                go_simp
                first | done | rfl
              try simp only [Act.put, List.setIfInBounds_toArray, List.set_cons_zero, List.set_cons_succ]
              refine wpAnyZ_take (i := 6) (oi := ⟨some 106, _, _, _, _, _⟩) (v := ?_) rfl (by kernel_rfl) (by kernel_rfl) (by kernel_rfl) (by kernel_rfl) (fun _ _ _ h => h) (Or.inl ⟨by rfl, ?_⟩) hHeld ?_
              rotate_left
              · intro w' hSw
                go_simp
                first | done | rfl
              try simp only [Act.put, List.setIfInBounds_toArray, List.set_cons_zero, List.set_cons_succ]
              refine wpAnyZ_take (i := 7) (oi := ⟨some 107, _, _, _, _, _⟩) (v := ?_) rfl (by kernel_rfl) (by kernel_rfl) (by kernel_rfl) (by kernel_rfl) (fun _ _ _ h => h) (Or.inl ⟨by rfl, ?_⟩) hHeld ?_
              rotate_left
              · intro w' hSw
                have hc := (hSw.blk HB3.out (fun h => h)).cell 2
                go_simp
                first | done | rfl
              try simp only [Act.put, List.setIfInBounds_toArray, List.set_cons_zero, List.set_cons_succ]
              refine wpAnyZ_step (i := 1) (o := ⟨some 101, _, _, _, _, _⟩) (by kernel_rfl) rfl (fun K hK => ?_)
              go_simp
              have HO0 : Hid ((w3.alloc (.cells #[] 5)).drew.ownsRow 0 5 1 (.slice (some ⟨w3.heap.size, 0, none⟩) 0 0) 0 []) := Lib.hid (((Keeps.refl (fun _ => False) _).drew).own (World.ownsRow_made (base := 0) (e := 5) (size := 1) w3 #[] 0 (by omega) (by unfold maxLen; omega) rfl) (fun _ _ h => h))
              have HL0 := Lib.hid (HLR.out _ (((Keeps.refl (fun _ => False) w3).alloc (.cells #[] 5)).drew))
              refine hK.out _ _ (((Keeps.refl (fun _ => False) w3).alloc _).drew) (fun hHeld => ?_)
              clear hK K
              try simp only [Act.put, List.setIfInBounds_toArray, List.set_cons_zero, List.set_cons_succ]
              refine wpAnyZ_step (i := 5) (o := ⟨some 105, _, _, _, _, _⟩) (by kernel_rfl) rfl (fun K hK => ?_)
              refine step_append_rd rfl _ _ 22 rfl 5 (.int .u8 0) 1 Tryd.underlying22 info5 rfl (some ⟨w3.heap.size, 0, none⟩) 0 0 [] rfl HO0.out LA ln lc _ rfl HL0.out (vb_one _) (by unfold maxLen; omega) (by omega) ?_
              intro A5 c5 w5' hown5 hsp5
              simp only [Nat.zero_add, List.nil_append] at hown5 ⊢
              have HM5 := Lib.hid (mine_first hown5 hsp5)
              have HB5 := Lib.hid (HBR.out _ HM5.out.2.1)
              clear hown5 hsp5
              refine hK.out _ _ HM5.out.2.1 (fun hHeld => ?_)
              clear hK K
              try simp only [Act.put, List.setIfInBounds_toArray, List.set_cons_zero, List.set_cons_succ]
              refine wpAnyZ_step (i := 8) (o := ⟨some 108, _, _, _, _, _⟩) (by kernel_rfl) rfl (fun K hK => ?_)
              refine step_append_rd rfl _ _ 22 rfl 5 (.int .u8 0) 1 Tryd.underlying22 info5 rfl A5 ln c5 _ rfl HM5.out.1 A' nb c' _ rfl HB5.out (vb_one _) (by unfold maxLen; omega) (by omega) ?_
              intro A8 c8 w8' hown8 hsp8
              have HM8 := Lib.hid (HM5.out.app0 hown8 hsp8.grown hsp8.block)
              clear hown8 hsp8
              obtain ⟨hst1, hst2⟩ := ((HM3.out.read HM8.out.2.1).cl HI.out)
              rw [HLV.out] at hst1
              refine hK.out _ _ HM8.out.2.1 (fun hHeld => ?_)
              clear hK K
              try simp only [Act.put, List.setIfInBounds_toArray, List.set_cons_zero, List.set_cons_succ]
              refine wpAnyZ_take (i := 9) (oi := ⟨some 109, _, _, _, _, _⟩) (v := ?_) rfl (by kernel_rfl) (by kernel_rfl) (by kernel_rfl) (by kernel_rfl) (fun _ _ _ h => h) (Or.inl ⟨by rfl, ?_⟩) hHeld ?_
              rotate_left
              · intro w' hSw
                go_simp
                first | done | rfl
              try simp only [Act.put, List.setIfInBounds_toArray, List.set_cons_zero, List.set_cons_succ]
              refine wpAnyZ_last (o := ⟨none, _, _, _, _, _⟩) (by kernel_rfl) (by kernel_rfl) rfl (fun K hK => ?_)
              go_simp
              refine hK.out _ _ ?_
              clear hK K
              try simp only [Act.put, List.setIfInBounds_toArray, List.set_cons_zero, List.set_cons_succ]
              have hm8 := HM8.out
              rw [vb_app] at hm8
              have HMN := Lib.hid ((HM3.out.read hm8.2.1).setAll HI.out (reads_new HM3.out hm8 (by rw [List.length_append, HLL.out, HBS.out]) HRD.out (by omega)))
              clear hm8 hst1 hst2
              go_wp2
              go_roundw
              case rel => exact ⟨k + 1, _, _, _, _, _, _, _, by omega, by go_num, HMN, Lib.hid (len_up HT.out (HTS.out k hlt) (by rw [List.length_append, HLL.out, HBS.out]; exact HLN.out))⟩
              case measure => simp [intOf]; omega
            · clear hob
              have hne := HNE.out
              go_wp2
              refine wp_region_held_drew (S := Keeps (fun _ => False) wa) (by kernel_rfl) ((Keeps.refl (fun _ => False) _).drew) (fun hHeld => ?_)
              refine wpAnyH_take (i := 0) (oi := ⟨some 112, _, _, _, _, _⟩) (v := ?_) rfl (by kernel_rfl) (by kernel_rfl) (by kernel_rfl) (fun _ _ _ h => h) (Or.inl ⟨by rfl, ?_⟩) hHeld ?_
              rotate_left
              · intro w' hSw
                go_simp
                first | done | rfl
              try simp only [Act.put, List.setIfInBounds_toArray, List.set_cons_zero, List.set_cons_succ]
              refine wpAnyH_take (i := 1) (oi := ⟨some 113, _, _, _, _, _⟩) (v := ?_) rfl (by kernel_rfl) (by kernel_rfl) (by kernel_rfl) (fun _ _ _ h => h) (Or.inl ⟨by rfl, ?_⟩) hHeld ?_
              rotate_left
              · intro w' hSw
                go_simp
                first | done | rfl
              try simp only [Act.put, List.setIfInBounds_toArray, List.set_cons_zero, List.set_cons_succ]
              refine wpAnyH_take (i := 2) (oi := ⟨some 114, _, _, _, _, _⟩) (v := ?_) rfl (by kernel_rfl) (by kernel_rfl) (by kernel_rfl) (fun _ _ _ h => h) (Or.inl ⟨by rfl, ?_⟩) hHeld ?_
              rotate_left
              · intro w' hSw
                have hc := ((HMA.out.read hSw).cm HI.out).1
                go_simp
                first | done | rfl
              try simp only [Act.put, List.setIfInBounds_toArray, List.set_cons_zero, List.set_cons_succ]
              refine wpAnyH_take (i := 4) (oi := ⟨some 116, _, _, _, _, _⟩) (v := ?_) rfl (by kernel_rfl) (by kernel_rfl) (by kernel_rfl) (fun _ _ _ h => h) (Or.inl ⟨by rfl, ?_⟩) hHeld ?_
              rotate_left
              · intro w' hSw
                go_simp
                first | done | rfl
              try simp only [Act.put, List.setIfInBounds_toArray, List.set_cons_zero, List.set_cons_succ]
              refine wpAnyH_take (i := 5) (oi := ⟨some 117, _, _, _, _, _⟩) (v := ?_) rfl (by kernel_rfl) (by kernel_rfl) (by kernel_rfl) (fun _ _ _ h => h) (Or.inl ⟨by rfl, ?_⟩) hHeld ?_
              rotate_left
              · intro w' hSw
                go_simp
                first | done | rfl
              try simp only [Act.put, List.setIfInBounds_toArray, List.set_cons_zero, List.set_cons_succ]
              refine wpAnyH_take (i := 6) (oi := ⟨some 118, _, _, _, _, _⟩) (v := ?_) rfl (by kernel_rfl) (by kernel_rfl) (by kernel_rfl) (fun _ _ _ h => h) (Or.inl ⟨by rfl, ?_⟩) hHeld ?_
              rotate_left
              · intro w' hSw
                have hc := ((HMA.out.read hSw).co HI.out).1
                rw [HSV.out] at hc
                go_simp
                first | done | rfl
              try simp only [Act.put, List.setIfInBounds_toArray, List.set_cons_zero, List.set_cons_succ]
              refine wpAnyH_take (i := 7) (oi := ⟨some 119, _, _, _, _, _⟩) (v := ?_) rfl (by kernel_rfl) (by kernel_rfl) (by kernel_rfl) (fun _ _ _ h => h) (Or.inl ⟨by rfl, ?_⟩) hHeld ?_
              rotate_left
              · intro w' hSw
                go_simp
                first | done | rfl
              try simp only [Act.put, List.setIfInBounds_toArray, List.set_cons_zero, List.set_cons_succ]
              refine wpAnyH_take (i := 8) (oi := ⟨some 120, _, _, _, _, _⟩) (v := ?_) rfl (by kernel_rfl) (by kernel_rfl) (by kernel_rfl) (fun _ _ _ h => h) (Or.inl ⟨by rfl, ?_⟩) hHeld ?_
              rotate_left
              · intro w' hSw
                go_simp
                first | done | rfl
              try simp only [Act.put, List.setIfInBounds_toArray, List.set_cons_zero, List.set_cons_succ]
              refine wpAnyH_take (i := 9) (oi := ⟨some 121, _, _, _, _, _⟩) (v := ?_) rfl (by kernel_rfl) (by kernel_rfl) (by kernel_rfl) (fun _ _ _ h => h) (Or.inl ⟨by rfl, ?_⟩) hHeld ?_
              rotate_left
              · intro w' hSw
                have hc := ((HMA.out.read hSw).cl HI.out).1
                rw [HLV.out] at hc
                go_simp
                first | done | rfl
              try simp only [Act.put, List.setIfInBounds_toArray, List.set_cons_zero, List.set_cons_succ]
              refine wpAnyH_ready (rs := [3]) (by kernel_rfl) (by simp) ?_
              refine AllReadyH.cons (o := ⟨some 115, _, _, _, _, _⟩) rfl (fun K hK => ?_) AllReadyH.nil
              go_simp
              refine (HSU.out _ (HKA.out.trans hHeld (fun _ _ h => h))).mono ?_
              rintro e x1 ⟨rfl, hk1⟩
              have hq1 := hHeld.trans hk1 (fun _ _ h => h)
              show K _ x1
              refine hK.out _ _ hq1 (fun hHeld => ?_)
              clear hK K
              try simp only [Act.put, List.setIfInBounds_toArray, List.set_cons_zero, List.set_cons_succ]
              refine wpAnyH_ready (rs := [10]) (by kernel_rfl) (by simp) ?_
              refine AllReadyH.cons (o := ⟨some 122, _, _, _, _, _⟩) rfl (fun K hK => ?_) AllReadyH.nil
              go_simp
              refine (HRS.out _ (HKA.out.trans hHeld (fun _ _ h => h))).mono ?_
              rintro e x2 ⟨rfl, hk2⟩
              have hq2 := hHeld.trans hk2 (fun _ _ h => h)
              show K _ x2
              refine hK.out _ _ hq2 (fun hHeld => ?_)
              clear hK K
              try simp only [Act.put, List.setIfInBounds_toArray, List.set_cons_zero, List.set_cons_succ]
              refine wpAnyH_take (i := 11) (oi := ⟨some 123, _, _, _, _, _⟩) (v := ?_) rfl (by kernel_rfl) (by kernel_rfl) (by kernel_rfl) (fun _ _ _ h => h) (Or.inl ⟨by rfl, ?_⟩) hHeld ?_
              rotate_left
              · intro w' hSw
                go_simp
                first | done | rfl
              try simp only [Act.put, List.setIfInBounds_toArray, List.set_cons_zero, List.set_cons_succ]
              refine wpAnyH_done (by kernel_rfl) ?_ _
              have HMN := Lib.hid (HMA.out.read hHeld)
              clear hHeld hq1 hq2 hne
              go_wp2
              go_roundw
              case rel => exact ⟨k + 1, _, _, _, _, _, _, _, by omega, by go_num, HMN, Lib.hid (fun i hi => Nat.le_trans (HT.out i hi) (HTS.out k hlt))⟩
              case measure => simp [intOf]; omega
            · clear hob
              go_wp2
              refine wp_region_held_drew (S := Keeps (fun _ => False) wa) (by kernel_rfl) ((Keeps.refl (fun _ => False) _).drew) (fun hHeld => ?_)
              refine wpAnyH_take (i := 0) (oi := ⟨some 126, _, _, _, _, _⟩) (v := ?_) rfl (by kernel_rfl) (by kernel_rfl) (by kernel_rfl) (fun _ _ _ h => h) (Or.inl ⟨by rfl, ?_⟩) hHeld ?_
              rotate_left
              · intro w' hSw
                go_simp
                first | done | rfl
              try simp only [Act.put, List.setIfInBounds_toArray, List.set_cons_zero, List.set_cons_succ]
              refine wpAnyH_take (i := 1) (oi := ⟨some 127, _, _, _, _, _⟩) (v := ?_) rfl (by kernel_rfl) (by kernel_rfl) (by kernel_rfl) (fun _ _ _ h => h) (Or.inl ⟨by rfl, ?_⟩) hHeld ?_
              rotate_left
              · intro w' hSw
                go_simp
                first | done | rfl
              try simp only [Act.put, List.setIfInBounds_toArray, List.set_cons_zero, List.set_cons_succ]
              refine wpAnyH_take (i := 2) (oi := ⟨some 128, _, _, _, _, _⟩) (v := ?_) rfl (by kernel_rfl) (by kernel_rfl) (by kernel_rfl) (fun _ _ _ h => h) (Or.inl ⟨by rfl, ?_⟩) hHeld ?_
              rotate_left
              · intro w' hSw
                have hc := ((HMA.out.read hSw).cm HI.out).1
                go_simp
                first | done | rfl
              try simp only [Act.put, List.setIfInBounds_toArray, List.set_cons_zero, List.set_cons_succ]
              refine wpAnyH_take (i := 4) (oi := ⟨some 130, _, _, _, _, _⟩) (v := ?_) rfl (by kernel_rfl) (by kernel_rfl) (by kernel_rfl) (fun _ _ _ h => h) (Or.inl ⟨by rfl, ?_⟩) hHeld ?_
              rotate_left
              · intro w' hSw
                go_simp
                first | done | rfl
              try simp only [Act.put, List.setIfInBounds_toArray, List.set_cons_zero, List.set_cons_succ]
              refine wpAnyH_take (i := 5) (oi := ⟨some 131, _, _, _, _, _⟩) (v := ?_) rfl (by kernel_rfl) (by kernel_rfl) (by kernel_rfl) (fun _ _ _ h => h) (Or.inl ⟨by rfl, ?_⟩) hHeld ?_
              rotate_left
              · intro w' hSw
                go_simp
                first | done | rfl
              try simp only [Act.put, List.setIfInBounds_toArray, List.set_cons_zero, List.set_cons_succ]
              refine wpAnyH_take (i := 6) (oi := ⟨some 132, _, _, _, _, _⟩) (v := ?_) rfl (by kernel_rfl) (by kernel_rfl) (by kernel_rfl) (fun _ _ _ h => h) (Or.inl ⟨by rfl, ?_⟩) hHeld ?_
              rotate_left
              · intro w' hSw
                have hc := ((HMA.out.read hSw).cl HI.out).1
                rw [HLV.out] at hc
                go_simp
                first | done | rfl
              try simp only [Act.put, List.setIfInBounds_toArray, List.set_cons_zero, List.set_cons_succ]
              refine wpAnyH_take (i := 7) (oi := ⟨some 133, _, _, _, _, _⟩) (v := ?_) rfl (by kernel_rfl) (by kernel_rfl) (by kernel_rfl) (fun _ _ _ h => h) (Or.inl ⟨by rfl, ?_⟩) hHeld ?_
              rotate_left
              · intro w' hSw
                go_simp
                first | done | rfl
              try simp only [Act.put, List.setIfInBounds_toArray, List.set_cons_zero, List.set_cons_succ]
              refine wpAnyH_ready (rs := [3]) (by kernel_rfl) (by simp) ?_
              refine AllReadyH.cons (o := ⟨some 129, _, _, _, _, _⟩) rfl (fun K hK => ?_) AllReadyH.nil
              go_simp
              refine (HLN2.out _ (HKA.out.trans hHeld (fun _ _ h => h))).mono ?_
              rintro e x1 ⟨rfl, hk1⟩
              have hq1 := hHeld.trans hk1 (fun _ _ h => h)
              show K _ x1
              refine hK.out _ _ hq1 (fun hHeld => ?_)
              clear hK K
              try simp only [Act.put, List.setIfInBounds_toArray, List.set_cons_zero, List.set_cons_succ]
              refine wpAnyH_take (i := 8) (oi := ⟨some 134, _, _, _, _, _⟩) (v := ?_) rfl (by kernel_rfl) (by kernel_rfl) (by kernel_rfl) (fun _ _ _ h => h) (Or.inl ⟨by rfl, ?_⟩) hHeld ?_
              rotate_left
              · intro w' hSw
                go_simp
                first | done | rfl
              try simp only [Act.put, List.setIfInBounds_toArray, List.set_cons_zero, List.set_cons_succ]
              refine wpAnyH_done (by kernel_rfl) ?_ _
              have HMN := Lib.hid (HMA.out.read hHeld)
              clear hHeld hq1
              go_wp2
              go_roundw
              case rel => exact ⟨k + 1, _, _, _, _, _, _, _, by omega, by go_num, HMN, Lib.hid (fun i hi => Nat.le_trans (HT.out i hi) (HTS.out k hlt))⟩
              case measure => simp [intOf]; omega
            · clear hob
              go_wp2_with (go_at_call 36; refine (HRT.out wa HKA.out).mono ?_; rintro e w2 ⟨rfl, q2, v2, hm2⟩; have HM2 := Lib.hid hm2; obtain ⟨hst1, hst2⟩ := hm2.cl HI.out; rw [HLV.out] at hst1; clear hm2 hcm)
              have HMN := Lib.hid (HM2.out.setAll HI.out (x := .slice none 0 0) (k := []) ⟨none, 0, 0, rfl, rfl, Rd.nil _ _, (fun x hx => by cases hx), by omega, (fun h => absurd h (by omega))⟩)
              clear hst1 hst2
              go_roundw
              case rel => exact ⟨k + 1, _, _, _, _, _, _, _, by omega, by go_num, HMN, Lib.hid (len_up HT.out (HTS.out k hlt) (Nat.zero_le _))⟩
              case measure => simp [intOf]; omega
            · clear hob
              go_wp2_with (go_at_call 32; refine (HCP.out wa HKA.out).mono ?_; rintro e w2 ⟨p2, q2, v2, rfl, ho2⟩; obtain ⟨hst1, hst2⟩ := (HMA.out.read ho2.own.2.1).cm HJ.out; have HC := Lib.hid (HMA.out.copied HJ.out ho2); clear ho2 hcm)
              refine gen_code (fun W => Macs _ w W gm w6.heap.size (w6.heap.size + 1) _ _ _ _ _ _ _ _ _) HC.out ?_
              rintro w4 hm4
              have ho4 := (hm4.co HI.out).1
              rw [HSV.out] at ho4
              have hl4 := (hm4.cl HI.out).1
              rw [HLV.out] at hl4
              have HO4 := Lib.hid ho4
              have HL4 := Lib.hid hl4
              have HS4 := Lib.hid (hm4.co HJ.out)
              have HS5 := Lib.hid (hm4.cl HJ.out)
              have HM4 := Lib.hid hm4
              have hwj : IntKind.i64.wrap 1 = 1 := by decide
              clear hm4 HC hst1 hst2 ho4 hl4
              refine wp_region_last (S := fun W => Keeps (fun x => x = w6.heap.size) w4 W ∧ Hid (W.cell? ⟨w6.heap.size, 0, none⟩ = w4.cell? ⟨w6.heap.size, 0, none⟩)) 13 (by kernel_rfl) ⟨(Keeps.refl _ _).drew, Lib.hid rfl⟩ (fun hHeld => ?_)
              refine wpAnyZ_take (i := 0) (oi := ⟨some 158, _, _, _, _, _⟩) (v := ?_) rfl (by kernel_rfl) (by kernel_rfl) (by kernel_rfl) (by kernel_rfl) (fun _ _ _ h => h) (Or.inl ⟨by rfl, ?_⟩) hHeld ?_
              rotate_left
              · intro w' hSw
                go_simp
                first | done | rfl
              try simp only [Act.put, List.setIfInBounds_toArray, List.set_cons_zero, List.set_cons_succ]
              refine wpAnyZ_take (i := 1) (oi := ⟨some 159, _, _, _, _, _⟩) (v := ?_) rfl (by kernel_rfl) (by kernel_rfl) (by kernel_rfl) (by kernel_rfl) (fun _ _ _ h => h) (Or.inl ⟨by rfl, ?_⟩) hHeld ?_
              rotate_left
              · intro w' hSw
                go_simp
                first | done | rfl
              try simp only [Act.put, List.setIfInBounds_toArray, List.set_cons_zero, List.set_cons_succ]
              refine wpAnyZ_take (i := 2) (oi := ⟨some 160, _, _, _, _, _⟩) (v := ?_) rfl (by kernel_rfl) (by kernel_rfl) (by kernel_rfl) (by kernel_rfl) (fun _ _ _ h => h) (Or.inl ⟨by rfl, ?_⟩) hHeld ?_
              rotate_left
              · intro w' hSw
                go_simp
                first | done | rfl
              try simp only [Act.put, List.setIfInBounds_toArray, List.set_cons_zero, List.set_cons_succ]
              refine wpAnyZ_take (i := 3) (oi := ⟨some 161, _, _, _, _, _⟩) (v := ?_) rfl (by kernel_rfl) (by kernel_rfl) (by kernel_rfl) (by kernel_rfl) (fun _ _ _ h => h) (Or.inl ⟨by rfl, ?_⟩) hHeld ?_
              rotate_left
              · intro w' hSw
                go_simp
                first | done | rfl
              try simp only [Act.put, List.setIfInBounds_toArray, List.set_cons_zero, List.set_cons_succ]
              refine wpAnyZ_take (i := 4) (oi := ⟨some 162, _, _, _, _, _⟩) (v := ?_) rfl (by kernel_rfl) (by kernel_rfl) (by kernel_rfl) (by kernel_rfl) (fun _ _ _ h => h) (Or.inl ⟨by rfl, ?_⟩) hHeld ?_
              rotate_left
              · intro w' hSw
                go_simp
                first | done | rfl
              try simp only [Act.put, List.setIfInBounds_toArray, List.set_cons_zero, List.set_cons_succ]
              refine wpAnyZ_take (i := 5) (oi := ⟨some 163, _, _, _, _, _⟩) (v := ?_) rfl (by kernel_rfl) (by kernel_rfl) (by kernel_rfl) (by kernel_rfl) (fun _ _ _ h => h) (Or.inl ⟨by rfl, ?_⟩) hHeld ?_
              rotate_left
              · intro w' hSw
                go_simp
                first | done | rfl
              try simp only [Act.put, List.setIfInBounds_toArray, List.set_cons_zero, List.set_cons_succ]
              refine wpAnyZ_take (i := 6) (oi := ⟨some 164, _, _, _, _, _⟩) (v := ?_) rfl (by kernel_rfl) (by kernel_rfl) (by kernel_rfl) (by kernel_rfl) (fun _ _ _ h => h) (Or.inl ⟨by rfl, ?_⟩) hHeld ?_
              rotate_left
              · intro w' hSw
                have hc := hSw.2.out.trans HO4.out
                go_simp
                first | done | rfl
              try simp only [Act.put, List.setIfInBounds_toArray, List.set_cons_zero, List.set_cons_succ]
              refine wpAnyZ_take (i := 7) (oi := ⟨some 165, _, _, _, _, _⟩) (v := ?_) rfl (by kernel_rfl) (by kernel_rfl) (by kernel_rfl) (by kernel_rfl) (fun _ _ _ h => h) (Or.inl ⟨by rfl, ?_⟩) hHeld ?_
              rotate_left
              · intro w' hSw
                go_simp
                first | done | rfl
              try simp only [Act.put, List.setIfInBounds_toArray, List.set_cons_zero, List.set_cons_succ]
              refine wpAnyZ_take (i := 8) (oi := ⟨some 166, _, _, _, _, _⟩) (v := ?_) rfl (by kernel_rfl) (by kernel_rfl) (by kernel_rfl) (by kernel_rfl) (fun _ _ _ h => h) (Or.inl ⟨by rfl, ?_⟩) hHeld ?_
              rotate_left
              · intro w' hSw
                go_simp
                first | done | rfl
              try simp only [Act.put, List.setIfInBounds_toArray, List.set_cons_zero, List.set_cons_succ]
              refine wpAnyZ_take (i := 9) (oi := ⟨some 167, _, _, _, _, _⟩) (v := ?_) rfl (by kernel_rfl) (by kernel_rfl) (by kernel_rfl) (by kernel_rfl) (fun _ _ _ h => h) (Or.inl ⟨by rfl, ?_⟩) hHeld ?_
              rotate_left
              · intro w' hSw
                have hc := (hSw.1.cell (p := ⟨(w6.heap.size + 1), 0, none⟩) (by have := HM4.out.bl.lt; exact this) (fun e => HM4.out.ne (by exact e.symm))).trans HL4.out
                go_simp
                first | done | rfl
              try simp only [Act.put, List.setIfInBounds_toArray, List.set_cons_zero, List.set_cons_succ]
              refine wpAnyZ_take (i := 10) (oi := ⟨some 168, _, _, _, _, _⟩) (v := ?_) rfl (by kernel_rfl) (by kernel_rfl) (by kernel_rfl) (by kernel_rfl) (fun _ _ _ h => h) (Or.inl ⟨by rfl, ?_⟩) hHeld ?_
              rotate_left
              · intro w' hSw
                go_simp
                first | done | rfl
              try simp only [Act.put, List.setIfInBounds_toArray, List.set_cons_zero, List.set_cons_succ]
              refine wpAnyZ_step (i := 11) (o := ⟨none, _, _, _, _, _⟩) (by kernel_rfl) rfl (fun K hK => ?_)
              obtain ⟨hs1, hs2⟩ := HS4.out; go_simp
              refine hK.out _ _ ⟨hHeld.1.setCell (.inl rfl) _, Lib.hid (Eq.trans (cell_set_ne _ _ 0 1 _ (by decide)) hHeld.2.out)⟩ (fun hHeld => ?_)
              clear hK K
              try simp only [Act.put, List.setIfInBounds_toArray, List.set_cons_zero, List.set_cons_succ]
              refine wpAnyZ_take (i := 12) (oi := ⟨some 169, _, _, _, _, _⟩) (v := ?_) rfl (by kernel_rfl) (by kernel_rfl) (by kernel_rfl) (by kernel_rfl) (fun _ _ _ h => h) (Or.inl ⟨by rfl, ?_⟩) hHeld ?_
              rotate_left
              · intro w' hSw
                go_simp
                first | done | rfl
              try simp only [Act.put, List.setIfInBounds_toArray, List.set_cons_zero, List.set_cons_succ]
              refine wpAnyZ_last (o := ⟨none, _, _, _, _, _⟩) (by kernel_rfl) (by kernel_rfl) rfl (fun K hK => ?_)
              obtain ⟨hs1, hs2⟩ := HS5.out; go_simp
              refine hK.out _ _ ?_
              clear hK K
              try simp only [Act.put, List.setIfInBounds_toArray, List.set_cons_zero, List.set_cons_succ]
              have hm5 := (HM4.out.read ((Keeps.refl (fun _ => False) w4).drew)).setOf HJ.out ((HM4.out.of _ HI.out).at HSV.out)
              have HMN := Lib.hid (hm5.setAll HJ.out ((hm5.all _ HI.out).at HLV.out))
              clear hm5 hwj
              go_wp2
              go_roundw
              case rel => exact ⟨k + 1, _, _, _, _, _, _, _, by omega, by go_num, HMN, Lib.hid (len_up HT.out (HTS.out k hlt) (Nat.le_trans (HT.out _ HI.out) (HTS.out k hlt)))⟩
              case measure => simp [intOf]; omega
            · have y0 : (kd == 0) = false := by simpa using z0
              have y1 : (kd == 1) = false := by simpa using z1
              have y2 : (kd == 2) = false := by simpa using z2
              have y3 : (kd == 3) = false := by simpa using z3
              have y4 : (kd == 4) = false := by simpa using z4
              go_wp2
              go_roundw
              case rel => exact ⟨k + 1, _, _, _, _, _, _, _, by omega, by go_num, HMA, Lib.hid (fun i hi => Nat.le_trans (HT.out i hi) (HTS.out k hlt))⟩
              case measure => simp [intOf]; omega
          · go_upto_region 17 with fail
            refine gen_code (fun W => Keeps (fun _ => False) wr W ∧ Blk W wr.heap.size 74 [.int .i64 kd, .int .i64 _, .slice A' nb c']) ⟨(Keeps.refl _ _).alloc _, Blk.new wr 74 [.int .i64 kd, .int .i64 _, .slice A' nb c']⟩ ?_
            rintro wa ⟨hka, hba⟩
            have HKA := Lib.hid hka
            have HBA := Lib.hid hba
            have HMA := Lib.hid (HM.out.read hka)
            have hob := hba.cell 2
            have hcm := (HMA.out.cm HI.out).1
            clear hka hba hc0 hc1 hc2
            have hkd : kd = 0 ∨ kd = 1 ∨ kd = 2 ∨ kd = 3 ∨ kd = 4 ∨ (kd ≠ 0 ∧ kd ≠ 1 ∧ kd ≠ 2 ∧ kd ≠ 3 ∧ kd ≠ 4) := by omega
            rcases hkd with rfl | rfl | rfl | rfl | rfl | ⟨z0, z1, z2, z3, z4⟩
            · go_wp2_with (first
                | (go_at_call 12; refine (HLE.out wa HKA.out).mono ?_; rintro e w1 ⟨gg, cap, rfl, hl1⟩; have HL1 := Lib.hid hl1; have hm1 := (HMA.out.read hl1.2.1); clear hcm hob; have hcm := (hm1.cm HI.out).1; have HB1 := Lib.hid (hl1.2.1.blk HBA.out (fun h => h)); clear hl1 hm1)
                | (go_at_call 33; refine (HWR.out wa w1 gg cap HKA.out HL1.out).mono ?_; rintro e w2 ⟨rfl, v', hm2, hl2, hk2⟩; have HM2 := Lib.hid hm2; have HL2 := Lib.hid hl2; have HB2 := Lib.hid (hk2.blk HB1.out (fun hf => by have := (HM.out.mac _ HI.out).foot_lt _ hf; omega)); have hob := HB2.out.cell 2; clear hm2 hl2 hk2 hcm)
                | (go_at_call 15; refine (HKE.out w2 gg cap HL2.out).mono ?_; rintro e w3 ⟨rfl, rfl⟩)
                | (go_at_call 39; refine (HSP.out w2 gg cap HL2.out).mono ?_; rintro e w3 ⟨rfl, hk3⟩; have HM3 := Lib.hid ((HM2.out.away hk3).drop); have HB3 := Lib.hid (hk3.blk HB2.out (fun e => by have h1 := HL1.out.2.2 gg rfl; have h2 := HBA.out.lt; have e' : wr.heap.size = gg := e; omega)); clear hk3 hob))
              have HLR := Lib.hid (fun W (hk : Keeps (fun _ => False) w3 W) => ((HM3.out.all _ HI.out).rd HLV.out).1.keep hk (no_out _ _))
              have HBR := Lib.hid (fun W (hk : Keeps (fun _ => False) w3 W) => HOP.out.1.keep (HM3.out.keep.trans hk (fun _ _ h => h)) (no_out _ _))
              refine wp_region_last (S := Keeps (fun _ => False) w3) 10 (by kernel_rfl) ((Keeps.refl (fun _ => False) _).drew) (fun hHeld => ?_)
              refine wpAnyZ_take (i := 0) (oi := ⟨some 100, _, _, _, _, _⟩) (v := ?_) rfl (by kernel_rfl) (by kernel_rfl) (by kernel_rfl) (by kernel_rfl) (fun _ _ _ h => h) (Or.inl ⟨by rfl, ?_⟩) hHeld ?_
              rotate_left
              · intro w' hSw
                go_simp
                first | done | rfl
              try simp only [Act.put, List.setIfInBounds_toArray, List.set_cons_zero, List.set_cons_succ]
              refine wpAnyZ_take (i := 2) (oi := ⟨some 102, _, _, _, _, _⟩) (v := ?_) rfl (by kernel_rfl) (by kernel_rfl) (by kernel_rfl) (by kernel_rfl) (fun _ _ _ h => h) (Or.inl ⟨by rfl, ?_⟩) hHeld ?_
              rotate_left
              · intro w' hSw
                go_simp
                first | done | rfl
              try simp only [Act.put, List.setIfInBounds_toArray, List.set_cons_zero, List.set_cons_succ]
              refine wpAnyZ_take (i := 3) (oi := ⟨some 103, _, _, _, _, _⟩) (v := ?_) rfl (by kernel_rfl) (by kernel_rfl) (by kernel_rfl) (by kernel_rfl) (fun _ _ _ h => h) (Or.inl ⟨by rfl, ?_⟩) hHeld ?_
              rotate_left
              · intro w' hSw
                go_simp
                first | done | rfl
              try simp only [Act.put, List.setIfInBounds_toArray, List.set_cons_zero, List.set_cons_succ]
              refine wpAnyZ_take (i := 4) (oi := ⟨some 104, _, _, _, _, _⟩) (v := ?_) rfl (by kernel_rfl) (by kernel_rfl) (by kernel_rfl) (by kernel_rfl) (fun _ _ _ h => h) (Or.inl ⟨by rfl, ?_⟩) hHeld ?_
              rotate_left
              · intro w' hSw
                have hc := ((HM3.out.read hSw).cl HI.out).1
                rw [HLV.out] at hc
                go_simp
                first | done | rfl
              try simp only [Act.put, List.setIfInBounds_toArray, List.set_cons_zero, List.set_cons_succ]
              refine wpAnyZ_take (i := 6) (oi := ⟨some 106, _, _, _, _, _⟩) (v := ?_) rfl (by kernel_rfl) (by kernel_rfl) (by kernel_rfl) (by kernel_rfl) (fun _ _ _ h => h) (Or.inl ⟨by rfl, ?_⟩) hHeld ?_
              rotate_left
              · intro w' hSw
                go_simp
                first | done | rfl
              try simp only [Act.put, List.setIfInBounds_toArray, List.set_cons_zero, List.set_cons_succ]
              refine wpAnyZ_take (i := 7) (oi := ⟨some 107, _, _, _, _, _⟩) (v := ?_) rfl (by kernel_rfl) (by kernel_rfl) (by kernel_rfl) (by kernel_rfl) (fun _ _ _ h => h) (Or.inl ⟨by rfl, ?_⟩) hHeld ?_
              rotate_left
              · intro w' hSw
                have hc := (hSw.blk HB3.out (fun h => h)).cell 2
                go_simp
                first | done | rfl
              try simp only [Act.put, List.setIfInBounds_toArray, List.set_cons_zero, List.set_cons_succ]
              refine wpAnyZ_step (i := 1) (o := ⟨some 101, _, _, _, _, _⟩) (by kernel_rfl) rfl (fun K hK => ?_)
              go_simp
              have HO0 : Hid ((w3.alloc (.cells #[] 5)).drew.ownsRow 0 5 1 (.slice (some ⟨w3.heap.size, 0, none⟩) 0 0) 0 []) := Lib.hid (((Keeps.refl (fun _ => False) _).drew).own (World.ownsRow_made (base := 0) (e := 5) (size := 1) w3 #[] 0 (by omega) (by unfold maxLen; omega) rfl) (fun _ _ h => h))
              have HL0 := Lib.hid (HLR.out _ (((Keeps.refl (fun _ => False) w3).alloc (.cells #[] 5)).drew))
              refine hK.out _ _ (((Keeps.refl (fun _ => False) w3).alloc _).drew) (fun hHeld => ?_)
              clear hK K
              try simp only [Act.put, List.setIfInBounds_toArray, List.set_cons_zero, List.set_cons_succ]
              refine wpAnyZ_step (i := 5) (o := ⟨some 105, _, _, _, _, _⟩) (by kernel_rfl) rfl (fun K hK => ?_)
              refine step_append_rd rfl _ _ 22 rfl 5 (.int .u8 0) 1 Tryd.underlying22 info5 rfl (some ⟨w3.heap.size, 0, none⟩) 0 0 [] rfl HO0.out LA ln lc _ rfl HL0.out (vb_one _) (by unfold maxLen; omega) (by omega) ?_
              intro A5 c5 w5' hown5 hsp5
              simp only [Nat.zero_add, List.nil_append] at hown5 ⊢
              have HM5 := Lib.hid (mine_first hown5 hsp5)
              have HB5 := Lib.hid (HBR.out _ HM5.out.2.1)
              clear hown5 hsp5
              refine hK.out _ _ HM5.out.2.1 (fun hHeld => ?_)
              clear hK K
              try simp only [Act.put, List.setIfInBounds_toArray, List.set_cons_zero, List.set_cons_succ]
              refine wpAnyZ_step (i := 8) (o := ⟨some 108, _, _, _, _, _⟩) (by kernel_rfl) rfl (fun K hK => ?_)
              refine step_append_rd rfl _ _ 22 rfl 5 (.int .u8 0) 1 Tryd.underlying22 info5 rfl A5 ln c5 _ rfl HM5.out.1 A' nb c' _ rfl HB5.out (vb_one _) (by unfold maxLen; omega) (by omega) ?_
              intro A8 c8 w8' hown8 hsp8
              have HM8 := Lib.hid (HM5.out.app0 hown8 hsp8.grown hsp8.block)
              clear hown8 hsp8
              obtain ⟨hst1, hst2⟩ := ((HM3.out.read HM8.out.2.1).cl HI.out)
              rw [HLV.out] at hst1
              refine hK.out _ _ HM8.out.2.1 (fun hHeld => ?_)
              clear hK K
              try simp only [Act.put, List.setIfInBounds_toArray, List.set_cons_zero, List.set_cons_succ]
              refine wpAnyZ_take (i := 9) (oi := ⟨some 109, _, _, _, _, _⟩) (v := ?_) rfl (by kernel_rfl) (by kernel_rfl) (by kernel_rfl) (by kernel_rfl) (fun _ _ _ h => h) (Or.inl ⟨by rfl, ?_⟩) hHeld ?_
              rotate_left
              · intro w' hSw
                go_simp
                first | done | rfl
              try simp only [Act.put, List.setIfInBounds_toArray, List.set_cons_zero, List.set_cons_succ]
              refine wpAnyZ_last (o := ⟨none, _, _, _, _, _⟩) (by kernel_rfl) (by kernel_rfl) rfl (fun K hK => ?_)
              go_simp
              refine hK.out _ _ ?_
              clear hK K
              try simp only [Act.put, List.setIfInBounds_toArray, List.set_cons_zero, List.set_cons_succ]
              have hm8 := HM8.out
              rw [vb_app] at hm8
              have HMN := Lib.hid ((HM3.out.read hm8.2.1).setAll HI.out (reads_new HM3.out hm8 (by rw [List.length_append, HLL.out, HBS.out]) HRD.out (by omega)))
              clear hm8 hst1 hst2
              go_wp2
              go_roundw
              case rel => exact ⟨k + 1, _, _, _, _, _, _, _, by omega, by go_num, HMN, Lib.hid (len_up HT.out (HTS.out k hlt) (by rw [List.length_append, HLL.out, HBS.out]; exact HLN.out))⟩
              case measure => simp [intOf]; omega
            · clear hob
              have hne := HNE.out
              go_wp2
              refine wp_region_held_drew (S := Keeps (fun _ => False) wa) (by kernel_rfl) ((Keeps.refl (fun _ => False) _).drew) (fun hHeld => ?_)
              refine wpAnyH_take (i := 0) (oi := ⟨some 112, _, _, _, _, _⟩) (v := ?_) rfl (by kernel_rfl) (by kernel_rfl) (by kernel_rfl) (fun _ _ _ h => h) (Or.inl ⟨by rfl, ?_⟩) hHeld ?_
              rotate_left
              · intro w' hSw
                go_simp
                first | done | rfl
              try simp only [Act.put, List.setIfInBounds_toArray, List.set_cons_zero, List.set_cons_succ]
              refine wpAnyH_take (i := 1) (oi := ⟨some 113, _, _, _, _, _⟩) (v := ?_) rfl (by kernel_rfl) (by kernel_rfl) (by kernel_rfl) (fun _ _ _ h => h) (Or.inl ⟨by rfl, ?_⟩) hHeld ?_
              rotate_left
              · intro w' hSw
                go_simp
                first | done | rfl
              try simp only [Act.put, List.setIfInBounds_toArray, List.set_cons_zero, List.set_cons_succ]
              refine wpAnyH_take (i := 2) (oi := ⟨some 114, _, _, _, _, _⟩) (v := ?_) rfl (by kernel_rfl) (by kernel_rfl) (by kernel_rfl) (fun _ _ _ h => h) (Or.inl ⟨by rfl, ?_⟩) hHeld ?_
              rotate_left
              · intro w' hSw
                have hc := ((HMA.out.read hSw).cm HI.out).1
                go_simp
                first | done | rfl
              try simp only [Act.put, List.setIfInBounds_toArray, List.set_cons_zero, List.set_cons_succ]
              refine wpAnyH_take (i := 4) (oi := ⟨some 116, _, _, _, _, _⟩) (v := ?_) rfl (by kernel_rfl) (by kernel_rfl) (by kernel_rfl) (fun _ _ _ h => h) (Or.inl ⟨by rfl, ?_⟩) hHeld ?_
              rotate_left
              · intro w' hSw
                go_simp
                first | done | rfl
              try simp only [Act.put, List.setIfInBounds_toArray, List.set_cons_zero, List.set_cons_succ]
              refine wpAnyH_take (i := 5) (oi := ⟨some 117, _, _, _, _, _⟩) (v := ?_) rfl (by kernel_rfl) (by kernel_rfl) (by kernel_rfl) (fun _ _ _ h => h) (Or.inl ⟨by rfl, ?_⟩) hHeld ?_
              rotate_left
              · intro w' hSw
                go_simp
                first | done | rfl
              try simp only [Act.put, List.setIfInBounds_toArray, List.set_cons_zero, List.set_cons_succ]
              refine wpAnyH_take (i := 6) (oi := ⟨some 118, _, _, _, _, _⟩) (v := ?_) rfl (by kernel_rfl) (by kernel_rfl) (by kernel_rfl) (fun _ _ _ h => h) (Or.inl ⟨by rfl, ?_⟩) hHeld ?_
              rotate_left
              · intro w' hSw
                have hc := ((HMA.out.read hSw).co HI.out).1
                rw [HSV.out] at hc
                go_simp
                first | done | rfl
              try simp only [Act.put, List.setIfInBounds_toArray, List.set_cons_zero, List.set_cons_succ]
              refine wpAnyH_take (i := 7) (oi := ⟨some 119, _, _, _, _, _⟩) (v := ?_) rfl (by kernel_rfl) (by kernel_rfl) (by kernel_rfl) (fun _ _ _ h => h) (Or.inl ⟨by rfl, ?_⟩) hHeld ?_
              rotate_left
              · intro w' hSw
                go_simp
                first | done | rfl
              try simp only [Act.put, List.setIfInBounds_toArray, List.set_cons_zero, List.set_cons_succ]
              refine wpAnyH_take (i := 8) (oi := ⟨some 120, _, _, _, _, _⟩) (v := ?_) rfl (by kernel_rfl) (by kernel_rfl) (by kernel_rfl) (fun _ _ _ h => h) (Or.inl ⟨by rfl, ?_⟩) hHeld ?_
              rotate_left
              · intro w' hSw
                go_simp
                first | done | rfl
              try simp only [Act.put, List.setIfInBounds_toArray, List.set_cons_zero, List.set_cons_succ]
              refine wpAnyH_take (i := 9) (oi := ⟨some 121, _, _, _, _, _⟩) (v := ?_) rfl (by kernel_rfl) (by kernel_rfl) (by kernel_rfl) (fun _ _ _ h => h) (Or.inl ⟨by rfl, ?_⟩) hHeld ?_
              rotate_left
              · intro w' hSw
                have hc := ((HMA.out.read hSw).cl HI.out).1
                rw [HLV.out] at hc
                go_simp
                first | done | rfl
              try simp only [Act.put, List.setIfInBounds_toArray, List.set_cons_zero, List.set_cons_succ]
              refine wpAnyH_ready (rs := [3]) (by kernel_rfl) (by simp) ?_
              refine AllReadyH.cons (o := ⟨some 115, _, _, _, _, _⟩) rfl (fun K hK => ?_) AllReadyH.nil
              go_simp
              refine (HSU.out _ (HKA.out.trans hHeld (fun _ _ h => h))).mono ?_
              rintro e x1 ⟨rfl, hk1⟩
              have hq1 := hHeld.trans hk1 (fun _ _ h => h)
              show K _ x1
              refine hK.out _ _ hq1 (fun hHeld => ?_)
              clear hK K
              try simp only [Act.put, List.setIfInBounds_toArray, List.set_cons_zero, List.set_cons_succ]
              refine wpAnyH_ready (rs := [10]) (by kernel_rfl) (by simp) ?_
              refine AllReadyH.cons (o := ⟨some 122, _, _, _, _, _⟩) rfl (fun K hK => ?_) AllReadyH.nil
              go_simp
              refine (HRS.out _ (HKA.out.trans hHeld (fun _ _ h => h))).mono ?_
              rintro e x2 ⟨rfl, hk2⟩
              have hq2 := hHeld.trans hk2 (fun _ _ h => h)
              show K _ x2
              refine hK.out _ _ hq2 (fun hHeld => ?_)
              clear hK K
              try simp only [Act.put, List.setIfInBounds_toArray, List.set_cons_zero, List.set_cons_succ]
              refine wpAnyH_take (i := 11) (oi := ⟨some 123, _, _, _, _, _⟩) (v := ?_) rfl (by kernel_rfl) (by kernel_rfl) (by kernel_rfl) (fun _ _ _ h => h) (Or.inl ⟨by rfl, ?_⟩) hHeld ?_
              rotate_left
              · intro w' hSw
                go_simp
                first | done | rfl
              try simp only [Act.put, List.setIfInBounds_toArray, List.set_cons_zero, List.set_cons_succ]
              refine wpAnyH_done (by kernel_rfl) ?_ _
              have HMN := Lib.hid (HMA.out.read hHeld)
              clear hHeld hq1 hq2 hne
              go_wp2
              go_roundw
              case rel => exact ⟨k + 1, _, _, _, _, _, _, _, by omega, by go_num, HMN, Lib.hid (fun i hi => Nat.le_trans (HT.out i hi) (HTS.out k hlt))⟩
              case measure => simp [intOf]; omega
            · clear hob
              go_wp2
              refine wp_region_held_drew (S := Keeps (fun _ => False) wa) (by kernel_rfl) ((Keeps.refl (fun _ => False) _).drew) (fun hHeld => ?_)
              refine wpAnyH_take (i := 0) (oi := ⟨some 126, _, _, _, _, _⟩) (v := ?_) rfl (by kernel_rfl) (by kernel_rfl) (by kernel_rfl) (fun _ _ _ h => h) (Or.inl ⟨by rfl, ?_⟩) hHeld ?_
              rotate_left
              · intro w' hSw
                go_simp
                first | done | rfl
              try simp only [Act.put, List.setIfInBounds_toArray, List.set_cons_zero, List.set_cons_succ]
              refine wpAnyH_take (i := 1) (oi := ⟨some 127, _, _, _, _, _⟩) (v := ?_) rfl (by kernel_rfl) (by kernel_rfl) (by kernel_rfl) (fun _ _ _ h => h) (Or.inl ⟨by rfl, ?_⟩) hHeld ?_
              rotate_left
              · intro w' hSw
                go_simp
                first | done | rfl
              try simp only [Act.put, List.setIfInBounds_toArray, List.set_cons_zero, List.set_cons_succ]
              refine wpAnyH_take (i := 2) (oi := ⟨some 128, _, _, _, _, _⟩) (v := ?_) rfl (by kernel_rfl) (by kernel_rfl) (by kernel_rfl) (fun _ _ _ h => h) (Or.inl ⟨by rfl, ?_⟩) hHeld ?_
              rotate_left
              · intro w' hSw
                have hc := ((HMA.out.read hSw).cm HI.out).1
                go_simp
                first | done | rfl
              try simp only [Act.put, List.setIfInBounds_toArray, List.set_cons_zero, List.set_cons_succ]
              refine wpAnyH_take (i := 4) (oi := ⟨some 130, _, _, _, _, _⟩) (v := ?_) rfl (by kernel_rfl) (by kernel_rfl) (by kernel_rfl) (fun _ _ _ h => h) (Or.inl ⟨by rfl, ?_⟩) hHeld ?_
              rotate_left
              · intro w' hSw
                go_simp
                first | done | rfl
              try simp only [Act.put, List.setIfInBounds_toArray, List.set_cons_zero, List.set_cons_succ]
              refine wpAnyH_take (i := 5) (oi := ⟨some 131, _, _, _, _, _⟩) (v := ?_) rfl (by kernel_rfl) (by kernel_rfl) (by kernel_rfl) (fun _ _ _ h => h) (Or.inl ⟨by rfl, ?_⟩) hHeld ?_
              rotate_left
              · intro w' hSw
                go_simp
                first | done | rfl
              try simp only [Act.put, List.setIfInBounds_toArray, List.set_cons_zero, List.set_cons_succ]
              refine wpAnyH_take (i := 6) (oi := ⟨some 132, _, _, _, _, _⟩) (v := ?_) rfl (by kernel_rfl) (by kernel_rfl) (by kernel_rfl) (fun _ _ _ h => h) (Or.inl ⟨by rfl, ?_⟩) hHeld ?_
              rotate_left
              · intro w' hSw
                have hc := ((HMA.out.read hSw).cl HI.out).1
                rw [HLV.out] at hc
                go_simp
                first | done | rfl
              try simp only [Act.put, List.setIfInBounds_toArray, List.set_cons_zero, List.set_cons_succ]
              refine wpAnyH_take (i := 7) (oi := ⟨some 133, _, _, _, _, _⟩) (v := ?_) rfl (by kernel_rfl) (by kernel_rfl) (by kernel_rfl) (fun _ _ _ h => h) (Or.inl ⟨by rfl, ?_⟩) hHeld ?_
              rotate_left
              · intro w' hSw
                go_simp
                first | done | rfl
              try simp only [Act.put, List.setIfInBounds_toArray, List.set_cons_zero, List.set_cons_succ]
              refine wpAnyH_ready (rs := [3]) (by kernel_rfl) (by simp) ?_
              refine AllReadyH.cons (o := ⟨some 129, _, _, _, _, _⟩) rfl (fun K hK => ?_) AllReadyH.nil
              go_simp
              refine (HLN2.out _ (HKA.out.trans hHeld (fun _ _ h => h))).mono ?_
              rintro e x1 ⟨rfl, hk1⟩
              have hq1 := hHeld.trans hk1 (fun _ _ h => h)
              show K _ x1
              refine hK.out _ _ hq1 (fun hHeld => ?_)
              clear hK K
              try simp only [Act.put, List.setIfInBounds_toArray, List.set_cons_zero, List.set_cons_succ]
              refine wpAnyH_take (i := 8) (oi := ⟨some 134, _, _, _, _, _⟩) (v := ?_) rfl (by kernel_rfl) (by kernel_rfl) (by kernel_rfl) (fun _ _ _ h => h) (Or.inl ⟨by rfl, ?_⟩) hHeld ?_
              rotate_left
              · intro w' hSw
                go_simp
                first | done | rfl
              try simp only [Act.put, List.setIfInBounds_toArray, List.set_cons_zero, List.set_cons_succ]
              refine wpAnyH_done (by kernel_rfl) ?_ _
              have HMN := Lib.hid (HMA.out.read hHeld)
              clear hHeld hq1
              go_wp2
              go_roundw
              case rel => exact ⟨k + 1, _, _, _, _, _, _, _, by omega, by go_num, HMN, Lib.hid (fun i hi => Nat.le_trans (HT.out i hi) (HTS.out k hlt))⟩
              case measure => simp [intOf]; omega
            · clear hob
              go_wp2_with (go_at_call 36; refine (HRT.out wa HKA.out).mono ?_; rintro e w2 ⟨rfl, q2, v2, hm2⟩; have HM2 := Lib.hid hm2; obtain ⟨hst1, hst2⟩ := hm2.cl HI.out; rw [HLV.out] at hst1; clear hm2 hcm)
              have HMN := Lib.hid (HM2.out.setAll HI.out (x := .slice none 0 0) (k := []) ⟨none, 0, 0, rfl, rfl, Rd.nil _ _, (fun x hx => by cases hx), by omega, (fun h => absurd h (by omega))⟩)
              clear hst1 hst2
              go_roundw
              case rel => exact ⟨k + 1, _, _, _, _, _, _, _, by omega, by go_num, HMN, Lib.hid (len_up HT.out (HTS.out k hlt) (Nat.zero_le _))⟩
              case measure => simp [intOf]; omega
            · clear hob
              go_wp2_with (go_at_call 32; refine (HCP.out wa HKA.out).mono ?_; rintro e w2 ⟨p2, q2, v2, rfl, ho2⟩; obtain ⟨hst1, hst2⟩ := (HMA.out.read ho2.own.2.1).cm HJ.out; have HC := Lib.hid (HMA.out.copied HJ.out ho2); clear ho2 hcm)
              refine gen_code (fun W => Macs _ w W gm w6.heap.size (w6.heap.size + 1) _ _ _ _ _ _ _ _ _) HC.out ?_
              rintro w4 hm4
              have ho4 := (hm4.co HI.out).1
              rw [HSV.out] at ho4
              have hl4 := (hm4.cl HI.out).1
              rw [HLV.out] at hl4
              have HO4 := Lib.hid ho4
              have HL4 := Lib.hid hl4
              have HS4 := Lib.hid (hm4.co HJ.out)
              have HS5 := Lib.hid (hm4.cl HJ.out)
              have HM4 := Lib.hid hm4
              have hwj : IntKind.i64.wrap 0 = 0 := by decide
              clear hm4 HC hst1 hst2 ho4 hl4
              refine wp_region_last (S := fun W => Keeps (fun x => x = w6.heap.size) w4 W ∧ Hid (W.cell? ⟨w6.heap.size, 1, none⟩ = w4.cell? ⟨w6.heap.size, 1, none⟩)) 13 (by kernel_rfl) ⟨(Keeps.refl _ _).drew, Lib.hid rfl⟩ (fun hHeld => ?_)
              refine wpAnyZ_take (i := 0) (oi := ⟨some 158, _, _, _, _, _⟩) (v := ?_) rfl (by kernel_rfl) (by kernel_rfl) (by kernel_rfl) (by kernel_rfl) (fun _ _ _ h => h) (Or.inl ⟨by rfl, ?_⟩) hHeld ?_
              rotate_left
              · intro w' hSw
                go_simp
                first | done | rfl
              try simp only [Act.put, List.setIfInBounds_toArray, List.set_cons_zero, List.set_cons_succ]
              refine wpAnyZ_take (i := 1) (oi := ⟨some 159, _, _, _, _, _⟩) (v := ?_) rfl (by kernel_rfl) (by kernel_rfl) (by kernel_rfl) (by kernel_rfl) (fun _ _ _ h => h) (Or.inl ⟨by rfl, ?_⟩) hHeld ?_
              rotate_left
              · intro w' hSw
                go_simp
                first | done | rfl
              try simp only [Act.put, List.setIfInBounds_toArray, List.set_cons_zero, List.set_cons_succ]
              refine wpAnyZ_take (i := 2) (oi := ⟨some 160, _, _, _, _, _⟩) (v := ?_) rfl (by kernel_rfl) (by kernel_rfl) (by kernel_rfl) (by kernel_rfl) (fun _ _ _ h => h) (Or.inl ⟨by rfl, ?_⟩) hHeld ?_
              rotate_left
              · intro w' hSw
                go_simp
                first | done | rfl
              try simp only [Act.put, List.setIfInBounds_toArray, List.set_cons_zero, List.set_cons_succ]
              refine wpAnyZ_take (i := 3) (oi := ⟨some 161, _, _, _, _, _⟩) (v := ?_) rfl (by kernel_rfl) (by kernel_rfl) (by kernel_rfl) (by kernel_rfl) (fun _ _ _ h => h) (Or.inl ⟨by rfl, ?_⟩) hHeld ?_
              rotate_left
              · intro w' hSw
                go_simp
                first | done | rfl
              try simp only [Act.put, List.setIfInBounds_toArray, List.set_cons_zero, List.set_cons_succ]
              refine wpAnyZ_take (i := 4) (oi := ⟨some 162, _, _, _, _, _⟩) (v := ?_) rfl (by kernel_rfl) (by kernel_rfl) (by kernel_rfl) (by kernel_rfl) (fun _ _ _ h => h) (Or.inl ⟨by rfl, ?_⟩) hHeld ?_
              rotate_left
              · intro w' hSw
                go_simp
                first | done | rfl
              try simp only [Act.put, List.setIfInBounds_toArray, List.set_cons_zero, List.set_cons_succ]
              refine wpAnyZ_take (i := 5) (oi := ⟨some 163, _, _, _, _, _⟩) (v := ?_) rfl (by kernel_rfl) (by kernel_rfl) (by kernel_rfl) (by kernel_rfl) (fun _ _ _ h => h) (Or.inl ⟨by rfl, ?_⟩) hHeld ?_
              rotate_left
              · intro w' hSw
                go_simp
                first | done | rfl
              try simp only [Act.put, List.setIfInBounds_toArray, List.set_cons_zero, List.set_cons_succ]
              refine wpAnyZ_take (i := 6) (oi := ⟨some 164, _, _, _, _, _⟩) (v := ?_) rfl (by kernel_rfl) (by kernel_rfl) (by kernel_rfl) (by kernel_rfl) (fun _ _ _ h => h) (Or.inl ⟨by rfl, ?_⟩) hHeld ?_
              rotate_left
              · intro w' hSw
                have hc := hSw.2.out.trans HO4.out
                go_simp
                first | done | rfl
              try simp only [Act.put, List.setIfInBounds_toArray, List.set_cons_zero, List.set_cons_succ]
              refine wpAnyZ_take (i := 7) (oi := ⟨some 165, _, _, _, _, _⟩) (v := ?_) rfl (by kernel_rfl) (by kernel_rfl) (by kernel_rfl) (by kernel_rfl) (fun _ _ _ h => h) (Or.inl ⟨by rfl, ?_⟩) hHeld ?_
              rotate_left
              · intro w' hSw
                go_simp
                first | done | rfl
              try simp only [Act.put, List.setIfInBounds_toArray, List.set_cons_zero, List.set_cons_succ]
              refine wpAnyZ_take (i := 8) (oi := ⟨some 166, _, _, _, _, _⟩) (v := ?_) rfl (by kernel_rfl) (by kernel_rfl) (by kernel_rfl) (by kernel_rfl) (fun _ _ _ h => h) (Or.inl ⟨by rfl, ?_⟩) hHeld ?_
              rotate_left
              · intro w' hSw
                go_simp
                first | done | rfl
              try simp only [Act.put, List.setIfInBounds_toArray, List.set_cons_zero, List.set_cons_succ]
              refine wpAnyZ_take (i := 9) (oi := ⟨some 167, _, _, _, _, _⟩) (v := ?_) rfl (by kernel_rfl) (by kernel_rfl) (by kernel_rfl) (by kernel_rfl) (fun _ _ _ h => h) (Or.inl ⟨by rfl, ?_⟩) hHeld ?_
              rotate_left
              · intro w' hSw
                have hc := (hSw.1.cell (p := ⟨(w6.heap.size + 1), 1, none⟩) (by have := HM4.out.bl.lt; exact this) (fun e => HM4.out.ne (by exact e.symm))).trans HL4.out
                go_simp
                first | done | rfl
              try simp only [Act.put, List.setIfInBounds_toArray, List.set_cons_zero, List.set_cons_succ]
              refine wpAnyZ_take (i := 10) (oi := ⟨some 168, _, _, _, _, _⟩) (v := ?_) rfl (by kernel_rfl) (by kernel_rfl) (by kernel_rfl) (by kernel_rfl) (fun _ _ _ h => h) (Or.inl ⟨by rfl, ?_⟩) hHeld ?_
              rotate_left
              · intro w' hSw
                go_simp
                first | done | rfl
              try simp only [Act.put, List.setIfInBounds_toArray, List.set_cons_zero, List.set_cons_succ]
              refine wpAnyZ_step (i := 11) (o := ⟨none, _, _, _, _, _⟩) (by kernel_rfl) rfl (fun K hK => ?_)
              obtain ⟨hs1, hs2⟩ := HS4.out; go_simp
              refine hK.out _ _ ⟨hHeld.1.setCell (.inl rfl) _, Lib.hid (Eq.trans (cell_set_ne _ _ 1 0 _ (by decide)) hHeld.2.out)⟩ (fun hHeld => ?_)
              clear hK K
              try simp only [Act.put, List.setIfInBounds_toArray, List.set_cons_zero, List.set_cons_succ]
              refine wpAnyZ_take (i := 12) (oi := ⟨some 169, _, _, _, _, _⟩) (v := ?_) rfl (by kernel_rfl) (by kernel_rfl) (by kernel_rfl) (by kernel_rfl) (fun _ _ _ h => h) (Or.inl ⟨by rfl, ?_⟩) hHeld ?_
              rotate_left
              · intro w' hSw
                go_simp
                first | done | rfl
              try simp only [Act.put, List.setIfInBounds_toArray, List.set_cons_zero, List.set_cons_succ]
              refine wpAnyZ_last (o := ⟨none, _, _, _, _, _⟩) (by kernel_rfl) (by kernel_rfl) rfl (fun K hK => ?_)
              obtain ⟨hs1, hs2⟩ := HS5.out; go_simp
              refine hK.out _ _ ?_
              clear hK K
              try simp only [Act.put, List.setIfInBounds_toArray, List.set_cons_zero, List.set_cons_succ]
              have hm5 := (HM4.out.read ((Keeps.refl (fun _ => False) w4).drew)).setOf HJ.out ((HM4.out.of _ HI.out).at HSV.out)
              have HMN := Lib.hid (hm5.setAll HJ.out ((hm5.all _ HI.out).at HLV.out))
              clear hm5 hwj
              go_wp2
              go_roundw
              case rel => exact ⟨k + 1, _, _, _, _, _, _, _, by omega, by go_num, HMN, Lib.hid (len_up HT.out (HTS.out k hlt) (Nat.le_trans (HT.out _ HI.out) (HTS.out k hlt)))⟩
              case measure => simp [intOf]; omega
            · have y0 : (kd == 0) = false := by simpa using z0
              have y1 : (kd == 1) = false := by simpa using z1
              have y2 : (kd == 2) = false := by simpa using z2
              have y3 : (kd == 3) = false := by simpa using z3
              have y4 : (kd == 4) = false := by simpa using z4
              go_wp2
              go_roundw
              case rel => exact ⟨k + 1, _, _, _, _, _, _, _, by omega, by go_num, HMA, Lib.hid (fun i hi => Nat.le_trans (HT.out i hi) (HTS.out k hlt))⟩
              case measure => simp [intOf]; omega
      · obtain rfl : k = N := by omega
        have HEND : Hid (∀ i : Nat, i < 2 → ∃ (SA : Option Addr) (sn sc : Nat) (LA : Option Addr) (ln lc : Nat) (MS : List Value), (∀ W, Keeps (fun _ => False) wr W → W.cell? ⟨gm, i, none⟩ = some (ptr (p i)) ∧ W.cell? ⟨w6.heap.size, i, none⟩ = some (.slice SA sn sc) ∧ W.cell? ⟨(w6.heap.size + 1), i, none⟩ = some (.slice LA ln lc)) ∧
            (∀ W, (binOp .neq 41 (.agg MS.toArray) (.agg MS.toArray)).run Tryd.prog W = .ok (.bool false) W) ∧
            (∀ W, Keeps (fun _ => False) wr W → Calls Tryd.prog 34 #[ptr (p i)] W fun e w' => e = .returned (.agg MS.toArray) ∧ Keeps (fun _ => False) W w') ∧
            (∀ W, Keeps (fun _ => False) wr W → Calls Tryd.prog 30 #[.slice SA sn sc, .slice LA ln lc] W fun e w' => e = .returned (.agg MS.toArray) ∧ Keeps (fun _ => False) W w') ∧
            (∀ W, Keeps (fun _ => False) wr W → Calls Tryd.prog 35 #[ptr (p i)] W fun e w' => e = .returned (.int .i64 ln) ∧ Keeps (fun _ => False) W w') ∧ ln ≤ 1048576) := Lib.hid fun i hi => by
          obtain ⟨LA, ln, lc, hlv, hll, hlr, hlb, hlm, _⟩ := HM.out.all i hi
          obtain ⟨SA, sn, sc, hsv, hsl, hsr, hsb, hsm, _⟩ := HM.out.of i hi
          have hln : ln ≤ 1048576 := by have h1 := HT.out i hi; have h2 := HTB.out k; omega
          refine ⟨SA, sn, sc, LA, ln, lc, vb (macF (km i) (mm i)), fun W hk => ⟨((HM.out.read hk).cm hi).1, ?_, ?_⟩, fun W => neq_eql (dig_self _ (macF_length _ _) W), fun W hk => msum_any w HGW.out W _ _ _ _ _ ((HM.out.read hk).mac i hi) hsb (by omega), fun W hk => rmac_any W SA LA sn sc ln lc _ _ hsl (hsr.keep (HM.out.keep.trans hk (fun _ _ h => h)) (no_out _ _)) hsb hsm hll (hlr.keep hk (no_out _ _)) hlb (by omega), fun W hk => ?_, hln⟩
          · have := ((HM.out.read hk).co hi).1
            rwa [hsv] at this
          · have := ((HM.out.read hk).cl hi).1
            rwa [hlv] at this
          · have := mlen_any w W _ _ _ _ _ ((HM.out.read hk).mac i hi)
            rw [hll] at this
            exact this.mono fun e w' ⟨a, b⟩ => ⟨a, by rw [b]; exact Keeps.refl _ _⟩
        have HWK : Hid (∀ W, Keeps (fun _ => False) wr W → Calls Tryd.prog 16 #[] W fun e w' => e = .returned (.bool true) ∧ Keeps (fun _ => False) w w') := Lib.hid fun W hk => (wakes_any W (HGW.out.keep (HM.out.keep.trans hk (fun _ _ h => h)) (fun _ h => h.elim))).mono fun e w' ⟨a, b⟩ => ⟨a, (HM.out.keep.trans hk (fun _ _ h => h)).trans b (fun _ _ h => h)⟩
        obtain ⟨wo, hwo⟩ : ∃ wo : World, wo = wr := ⟨_, rfl⟩
        rw [← hwo] at HEND HWK
        have HWO := Lib.hid hwo
        clear hwo HM HT
        go_wp2
        go_loopw [15, 171] (fun _ i wx => ∃ k2 : Nat, k2 ≤ 2 ∧ i = .int .i64 k2 ∧ Hid (Keeps (fun _ => False) wo wx)) (fun _ i _ => 2 - (intOf i).toNat)
        case atStart => exact ⟨0, by omega, rfl, Lib.hid (by rw [HWO.out]; exact Keeps.refl _ _)⟩
        case round =>
          obtain ⟨k2, hk2, rfl, HKX⟩ := hrel
          obtain ⟨wx, rfl⟩ : ∃ wx : World, wx = wr := ⟨_, rfl⟩
          by_cases hlt2 : k2 < 2
          · obtain ⟨SA, sn, sc, LA, ln, lc, MS, hce, hne, hsu, hrs, hle, hln⟩ := HEND.out k2 hlt2
            have HCE := Lib.hid hce
            have HSU := Lib.hid hsu
            have HRS := Lib.hid hrs
            have HLN2 := Lib.hid hle
            clear hce hsu hrs hle
            go_wp2
            refine wp_region_held_drew (S := Keeps (fun _ => False) wx) (by kernel_rfl) ((Keeps.refl (fun _ => False) _).drew) (fun hHeld => ?_)
            refine wpAnyH_take (i := 0) (oi := ⟨some 174, _, _, _, _, _⟩) (v := ?_) rfl (by kernel_rfl) (by kernel_rfl) (by kernel_rfl) (fun _ _ _ h => h) (Or.inl ⟨by rfl, ?_⟩) hHeld ?_
            rotate_left
            · intro w' hSw
              go_simp
              first | done | rfl
            try simp only [Act.put, List.setIfInBounds_toArray, List.set_cons_zero, List.set_cons_succ]
            refine wpAnyH_take (i := 1) (oi := ⟨some 175, _, _, _, _, _⟩) (v := ?_) rfl (by kernel_rfl) (by kernel_rfl) (by kernel_rfl) (fun _ _ _ h => h) (Or.inl ⟨by rfl, ?_⟩) hHeld ?_
            rotate_left
            · intro w' hSw
              go_simp
              first | done | rfl
            try simp only [Act.put, List.setIfInBounds_toArray, List.set_cons_zero, List.set_cons_succ]
            refine wpAnyH_take (i := 2) (oi := ⟨some 176, _, _, _, _, _⟩) (v := ?_) rfl (by kernel_rfl) (by kernel_rfl) (by kernel_rfl) (fun _ _ _ h => h) (Or.inl ⟨by rfl, ?_⟩) hHeld ?_
            rotate_left
            · intro w' hSw
              have hc := (HCE.out _ (HKX.out.trans hSw (fun _ _ h => h))).1
              go_simp
              first | done | rfl
            try simp only [Act.put, List.setIfInBounds_toArray, List.set_cons_zero, List.set_cons_succ]
            refine wpAnyH_take (i := 4) (oi := ⟨some 178, _, _, _, _, _⟩) (v := ?_) rfl (by kernel_rfl) (by kernel_rfl) (by kernel_rfl) (fun _ _ _ h => h) (Or.inl ⟨by rfl, ?_⟩) hHeld ?_
            rotate_left
            · intro w' hSw
              go_simp
              first | done | rfl
            try simp only [Act.put, List.setIfInBounds_toArray, List.set_cons_zero, List.set_cons_succ]
            refine wpAnyH_take (i := 5) (oi := ⟨some 179, _, _, _, _, _⟩) (v := ?_) rfl (by kernel_rfl) (by kernel_rfl) (by kernel_rfl) (fun _ _ _ h => h) (Or.inl ⟨by rfl, ?_⟩) hHeld ?_
            rotate_left
            · intro w' hSw
              go_simp
              first | done | rfl
            try simp only [Act.put, List.setIfInBounds_toArray, List.set_cons_zero, List.set_cons_succ]
            refine wpAnyH_take (i := 6) (oi := ⟨some 180, _, _, _, _, _⟩) (v := ?_) rfl (by kernel_rfl) (by kernel_rfl) (by kernel_rfl) (fun _ _ _ h => h) (Or.inl ⟨by rfl, ?_⟩) hHeld ?_
            rotate_left
            · intro w' hSw
              have hc := (HCE.out _ (HKX.out.trans hSw (fun _ _ h => h))).2.1
              go_simp
              first | done | rfl
            try simp only [Act.put, List.setIfInBounds_toArray, List.set_cons_zero, List.set_cons_succ]
            refine wpAnyH_take (i := 7) (oi := ⟨some 181, _, _, _, _, _⟩) (v := ?_) rfl (by kernel_rfl) (by kernel_rfl) (by kernel_rfl) (fun _ _ _ h => h) (Or.inl ⟨by rfl, ?_⟩) hHeld ?_
            rotate_left
            · intro w' hSw
              go_simp
              first | done | rfl
            try simp only [Act.put, List.setIfInBounds_toArray, List.set_cons_zero, List.set_cons_succ]
            refine wpAnyH_take (i := 8) (oi := ⟨some 182, _, _, _, _, _⟩) (v := ?_) rfl (by kernel_rfl) (by kernel_rfl) (by kernel_rfl) (fun _ _ _ h => h) (Or.inl ⟨by rfl, ?_⟩) hHeld ?_
            rotate_left
            · intro w' hSw
              go_simp
              first | done | rfl
            try simp only [Act.put, List.setIfInBounds_toArray, List.set_cons_zero, List.set_cons_succ]
            refine wpAnyH_take (i := 9) (oi := ⟨some 183, _, _, _, _, _⟩) (v := ?_) rfl (by kernel_rfl) (by kernel_rfl) (by kernel_rfl) (fun _ _ _ h => h) (Or.inl ⟨by rfl, ?_⟩) hHeld ?_
            rotate_left
            · intro w' hSw
              have hc := (HCE.out _ (HKX.out.trans hSw (fun _ _ h => h))).2.2
              go_simp
              first | done | rfl
            try simp only [Act.put, List.setIfInBounds_toArray, List.set_cons_zero, List.set_cons_succ]
            refine wpAnyH_ready (rs := [3]) (by kernel_rfl) (by simp) ?_
            refine AllReadyH.cons (o := ⟨some 177, _, _, _, _, _⟩) rfl (fun K hK => ?_) AllReadyH.nil
            go_simp
            refine (HSU.out _ (HKX.out.trans hHeld (fun _ _ h => h))).mono ?_
            rintro e x1 ⟨rfl, hk1⟩
            have hq1 := hHeld.trans hk1 (fun _ _ h => h)
            show K _ x1
            refine hK.out _ _ hq1 (fun hHeld => ?_)
            clear hK K
            try simp only [Act.put, List.setIfInBounds_toArray, List.set_cons_zero, List.set_cons_succ]
            refine wpAnyH_ready (rs := [10]) (by kernel_rfl) (by simp) ?_
            refine AllReadyH.cons (o := ⟨some 184, _, _, _, _, _⟩) rfl (fun K hK => ?_) AllReadyH.nil
            go_simp
            refine (HRS.out _ (HKX.out.trans hHeld (fun _ _ h => h))).mono ?_
            rintro e x2 ⟨rfl, hk2⟩
            have hq2 := hHeld.trans hk2 (fun _ _ h => h)
            show K _ x2
            refine hK.out _ _ hq2 (fun hHeld => ?_)
            clear hK K
            try simp only [Act.put, List.setIfInBounds_toArray, List.set_cons_zero, List.set_cons_succ]
            refine wpAnyH_take (i := 11) (oi := ⟨some 185, _, _, _, _, _⟩) (v := ?_) rfl (by kernel_rfl) (by kernel_rfl) (by kernel_rfl) (fun _ _ _ h => h) (Or.inl ⟨by rfl, ?_⟩) hHeld ?_
            rotate_left
            · intro w' hSw
              go_simp
              first | done | rfl
            try simp only [Act.put, List.setIfInBounds_toArray, List.set_cons_zero, List.set_cons_succ]
            refine wpAnyH_take (i := 12) (oi := ⟨some 186, _, _, _, _, _⟩) (v := ?_) rfl (by kernel_rfl) (by kernel_rfl) (by kernel_rfl) (fun _ _ _ h => h) (Or.inl ⟨by rfl, ?_⟩) hHeld ?_
            rotate_left
            · intro w' hSw
              go_simp
              first | done | rfl
            try simp only [Act.put, List.setIfInBounds_toArray, List.set_cons_zero, List.set_cons_succ]
            refine wpAnyH_take (i := 13) (oi := ⟨some 187, _, _, _, _, _⟩) (v := ?_) rfl (by kernel_rfl) (by kernel_rfl) (by kernel_rfl) (fun _ _ _ h => h) (Or.inl ⟨by rfl, ?_⟩) hHeld ?_
            rotate_left
            · intro w' hSw
              go_simp
              first | done | rfl
            try simp only [Act.put, List.setIfInBounds_toArray, List.set_cons_zero, List.set_cons_succ]
            refine wpAnyH_take (i := 14) (oi := ⟨some 188, _, _, _, _, _⟩) (v := ?_) rfl (by kernel_rfl) (by kernel_rfl) (by kernel_rfl) (fun _ _ _ h => h) (Or.inl ⟨by rfl, ?_⟩) hHeld ?_
            rotate_left
            · intro w' hSw
              go_simp
              first | done | rfl
            try simp only [Act.put, List.setIfInBounds_toArray, List.set_cons_zero, List.set_cons_succ]
            refine wpAnyH_take (i := 15) (oi := ⟨some 189, _, _, _, _, _⟩) (v := ?_) rfl (by kernel_rfl) (by kernel_rfl) (by kernel_rfl) (fun _ _ _ h => h) (Or.inl ⟨by rfl, ?_⟩) hHeld ?_
            rotate_left
            · intro w' hSw
              have hc := (HCE.out _ (HKX.out.trans hSw (fun _ _ h => h))).1
              go_simp
              first | done | rfl
            try simp only [Act.put, List.setIfInBounds_toArray, List.set_cons_zero, List.set_cons_succ]
            refine wpAnyH_take (i := 17) (oi := ⟨some 191, _, _, _, _, _⟩) (v := ?_) rfl (by kernel_rfl) (by kernel_rfl) (by kernel_rfl) (fun _ _ _ h => h) (Or.inl ⟨by rfl, ?_⟩) hHeld ?_
            rotate_left
            · intro w' hSw
              go_simp
              first | done | rfl
            try simp only [Act.put, List.setIfInBounds_toArray, List.set_cons_zero, List.set_cons_succ]
            refine wpAnyH_take (i := 18) (oi := ⟨some 192, _, _, _, _, _⟩) (v := ?_) rfl (by kernel_rfl) (by kernel_rfl) (by kernel_rfl) (fun _ _ _ h => h) (Or.inl ⟨by rfl, ?_⟩) hHeld ?_
            rotate_left
            · intro w' hSw
              go_simp
              first | done | rfl
            try simp only [Act.put, List.setIfInBounds_toArray, List.set_cons_zero, List.set_cons_succ]
            refine wpAnyH_take (i := 19) (oi := ⟨some 193, _, _, _, _, _⟩) (v := ?_) rfl (by kernel_rfl) (by kernel_rfl) (by kernel_rfl) (fun _ _ _ h => h) (Or.inl ⟨by rfl, ?_⟩) hHeld ?_
            rotate_left
            · intro w' hSw
              have hc := (HCE.out _ (HKX.out.trans hSw (fun _ _ h => h))).2.2
              go_simp
              first | done | rfl
            try simp only [Act.put, List.setIfInBounds_toArray, List.set_cons_zero, List.set_cons_succ]
            refine wpAnyH_take (i := 20) (oi := ⟨some 194, _, _, _, _, _⟩) (v := ?_) rfl (by kernel_rfl) (by kernel_rfl) (by kernel_rfl) (fun _ _ _ h => h) (Or.inl ⟨by rfl, ?_⟩) hHeld ?_
            rotate_left
            · intro w' hSw
              go_simp
              first | done | rfl
            try simp only [Act.put, List.setIfInBounds_toArray, List.set_cons_zero, List.set_cons_succ]
            refine wpAnyH_ready (rs := [16]) (by kernel_rfl) (by simp) ?_
            refine AllReadyH.cons (o := ⟨some 190, _, _, _, _, _⟩) rfl (fun K hK => ?_) AllReadyH.nil
            go_simp
            refine (HLN2.out _ (HKX.out.trans hHeld (fun _ _ h => h))).mono ?_
            rintro e x3 ⟨rfl, hk3⟩
            have hq3 := hHeld.trans hk3 (fun _ _ h => h)
            show K _ x3
            refine hK.out _ _ hq3 (fun hHeld => ?_)
            clear hK K
            try simp only [Act.put, List.setIfInBounds_toArray, List.set_cons_zero, List.set_cons_succ]
            refine wpAnyH_take (i := 21) (oi := ⟨some 195, _, _, _, _, _⟩) (v := ?_) rfl (by kernel_rfl) (by kernel_rfl) (by kernel_rfl) (fun _ _ _ h => h) (Or.inl ⟨by rfl, ?_⟩) hHeld ?_
            rotate_left
            · intro w' hSw
              go_simp
              first | done | rfl
            try simp only [Act.put, List.setIfInBounds_toArray, List.set_cons_zero, List.set_cons_succ]
            refine wpAnyH_take (i := 22) (oi := ⟨some 196, _, _, _, _, _⟩) (v := ?_) rfl (by kernel_rfl) (by kernel_rfl) (by kernel_rfl) (fun _ _ _ h => h) (Or.inl ⟨by rfl, ?_⟩) hHeld ?_
            rotate_left
            · intro w' hSw
              go_simp
              first | done | rfl
            try simp only [Act.put, List.setIfInBounds_toArray, List.set_cons_zero, List.set_cons_succ]
            refine wpAnyH_done (by kernel_rfl) ?_ _
            have HKN := Lib.hid (HKX.out.trans hHeld (fun _ _ h => h))
            clear hHeld hq1 hq2 hq3 hne
            go_wp2
            go_roundw
            case rel => exact ⟨k2 + 1, by omega, by go_num, HKN⟩
            case measure => simp [intOf]; omega
          · go_wp2_with (go_at_call 16; refine (HWK.out wx HKX.out).mono ?_; rintro e x9 ⟨rfl, hk9⟩)
            go_ret
            exact ⟨rfl, hk9⟩
end Go.Proofs.YtnlnbgjpbnjjfaaDoor
