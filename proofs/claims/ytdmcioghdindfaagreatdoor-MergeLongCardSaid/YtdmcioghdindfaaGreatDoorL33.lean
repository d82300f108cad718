/- Texts. -/
import Derived.Test.YtdmcioghdindfaaGreatDoorL32
import Derived.Test.YtdmcioghdindfaaGreatDoorL31
set_option linter.unusedSimpArgs false
set_option maxRecDepth 100000
set_option maxHeartbeats 4000000
namespace Go.Proofs.YtdmcioghdindfaaGreatDoor
open Go Go.RowKit Go.Aff Go.Json
end Go.Proofs.YtdmcioghdindfaaGreatDoor
namespace Go.Proofs.YtdmcioghdindfaaGreatDoor
open Go Go.RowKit Go.Aff Go.Json
attribute [local go_sem] Oper.semAt_some
def MadeAny (w : World) (A : Option Addr) (n c : Nat) (o : Bool) : Prop := ∀ W, Keeps (fun _ => False) w W → Calls Tryz.prog 8 #[.slice A n c] W fun e w' => ∃ t u0 u1 u2 u3 A4 m4 c4 A5 m5 c5, e = .returned (.tuple #[.pointer t, .agg #[.int .i64 u0, .bool u1, .int .u64 u2, .string u3, .slice A4 m4 c4, .slice A5 m5 c5], .bool o, .bool true]) ∧ Hid (Keeps (fun _ => False) w w')
def MadeOne (w : World) (A : Option Addr) (n c : Nat) (j : JV) : Prop := ∀ W, Keeps (fun _ => False) w W → Calls Tryz.prog 8 #[.slice A n c] W fun e w' => ∃ q v u0 u1 u2 u3 A4 m4 c4 A5 m5 c5, e = .returned (.tuple #[.pointer (some ⟨q, 0, none⟩), .agg #[.int .i64 u0, .bool u1, .int .u64 u2, .string u3, .slice A4 m4 c4, .slice A5 m5 c5], .bool true, .bool true]) ∧ Hid (TreeAt (fun _ => True) w' q v j ∧ RAt (fun _ => True) w' [.int .i64 u0, .bool u1, .int .u64 u2, .string u3, .slice A4 m4 c4, .slice A5 m5 c5] j ∧ Keeps (fun _ => False) w w' ∧ Keeps (fun _ => False) W w')
theorem made_good {w : World} {A : Option Addr} {n c : Nat} {css : List (List Value)} {l : List StepV} (hS : StepsIn w A n css l) (hM : Modest l) {j : JV} (hb : buildF l = .inr j) : MadeOne w A n c j := fun W hW => (lmade_any W A n c css l (hS.stay hW) hM).mono fun e w' h => by
 unfold LMadePost at h
 rw [hb] at h
 obtain ⟨hk, q, v, rv, he, ht, hr⟩ := h
 obtain ⟨A4, c4, A5, c5, _, rfl, _⟩ := hr.form
 exact ⟨q, v, _, _, _, _, A4, _, c4, A5, _, c5, he, H_ ⟨⟨trivial, ht.2.1, ht.2.2.mono fun _ _ _ => trivial⟩, hr.mono fun _ _ _ => trivial, hW.trans hk fun _ _ h => h, hk⟩⟩
theorem MadeOne.any {w : World} {A : Option Addr} {n c : Nat} {j : JV} (h : MadeOne w A n c j) : MadeAny w A n c true := fun W hW => (h W hW).mono fun e w' hh => by
 obtain ⟨q, v, u0, u1, u2, u3, A4, m4, c4, A5, m5, c5, he, hx⟩ := hh
 exact ⟨_, _, _, _, _, _, _, _, _, _, _, he, H_ hx.out.2.2.1⟩
theorem TreeAt.true {D : Nat → Prop} {w : World} {q : Nat} {v : Value} {j : JV} (h : TreeAt D w q v j) : TreeAt (fun _ => True) w q v j := ⟨trivial, h.2.1, h.2.2.mono fun _ _ _ => trivial⟩
theorem merge_law {w : World} {q q2 : Nat} {v v2 : Value} {j j2 : JV} (h : TreeAt (fun _ => True) w q v j) (h2 : TreeAt (fun _ => True) w q2 v2 j2) (hj : JOk j) (hj2 : JOk j2) (hw : j.within) (hw2 : j2.within) (jl : JV) (hl : jl = j2.lay (some j)) :
  Calls Tryz.prog 18 #[.pointer (some ⟨q, 0, none⟩), .pointer (some ⟨q2, 0, none⟩)] w fun e w' => ∃ p x, e = .returned (.tuple #[p, x]) ∧ ((∃ q u, p = .pointer (some ⟨q, 0, none⟩) ∧ x = .nilIface ∧ TreeAt (fun _ => True) w' q u jl ∧ jl.within) ∨ (p = .pointer none ∧ x = errE 3 ∧ ¬ jl.within)) ∧ Keeps (fun _ => False) w w' := by
 subst hl
 refine (merge_tree w q q2 v v2 j j2 h h2 hj hj2 hw hw2).mono ?_
 rintro e w' ⟨⟨q3, u, rfl, ht, hw⟩ | ⟨rfl, hw⟩, hk⟩
 ·exact ⟨_, _, rfl, .inl ⟨q3, u, rfl, rfl, ht.true, hw⟩, hk⟩
 exact ⟨_, _, rfl, .inr ⟨rfl, rfl, hw⟩, hk⟩
end Go.Proofs.YtdmcioghdindfaaGreatDoor
namespace Go.Proofs.YtdmcioghdindfaaGreatDoor
open Go Go.RowKit Go.Aff Go.Json
theorem infoT : (Tryz.prog.info? 26).map (fun i => (i.zero, i.size, i.bytes)) = some (some (.pointer none), 1, 8) := by kernel_rfl
theorem ptr_one (ps : List (Option Addr)) : ∀ u ∈ ps.map Value.pointer, u.oneCell' = true := fun u hu => by
 obtain ⟨t, _, rfl⟩ := List.mem_map.1 hu
 rfl
end Go.Proofs.YtdmcioghdindfaaGreatDoor
namespace Go.Proofs.YtdmcioghdindfaaGreatDoor
open Go Go.RowKit Go.Aff Go.Json
attribute [local go_sem] Oper.semAt_some
structure Over3 (w : World) (q0 q1 q2 q3 : Nat) (v0 v1 v2 v3 : Value) (j0 j1 j2 j3 l1 l2 l3 : JV) : Prop where
 t0 : TreeAt (fun _ => True) w q0 v0 j0
 t1 : TreeAt (fun _ => True) w q1 v1 j1
 t2 : TreeAt (fun _ => True) w q2 v2 j2
 t3 : TreeAt (fun _ => True) w q3 v3 j3
 ok : JOk j0 ∧ JOk j1 ∧ JOk j2 ∧ JOk j3 ∧ JOk l1 ∧ JOk l2
 wi : j0.within ∧ j1.within ∧ j2.within ∧ j3.within ∧ l1.within ∧ l2.within
 e1 : l1 = j1.lay (some j0)
 e2 : l2 = j2.lay (some l1)
 e3 : l3 = j3.lay (some l2)
theorem over_three (w : World) (q0 q1 q2 q3 : Nat) (v0 v1 v2 v3 : Value) (j0 j1 j2 j3 l1 l2 l3 : JV) (h : Over3 w q0 q1 q2 q3 v0 v1 v2 v3 j0 j1 j2 j3 l1 l2 l3) (A : Option Addr) (c : Nat) (hr : Rd w A 3 [.pointer (some ⟨q1, 0, none⟩), .pointer (some ⟨q2, 0, none⟩), .pointer (some ⟨q3, 0, none⟩)]) :
  Calls Tryz.prog 19 #[.pointer (some ⟨q0, 0, none⟩), .slice A 3 c] w fun e w' => ((∃ q, e = .returned (.tuple #[.pointer (some ⟨q, 0, none⟩), .nilIface]) ∧ (∃ v, TreeAt (fun _ => True) w' q v l3) ∧ l3.within) ∨ (e = .returned (.tuple #[.pointer none, .iface 103 (.agg #[.int .i64 3, .int .i64 2])]) ∧ ¬ l3.within)) ∧ Keeps (fun _ => False) w w' := by
 have HR := H_ (hr.alloc (.cells #[.pointer (some ⟨q0, 0, none⟩)] 26))
 have HM := H_ (Mine.built w w 26 1 [.pointer (some ⟨q0, 0, none⟩)] (Keeps.refl _ w) rfl (by unfold maxLen; omega))
 have H1 := H_ (ptr_one [some ⟨q1, 0, none⟩, some ⟨q2, 0, none⟩, some ⟨q3, 0, none⟩])
 have HNN : Hid (∀ A' c' w', Mine w w' 26 A' (1 + 3) c' ([.pointer (some ⟨q0, 0, none⟩)] ++ [.pointer (some ⟨q1, 0, none⟩), .pointer (some ⟨q2, 0, none⟩), .pointer (some ⟨q3, 0, none⟩)]) → Calls Tryz.prog 27 #[.slice A' (1 + 3) c'] w' fun e w2 => e = .returned .nilIface ∧ w2 = w') := H_ fun A' c' w' hm => by
  have := none_any w' A' (1 + 3) c' [some ⟨q0, 0, none⟩, some ⟨q1, 0, none⟩, some ⟨q2, 0, none⟩, some ⟨q3, 0, none⟩] hm.rd (by omega)
  exact this
 have HA := H_ hr
 have HH := H_ h
 have HMG : Hid (∀ W qa va qb vb a b l, Keeps (fun _ => False) w W → TreeAt (fun _ => True) W qa va a → TreeAt (fun _ => True) W qb vb b → JOk a → JOk b → a.within → b.within → l = b.lay (some a) → Calls Tryz.prog 18 #[.pointer (some ⟨qa, 0, none⟩), .pointer (some ⟨qb, 0, none⟩)] W fun e w' => ∃ p x, e = .returned (.tuple #[p, x]) ∧ Hid (((∃ q v, p = .pointer (some ⟨q, 0, none⟩) ∧ x = .nilIface ∧ TreeAt (fun _ => True) w' q v l ∧ l.within) ∨ (p = .pointer none ∧ x = errE 3 ∧ ¬ l.within)) ∧ Keeps (fun _ => False) W w')) := H_ fun W qa va qb vb a b l _ ha hb ka kb wa wb hl => by
  refine (merge_law ha hb ka kb wa wb l hl).mono ?_
  rintro e w' ⟨p, x, he, h, hk⟩
  exact ⟨p, x, he, H_ ⟨h, hk⟩⟩
 clear hr h
 go_enter Tryz.func19, Tryz.ntmps19
 go_upto_block 0 with (first
  | (at_builtin; refine wpList_append_rd _ rfl (.tmp 12) (.tmp 13) 112 rfl 26 (.pointer none) 8 Tryz.underlying112 infoT rfl _ 1 [.pointer (some ⟨q0, 0, none⟩)] rfl HM.out.1 A 3 c [.pointer (some ⟨q1, 0, none⟩), .pointer (some ⟨q2, 0, none⟩), .pointer (some ⟨q3, 0, none⟩)] rfl HR.out H1.out (by unfold maxLen; omega) (by omega) ?_; intro A' c' w1 hown hg hb; have HM2 := H_ (HM.out.app0 hown hg hb); clear hown hg hb)
  | (go_at_call 27; refine (HNN.out _ _ _ HM2.out).mono ?_; rintro e w2 ⟨rfl, rfl⟩))
 have HK1 := H_ HM2.out.2.1
 go_wp2
 go_loopg [0, 25] 3 (fun gk x t wx => ∃ (i q : Nat) (v : Value) (l : JV), i ≤ 3 ∧ x = .pointer (some ⟨q, 0, none⟩) ∧ t = .int .i64 i ∧ gk = 3 - i ∧ Hid (TreeAt (fun _ => True) wx q v l ∧ Keeps (fun _ => False) w wx ∧ ((i = 0 ∧ l = j0) ∨ (i = 1 ∧ l = l1) ∨ (i = 2 ∧ l = l2) ∨ (i = 3 ∧ l = l3 ∧ l3.within))))
 case atStart => exact ⟨0, q0, v0, j0, by omega, rfl, rfl, rfl, H_ ⟨HH.out.t0.stay HK1.out, HK1.out, .inl ⟨rfl, rfl⟩⟩⟩
 case round =>
  obtain ⟨i, q, v, l, hin, rfl, rfl, hgk, HO⟩ := hrel
  have HGK := H_ hgk
  clear hgk
  by_cases hlt : i < 3
  ·have hrw := HA.out.keep HO.out.2.1 fun _ _ _ h => h
   obtain ⟨g, o, rfl, hc⟩ := hrw.2 (by omega)
   have hcell : ∃ qn vn jn ln, wr.cell? ⟨g, o + i, none⟩ = some (.pointer (some ⟨qn, 0, none⟩)) ∧ Hid (TreeAt (fun _ => True) wr qn vn jn ∧ JOk l ∧ JOk jn ∧ l.within ∧ jn.within ∧ ln = jn.lay (some l) ∧ ((i = 0 ∧ ln = l1) ∨ (i = 1 ∧ ln = l2) ∨ (i = 2 ∧ ln = l3)) ∧ (i < 2 → ln.within)) := by
    have hk := HO.out.2.1
    rcases HO.out.2.2 with ⟨rfl, rfl⟩ | ⟨rfl, rfl⟩ | ⟨rfl, rfl⟩ | ⟨rfl, _⟩
    ·exact ⟨q1, v1, j1, l1, hc 0 (by omega), H_ ⟨HH.out.t1.stay hk, HH.out.ok.1, HH.out.ok.2.1, HH.out.wi.1, HH.out.wi.2.1, HH.out.e1, .inl ⟨rfl, rfl⟩, fun _ => HH.out.wi.2.2.2.2.1⟩⟩
    ·exact ⟨q2, v2, j2, l2, hc 1 (by omega), H_ ⟨HH.out.t2.stay hk, HH.out.ok.2.2.2.2.1, HH.out.ok.2.2.1, HH.out.wi.2.2.2.2.1, HH.out.wi.2.2.1, HH.out.e2, .inr (.inl ⟨rfl, rfl⟩), fun _ => HH.out.wi.2.2.2.2.2⟩⟩
    ·exact ⟨q3, v3, j3, l3, hc 2 (by omega), H_ ⟨HH.out.t3.stay hk, HH.out.ok.2.2.2.2.2, HH.out.ok.2.2.2.1, HH.out.wi.2.2.2.2.2, HH.out.wi.2.2.2.1, HH.out.e3, .inr (.inr ⟨rfl, rfl⟩), fun h => by omega⟩⟩
    omega
   obtain ⟨qn, vn, jn, ln, hcc, HN⟩ := hcell
   have hi0 : (0 : Int) ≤ (i : Int) := by omega
   have hi3 : (i : Int) < 3 := by omega
   clear hrw hc
   go_upto_region 10 with (go_at_call 18; refine (HMG.out _ q v qn vn l jn ln HO.out.2.1 HO.out.1 HN.out.1 HN.out.2.1 HN.out.2.2.1 HN.out.2.2.2.1 HN.out.2.2.2.2.1 HN.out.2.2.2.2.2.1).mono ?_; rintro e w3 ⟨p, x, rfl, H3⟩)
   rcases H3.out.1 with ⟨q5, v5, rfl, rfl, ht, hw⟩ | ⟨rfl, rfl, hw⟩
   ·have HT := H_ (And.intro ht hw)
    clear ht hw
    go_wp2
    go_roundg (3 - (i + 1))
    case measure => rw [HGK.out]; omega
    case rel =>
     refine ⟨i + 1, q5, v5, ln, by omega, rfl, by go_num, rfl, H_ ⟨HT.out.1, HO.out.2.1.trans H3.out.2 fun _ _ h => h, ?_⟩⟩
     rcases HN.out.2.2.2.2.2.2.1 with ⟨rfl, rfl⟩ | ⟨rfl, rfl⟩ | ⟨rfl, rfl⟩
     ·exact .inr (.inl ⟨rfl, rfl⟩)
     ·exact .inr (.inr (.inl ⟨rfl, rfl⟩))
     exact .inr (.inr (.inr ⟨rfl, rfl, HT.out.2⟩))
   ·have hi2 : i = 2 := by
     have h1 := HN.out.2.2.2.2.2.2.2
     rcases Nat.lt_or_ge i 2 with h | h
     ·exact absurd (h1 h) hw
     omega
    have hl3 : ln = l3 := by
     rcases HN.out.2.2.2.2.2.2.1 with ⟨h, _⟩ | ⟨h, _⟩ | ⟨_, h⟩
     ·omega
     ·omega
     exact h
    subst hi2 hl3
    have HW := H_ hw
    clear hw
    unfold errE
    go_wp2
    go_ret2
    exact ⟨.inr ⟨rfl, HW.out⟩, HO.out.2.1.trans H3.out.2 fun _ _ h => h⟩
  obtain rfl : i = 3 := by omega
  have hl : l = l3 ∧ l3.within := by
   rcases HO.out.2.2 with ⟨h, _⟩ | ⟨h, _⟩ | ⟨h, _⟩ | ⟨_, h⟩
   ·omega
   ·omega
   ·omega
   exact h
  have HL := H_ hl
  clear hl
  go_wp2
  go_ret2
  have ht := HO.out.1
  rw [HL.out.1] at ht
  refine ⟨.inl ⟨q, rfl, ⟨v, ht⟩, HL.out.2⟩, HO.out.2.1⟩
end Go.Proofs.YtdmcioghdindfaaGreatDoor
namespace Go.Proofs.YtdmcioghdindfaaGreatDoor
open Go Go.RowKit Go.Aff Go.Json Go.Rng
attribute [local go_sem] Oper.semAt_some
def OAtR (D : Nat → Prop) (w : World) (v : Value) : Option JV → Prop
 | none => v = .nilIface
 | some j => TAtR D w v j
theorem OAtR.stay {D : Nat → Prop} {w w' : World} {v : Value} {o : Option JV} (h : OAtR D w v o) (k : Keeps (fun _ => False) w w') : OAtR D w' v o := by
 cases o with
 | none => exact h
 | some j => exact TAtR.stay h k
theorem OAtR.mono {D C : Nat → Prop} {w : World} {v : Value} {o : Option JV} (h : OAtR D w v o) (hC : ∀ i, D i → i < w.heap.size → C i) : OAtR C w v o := by
 cases o with
 | none => exact h
 | some j => exact TAtR.mono h hC
def KidsAt (D : Nat → Prop) (w : World) (b : Nat) (ks : List ByteArray) (l : List JV) : Prop := ∃ A B c d vs rf, Blk w b 84 [rf, .slice B ks.length d, .slice A l.length c] ∧ Rd w B ks.length (ks.map .string) ∧ InB D B ks.length ∧ Rd w A l.length vs ∧ InB D A l.length ∧ D b ∧
 ∀ (i : Nat) (v : Value) (j : JV), vs[i]? = some v → l[i]? = some j → TAtR D w v j
theorem KidsAt.keep {D F : Nat → Prop} {w w' : World} {b : Nat} {ks : List ByteArray} {l : List JV} (h : KidsAt D w b ks l) (k : Keeps F w w') (hF : ∀ i, D i → ¬ F i) : KidsAt D w' b ks l := by
 obtain ⟨A, B, c, d, vs, rf, h1, h2, h3, h4, h5, h6, h7⟩ := h
 exact ⟨A, B, c, d, vs, rf, k.blk h1 (hF _ h6), h2.keep k (h3.out hF), h3, h4.keep k (h5.out hF), h5, h6, fun i v j g1 g2 => (h7 i v j g1 g2).keep k hF⟩
theorem KidsAt.stay {D : Nat → Prop} {w w' : World} {b : Nat} {ks : List ByteArray} {l : List JV} (h : KidsAt D w b ks l) (k : Keeps (fun _ => False) w w') : KidsAt D w' b ks l := h.keep k fun _ _ h => h
theorem KidsAt.mono {D C : Nat → Prop} {w : World} {b : Nat} {ks : List ByteArray} {l : List JV} (h : KidsAt D w b ks l) (hC : ∀ i, D i → i < w.heap.size → C i) : KidsAt C w b ks l := by
 obtain ⟨A, B, c, d, vs, rf, h1, h2, h3, h4, h5, h6, h7⟩ := h
 exact ⟨A, B, c, d, vs, rf, h1, h2, Rd.inB h2 h3 hC, h4, Rd.inB h4 h5 hC, hC _ h6 h1.lt, fun i v j g1 g2 => (h7 i v j g1 g2).mono hC⟩
theorem KidsAt.keys {D : Nat → Prop} {w : World} {b : Nat} {ks : List ByteArray} {l : List JV} (h : KidsAt D w b ks l) : ∃ B d rf a3, Blk w b 84 [rf, .slice B ks.length d, a3] ∧ Rd w B ks.length (ks.map .string) := by
 obtain ⟨A, B, c, d, vs, rf, h1, h2, _⟩ := h
 exact ⟨_, _, _, _, h1, h2⟩
theorem TAtR.kids {D : Nat → Prop} {w : World} {b : Nat} {ks : List ByteArray} {l : List JV} (h : TAtR D w (.iface 73 (.pointer (some ⟨b, 0, none⟩))) (.obj ks l)) : KidsAt D w b ks l := by
 cases h with
 | @obj b A B c d vs ks l rf hDb hb hrf hk2 hok hr ho hl => exact ⟨_, _, _, _, _, _, hb, hk2, hok, hr, ho, hDb, hl⟩
theorem membersR_any {D : Nat → Prop} (w : World) (v : Value) (o : Option JV) (h : OAtR D w v o) : Calls Tryz.prog 31 #[v] w fun e w' => ∃ b, e = .returned (.pointer (some ⟨b, 0, none⟩)) ∧ KidsAt (fun i => D i ∨ w.heap.size ≤ i) w' b (mem2 o).1 (mem2 o).2 ∧ Keeps (fun _ => False) w w' := by
 have HNW : Hid (KidsAt (fun i => D i ∨ w.heap.size ≤ i) (w.alloc (.cells #[.nilIface, .slice none 0 0, .slice none 0 0] 84)) w.heap.size [] [] ∧ Keeps (fun _ => False) w (w.alloc (.cells #[.nilIface, .slice none 0 0, .slice none 0 0] 84))) :=
  H_ ⟨⟨none, none, 0, 0, [], .nilIface, Blk.new w 84 [.nilIface, .slice none 0 0, .slice none 0 0], ⟨rfl, fun h => absurd h (Nat.lt_irrefl 0)⟩, fun h => absurd h (Nat.lt_irrefl 0), ⟨rfl, fun h => absurd h (Nat.lt_irrefl 0)⟩, fun h => absurd h (Nat.lt_irrefl 0), .inr (Nat.le_refl _), fun i v j h => by simp at h⟩, (Keeps.refl (fun _ => False) w).alloc _⟩
 have fin : ∀ A : Value, A = v → (∀ W, (Instr.typeAssert A 71 73 true).run Tryz.prog W = .ok (.tuple #[.pointer none, .bool false]) W) → mem2 o = ([], []) → Calls Tryz.prog 31 #[v] w fun e w' => ∃ b, e = .returned (.pointer (some ⟨b, 0, none⟩)) ∧ KidsAt (fun i => D i ∨ w.heap.size ≤ i) w' b (mem2 o).1 (mem2 o).2 ∧ Keeps (fun _ => False) w w' := fun A hA ha hm => by
  rw [hm]
  rw [hA] at ha
  clear hm hA h
  go_enter Tryz.func31, Tryz.ntmps31
  go_wp2
  go_ret
  exact ⟨_, rfl, HNW.out.1, HNW.out.2⟩
 cases o with
 | none => exact fin .nilIface h.symm as_nil_mobj rfl
 | some j =>
  have h' : TAtR D w v j := h
  cases h' with
  | @whole it j hj hs => exact fin _ rfl (as_whole_mobj _) (by cases j <;> first | rfl | exact absurd rfl hs)
  | @obj b A B c d vs ks l rf hDb hb hrf hk2 hok hr ho hl =>
   have HT : Hid (TAtR D w (.iface 73 (.pointer (some ⟨b, 0, none⟩))) (.obj ks l)) := H_ h
   have HA := as_mobj_mobj (.pointer (some ⟨b, 0, none⟩))
   clear h fin hDb hb hrf hk2 hok hr ho hl
   go_enter Tryz.func31, Tryz.ntmps31
   go_wp2
   go_ret
   exact ⟨_, rfl, (HT.out.mono fun i hi _ => .inl hi).kids, Keeps.refl _ _⟩
theorem findR_any {D : Nat → Prop} (w : World) (b : Nat) (ks : List ByteArray) (l : List JV) (h : KidsAt D w b ks l) (hp : ks.Pairwise ltS) (hright : ∀ s ∈ ks, rightS s = true ∧ s.size ≤ 1152921504606846976) (key : ByteArray) (hkey : rightS key = true ∧ key.size ≤ 1152921504606846976) (hn : ks.length ≤ 1048576) :
  Calls Tryz.prog 63 #[.pointer (some ⟨b, 0, none⟩), .string key] w (FindPost w ks key) := by
 obtain ⟨A, B, c, d, vs, rf, hb, hk2, _⟩ := h
 have HS := H_ (search_any w B ks.length d ks hk2 hp hright key hkey hn)
 obtain ⟨n, hnn⟩ : ∃ n, n = ks.length := ⟨_, rfl⟩
 rw [← hnn] at HS hb
 have c1 := hb.cell 1
 clear hb hk2 hp hright hkey hn hnn
 unfold FindPost at HS ⊢
 go_enter Tryz.func63, Tryz.ntmps63
 go_wp2_with (go_at_call 106; refine HS.out.mono ?_; rintro e w2 ⟨i, f, rfl, h2⟩; have H2 := H_ h2; clear h2)
 go_ret2
 exact ⟨i, f, rfl, H2.out⟩
theorem getR_any {D : Nat → Prop} (w : World) (b : Nat) (ks : List ByteArray) (l : List JV) (h : KidsAt D w b ks l) (hl : ks.length = l.length) (hp : ks.Pairwise ltS) (hright : ∀ s ∈ ks, rightS s = true ∧ s.size ≤ 1152921504606846976) (key : ByteArray) (hkey : rightS key = true ∧ key.size ≤ 1152921504606846976) (hn : ks.length ≤ 1048576) :
  Calls Tryz.prog 33 #[.pointer (some ⟨b, 0, none⟩), .string key] w fun e w' => ∃ v, e = .returned v ∧ OAtR D w' v (atK ks l key) ∧ Keeps (fun _ => False) w w' := by
 have HF := H_ (findR_any w b ks l h hp hright key hkey hn)
 unfold FindPost at HF
 have HP := H_ hp
 obtain ⟨A, B, c, d, vs, rf, hb, hk2, _, hr, _, _, hm⟩ := h
 have HB := H_ hb
 have HR := H_ hr
 have HM := H_ hm
 have HL := H_ hl
 clear hb hk2 hr hm hl hp hright hkey hn
 go_enter Tryz.func33, Tryz.ntmps33
 go_upto_region 2 with (go_at_call 63; refine HF.out.mono ?_; rintro e w2 ⟨i, f, rfl, h2⟩; have H2 := H_ h2; clear h2)
 cases f with
 | false =>
  have HG : Hid (atK ks l key = none) := H_ (getJ_none (H2.out.2.1 rfl))
  go_wp2
  go_ret
  exact ⟨_, rfl, by rw [HG.out]; rfl, H2.out.2.2⟩
 | true =>
  have hki := H2.out.1 rfl
  have hin : i < l.length := by rw [← HL.out]; exact (List.getElem?_eq_some_iff.1 hki).1
  have HG : Hid (atK ks l key = l[i]?) := H_ (getJ_some HP.out hki)
  obtain ⟨v, hv⟩ : ∃ v, vs[i]? = some v := ⟨_, List.getElem?_eq_getElem (by rw [HR.out.1]; exact hin)⟩
  obtain ⟨x, hx⟩ : ∃ x, l[i]? = some x := ⟨_, List.getElem?_eq_getElem hin⟩
  have htx := (HM.out i v x hv hx).stay H2.out.2.2
  obtain ⟨T, y, hvy⟩ := htx.iface
  subst hvy
  obtain ⟨g, o, hA, hc⟩ := (HR.out.keep H2.out.2.2 (fun _ _ _ h => h)).2 (by omega)
  subst hA
  have hcv := hc i hin
  rw [hv] at hcv
  have c2 := (H2.out.2.2.blk HB.out (fun h => h)).cell 2
  have HT := H_ (And.intro htx hx)
  obtain ⟨n, hnn⟩ : ∃ n, n = l.length := ⟨_, rfl⟩
  rw [← hnn] at c2 hin
  have hi63 : (0 : Int) ≤ (i : Int) := by omega
  have hiN : (i : Int) < (n : Int) := by omega
  clear hki hv hx htx hc hnn
  go_wp2
  go_ret
  exact ⟨_, rfl, by rw [HG.out, HT.out.2]; exact HT.out.1, H2.out.2.2⟩
end Go.Proofs.YtdmcioghdindfaaGreatDoor
namespace Go.Proofs.YtdmcioghdindfaaGreatDoor
open Go Go.RowKit Go.Aff Go.Json
theorem len_any {D : Nat → Prop} {w : World} {v : Value} {j : JV} (h : JAt D w v j) (W : World) (hW : Keeps (fun _ => False) w W) : Calls Tryz.prog 47 #[.agg #[v]] W fun e w' => e = .returned (.int .i64 j.items.length) ∧ Keeps (fun _ => False) W w' := by
 obtain ⟨A, c, vs, hi, hc⟩ := items_inv h
 obtain ⟨T, x, rfl⟩ := h.iface
 obtain ⟨n, hn⟩ : ∃ n, n = j.items.length := ⟨_, rfl⟩
 rw [← hn] at hc ⊢
 have c0 := (Blk.new W 81 [.iface T x]).cell 0
 have HK := H_ ((Keeps.refl (fun _ => False) W).alloc (.cells #[.iface T x] 81))
 have HC := H_ (hc (W.alloc (.cells #[.iface T x] 81)) (hW.alloc _))
 clear hc hi h hn
 go_enter Tryz.func47, Tryz.ntmps47
 go_wp2_with (go_at_call 74; refine HC.out.mono ?_; rintro e w2 ⟨rfl, hk2⟩; have HK2 := H_ hk2; clear hk2)
 go_ret
 exact ⟨rfl, HK.out.trans HK2.out (fun _ _ h => h)⟩
end Go.Proofs.YtdmcioghdindfaaGreatDoor
