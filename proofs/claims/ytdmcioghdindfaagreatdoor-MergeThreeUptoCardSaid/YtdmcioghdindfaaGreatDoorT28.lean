/- Texts. -/
import Derived.Test.YtdmcioghdindfaaGreatDoorT27
set_option linter.unusedSimpArgs false
set_option maxRecDepth 100000
set_option maxHeartbeats 4000000
namespace Go.Proofs.YtdmcioghdindfaaGreatDoor
open Go Go.RowKit Go.Aff Go.Json
def bulkTo (l : List StepV) (i : Nat) : Nat := sumN ((l.take i).map bulkS)
theorem bulkTo_next {l : List StepV} {i : Nat} {s : StepV} (h : l[i]? = some s) : bulkTo l (i + 1) = bulkTo l i + bulkS s := by
 unfold bulkTo
 rw [List.map_take, List.map_take]
 exact sumN_take (by rw [List.getElem?_map, h]; rfl)
theorem bulkTo_le {l : List StepV} (h : Modest l) (i : Nat) : bulkTo l i ≤ 1048576 := by
 unfold bulkTo
 rw [List.map_take]
 exact Nat.le_trans (sumN_pre _ i) h.all
theorem beyond_any (w : World) (A : Option Addr) (n c : Nat) (css : List (List Value)) (l : List StepV) (hS : StepsIn w A n css l) (hM : Modest l) :
  Calls Tryz.prog 7 #[.slice A n c] w fun e w' => e = .returned (.bool false) ∧ Keeps (fun _ => False) w w' := by
 have HS := H_ hS
 have HM := H_ hM
 have hn : n ≤ 1048576 := by rw [← hS.len]; exact hM.len
 clear hS hM
 go_enter Tryz.func7, Tryz.ntmps7
 go_wp2
 go_loopg [3, 4] n (fun gk y t wx => ∃ (i z : Nat), i ≤ n ∧ y = .int .i64 z ∧ t = .int .i64 i ∧ gk = n - i ∧ Hid (z = bulkTo l i) ∧ Hid (Keeps (fun _ => False) w wx))
 case atStart => exact ⟨0, 0, by omega, rfl, rfl, rfl, H_ (by simp [bulkTo, sumN]), H_ (Keeps.refl _ _)⟩
 case round =>
  obtain ⟨i, z, hin, rfl, rfl, hgk, HZ, HK⟩ := hrel
  have HGK := H_ hgk
  clear hgk
  by_cases hlt : i < n
  ·have hI := HS.out.stay HK.out
   obtain ⟨s, hs⟩ : ∃ s, l[i]? = some s := ⟨_, List.getElem?_eq_getElem (by rw [hI.len]; exact hlt)⟩
   obtain ⟨B, d, hcs, hrk, _⟩ := hI.at_ i s hs
   obtain ⟨g, o, hA, hc⟩ := hI.rd.2 (by omega)
   subst hA
   have hrg := item_range hc hlt (fun c hc => (hI.six c hc).1) hcs
   obtain ⟨kl, hkl⟩ : ∃ kl, kl = s.keys.length := ⟨_, rfl⟩
   obtain ⟨tl, htl⟩ : ∃ tl, tl = s.text.size := ⟨_, rfl⟩
   have HX : Hid (∀ W, Keeps (fun _ => False) wr W → W.cell? ⟨g, o + i * 6 + 3, none⟩ = some (.string s.text) ∧ W.cell? ⟨g, o + i * 6 + 5, none⟩ = some (.slice B kl d)) := H_ fun W hW => ⟨cell_keep hW (hrg 3 _ rfl), cell_keep hW (by rw [hkl]; exact hrg 5 _ rfl)⟩
   have HRK : Hid (Rd wr B kl (s.keys.map .string)) := H_ (by rw [hkl]; exact hrk)
   have HNX : Hid (bulkTo l (i + 1) = z + (1 + tl + kl + byF s.keys) ∧ z + (1 + tl + kl + byF s.keys) ≤ 1048576) := H_ (by
    have h1 := bulkTo_next hs
    have h2 := bulkTo_le HM.out (i + 1)
    rw [h1, ← HZ.out] at h2
    rw [h1, ← HZ.out]
    unfold bulkS at h2 ⊢
    rw [htl, hkl]
    exact ⟨rfl, h2⟩)
   have hbd : z + (1 + tl + kl) ≤ 1048576 := by have := HNX.out.2; omega
   have hw1 : IntKind.i64.wrap (1 + (tl : Int)) = 1 + (tl : Int) := IntWalk.i64_in _ (by omega)
   have hw2 : IntKind.i64.wrap (1 + (tl : Int) + (kl : Int)) = 1 + (tl : Int) + (kl : Int) := IntWalk.i64_in _ (by omega)
   have hw3 : IntKind.i64.wrap ((z : Int) + (1 + (tl : Int) + (kl : Int))) = ((z + (1 + tl + kl) : Nat) : Int) := by rw [IntWalk.i64_in _ (by omega)]; omega
   have hi0 : (0 : Int) ≤ (i : Int) := by omega
   have hiN : (i : Int) < (n : Int) := by omega
   have HKL := H_ hkl
   have htl' := htl.symm
   clear hI hs hcs hc hrg hrk hkl htl
   go_upto_region 5 with fail
   refine wp_region_held_drew (S := Keeps (fun _ => False) wr) (by kernel_rfl) (Keeps.refl _ _).drew (fun h_ => ?_)
   refine tI 0 12 h_ ?_
   try simp only [pu]
   refine tI 1 13 h_ ?_
   try simp only [pu]
   refine tI 2 14 h_ ?_
   try simp only [pu]
   refine tI 3 15 h_ ?_
   try simp only [pu]
   refine tI 4 16 h_ ?_
   try simp only [pu]
   refine tI 5 17 h_ ?_ (hy := .inl ⟨by rfl, by intro w' hSw; have cv := (HX.out _ hSw).1; go_simp; first | done | rfl⟩)
   try simp only [pu]
   refine tI 6 18 h_ ?_
   try simp only [pu]
   refine tI 7 19 h_ ?_
   try simp only [pu]
   refine tI 8 20 h_ ?_
   try simp only [pu]
   refine tI 9 21 h_ ?_
   try simp only [pu]
   refine tI 10 22 h_ ?_
   try simp only [pu]
   refine tI 11 23 h_ ?_
   try simp only [pu]
   refine tI 12 24 h_ ?_ (hy := .inl ⟨by rfl, by intro w' hSw; have cv := (HX.out _ hSw).2; go_simp; first | done | rfl⟩)
   try simp only [pu]
   refine tI 13 25 h_ ?_
   try simp only [pu]
   refine tI 14 26 h_ ?_
   try simp only [pu]
   refine tI 15 27 h_ ?_
   try simp only [pu]
   refine tI 16 3 h_ ?_
   try simp only [pu]
   refine wpAnyH_done (by kernel_rfl) ?_ _
   have HK5 := H_ h_
   clear h_ hw1 hw2 hw3 htl'
   obtain ⟨z5, hz5⟩ : ∃ z5, z5 = z + (1 + tl + kl) := ⟨_, rfl⟩
   have hzc : (z : Int) + (1 + (tl : Int) + (kl : Int)) = (z5 : Int) := by omega
   rw [hzc]
   have HZ5 := H_ hz5
   clear hz5 hbd hzc
   go_upto_block 2 with fail
   go_wp2
   go_loopg [3, 5] kl (fun gk y t wx => ∃ (q v : Nat), q ≤ kl ∧ y = .int .i64 v ∧ t = .int .i64 q ∧ gk = kl - q ∧ Hid (v = z5 + byF (s.keys.take q)) ∧ Hid (Keeps (fun _ => False) wr wx))
   case atStart => exact ⟨0, z5, by omega, rfl, rfl, rfl, H_ (by simp [byF, sumN]), HK5⟩
   case round =>
    obtain ⟨q, v, hqk, rfl, rfl, hgk2, HV, HKQ⟩ := hrel
    have HGK2 := H_ hgk2
    clear hgk2
    have hvb : v ≤ 1048576 := by
     have h1 := HV.out
     have h2 := byF_le s.keys q
     have h3 := HNX.out.2
     have h4 := HZ5.out
     omega
    have hkb : kl ≤ 1048576 := by have := HNX.out.2; omega
    obtain ⟨x3, x5⟩ := HX.out _ HKQ.out
    have d1 : decide ((v : Int) < 2147483648) = true := decide_eq_true (by omega)
    by_cases hlq : q < kl
    ·obtain ⟨g3, o3, t, hB, hkt, hck⟩ := textAt (HRK.out.keep HKQ.out (fun _ _ _ h => h)) hlq
     subst hB
     obtain ⟨ts, hts⟩ : ∃ ts, ts = t.size := ⟨_, rfl⟩
     have hts' := hts.symm
     have HNV : Hid (v + ts = z5 + byF (s.keys.take (q + 1)) ∧ v + ts ≤ 1048576) := H_ (by
      have h1 := byF_take hkt
      have h2 := byF_le s.keys (q + 1)
      have h3 := HNX.out.2
      have h4 := HZ5.out
      have h5 := HV.out
      rw [hts]
      exact ⟨by omega, by omega⟩)
     have hvt := HNV.out.2
     clear hkt hts
     go_wp2
     go_roundg (kl - (q + 1))
     case measure => rw [HGK2.out]; omega
     case rel => exact ⟨q + 1, v + ts, by omega, by go_num, by go_num, rfl, H_ HNV.out.1, HKQ⟩
    obtain rfl : q = kl := by omega
    have d2 : decide ((2147483648 : Int) ≤ (v : Int)) = false := decide_eq_false (by omega)
    have HE : Hid (v = bulkTo l (i + 1)) := H_ (by
     rw [HV.out, HNX.out.1, HZ5.out, List.take_of_length_le (by have := HKL.out; omega)]
     omega)
    go_wp2
    go_roundg (n - (i + 1))
    case measure => rw [HGK.out]; omega
    case rel => exact ⟨i + 1, v, by omega, rfl, by go_num, rfl, HE, H_ (HK.out.trans HKQ.out (fun _ _ h => h))⟩
  obtain rfl : i = n := by omega
  go_wp2
  go_ret
  exact ⟨rfl, HK.out⟩
end Go.Proofs.YtdmcioghdindfaaGreatDoor
namespace Go.Proofs.YtdmcioghdindfaaGreatDoor
open Go Go.RowKit Go.Aff Go.Json
attribute [local go_sem] Oper.semAt_some
def MadeAny (w : World) (A : Option Addr) (n c : Nat) (o : Bool) : Prop := ∀ W, Keeps (fun _ => False) w W → Calls Tryz.prog 8 #[.slice A n c] W fun e w' => ∃ t u0 u1 u2 u3 A4 m4 c4 A5 m5 c5, e = .returned (.tuple #[.pointer t, .agg #[.int .i64 u0, .bool u1, .int .u64 u2, .string u3, .slice A4 m4 c4, .slice A5 m5 c5], .bool o, .bool true]) ∧ Hid (Keeps (fun _ => False) w w')
theorem made_bad {w : World} {A : Option Addr} {n c : Nat} {css : List (List Value)} {l : List StepV} (hS : StepsIn w A n css l) (hM : Modest l) {er : Int × Option Nat} (hb : buildF l = .inl er) : MadeAny w A n c false := fun W hW => (lmade_any W A n c css l (hS.stay hW) hM).mono fun e w' h => by
 unfold LMadePost at h
 rw [hb] at h
 exact ⟨none, _, _, _, _, _, _, _, _, _, _, h.2, H_ (hW.trans h.1 fun _ _ h => h)⟩
def MadeOne (w : World) (A : Option Addr) (n c : Nat) (j : JV) : Prop := ∀ W, Keeps (fun _ => False) w W → Calls Tryz.prog 8 #[.slice A n c] W fun e w' => ∃ q v u0 u1 u2 u3 A4 m4 c4 A5 m5 c5, e = .returned (.tuple #[.pointer (some ⟨q, 0, none⟩), .agg #[.int .i64 u0, .bool u1, .int .u64 u2, .string u3, .slice A4 m4 c4, .slice A5 m5 c5], .bool true, .bool true]) ∧ Hid (TreeAt (fun _ => True) w' q v j ∧ RAt (fun _ => True) w' [.int .i64 u0, .bool u1, .int .u64 u2, .string u3, .slice A4 m4 c4, .slice A5 m5 c5] j ∧ Keeps (fun _ => False) w w' ∧ Keeps (fun _ => False) W w')
theorem made_good {w : World} {A : Option Addr} {n c : Nat} {css : List (List Value)} {l : List StepV} (hS : StepsIn w A n css l) (hM : Modest l) {j : JV} (hb : buildF l = .inr j) : MadeOne w A n c j := fun W hW => (lmade_any W A n c css l (hS.stay hW) hM).mono fun e w' h => by
 unfold LMadePost at h
 rw [hb] at h
 obtain ⟨hk, q, v, rv, he, ht, hr⟩ := h
 obtain ⟨A4, c4, A5, c5, _, rfl, _⟩ := hr.form
 exact ⟨q, v, _, _, _, _, A4, _, c4, A5, _, c5, he, H_ ⟨⟨trivial, ht.2.1, ht.2.2.mono fun _ _ _ => trivial⟩, hr.mono fun _ _ _ => trivial, hW.trans hk fun _ _ h => h, hk⟩⟩
theorem MadeOne.any {w : World} {A : Option Addr} {n c : Nat} {j : JV} (h : MadeOne w A n c j) : MadeAny w A n c true := fun W hW => (h W hW).mono fun e w' hh => by
 obtain ⟨q, v, u0, u1, u2, u3, A4, m4, c4, A5, m5, c5, he, hx⟩ := hh
 exact ⟨_, _, _, _, _, _, _, _, _, _, _, he, H_ hx.out.2.2.1⟩
theorem TreeAt.true {D : Nat → Prop} {w : World} {q : Nat} {v : Value} {j : JV} (h : TreeAt D w q v j) : TreeAt (fun _ => True) w q v j := ⟨trivial, h.2.1, h.2.2.mono fun _ _ _ => trivial⟩
end Go.Proofs.YtdmcioghdindfaaGreatDoor
namespace Go.Proofs.YtdmcioghdindfaaGreatDoor
open Go Go.RowKit Go.Aff Go.Json Go.Rng
attribute [local go_sem] Oper.semAt_some
def OAtR (D : Nat → Prop) (w : World) (v : Value) : Option JV → Prop
 | none => v = .nilIface
 | some j => TAtR D w v j
theorem OAtR.stay {D : Nat → Prop} {w w' : World} {v : Value} {o : Option JV} (h : OAtR D w v o) (k : Keeps (fun _ => False) w w') : OAtR D w' v o := by
 cases o with
 | none => exact h
 | some j => exact TAtR.stay h k
theorem OAtR.mono {D C : Nat → Prop} {w : World} {v : Value} {o : Option JV} (h : OAtR D w v o) (hC : ∀ i, D i → i < w.heap.size → C i) : OAtR C w v o := by
 cases o with
 | none => exact h
 | some j => exact TAtR.mono h hC
def KidsAt (D : Nat → Prop) (w : World) (b : Nat) (ks : List ByteArray) (l : List JV) : Prop := ∃ A B c d vs rf, Blk w b 84 [rf, .slice B ks.length d, .slice A l.length c] ∧ Rd w B ks.length (ks.map .string) ∧ InB D B ks.length ∧ Rd w A l.length vs ∧ InB D A l.length ∧ D b ∧
 ∀ (i : Nat) (v : Value) (j : JV), vs[i]? = some v → l[i]? = some j → TAtR D w v j
theorem KidsAt.keep {D F : Nat → Prop} {w w' : World} {b : Nat} {ks : List ByteArray} {l : List JV} (h : KidsAt D w b ks l) (k : Keeps F w w') (hF : ∀ i, D i → ¬ F i) : KidsAt D w' b ks l := by
 obtain ⟨A, B, c, d, vs, rf, h1, h2, h3, h4, h5, h6, h7⟩ := h
 exact ⟨A, B, c, d, vs, rf, k.blk h1 (hF _ h6), h2.keep k (h3.out hF), h3, h4.keep k (h5.out hF), h5, h6, fun i v j g1 g2 => (h7 i v j g1 g2).keep k hF⟩
theorem KidsAt.stay {D : Nat → Prop} {w w' : World} {b : Nat} {ks : List ByteArray} {l : List JV} (h : KidsAt D w b ks l) (k : Keeps (fun _ => False) w w') : KidsAt D w' b ks l := h.keep k fun _ _ h => h
theorem KidsAt.mono {D C : Nat → Prop} {w : World} {b : Nat} {ks : List ByteArray} {l : List JV} (h : KidsAt D w b ks l) (hC : ∀ i, D i → i < w.heap.size → C i) : KidsAt C w b ks l := by
 obtain ⟨A, B, c, d, vs, rf, h1, h2, h3, h4, h5, h6, h7⟩ := h
 exact ⟨A, B, c, d, vs, rf, h1, h2, Rd.inB h2 h3 hC, h4, Rd.inB h4 h5 hC, hC _ h6 h1.lt, fun i v j g1 g2 => (h7 i v j g1 g2).mono hC⟩
theorem KidsAt.keys {D : Nat → Prop} {w : World} {b : Nat} {ks : List ByteArray} {l : List JV} (h : KidsAt D w b ks l) : ∃ B d rf a3, Blk w b 84 [rf, .slice B ks.length d, a3] ∧ Rd w B ks.length (ks.map .string) := by
 obtain ⟨A, B, c, d, vs, rf, h1, h2, _⟩ := h
 exact ⟨_, _, _, _, h1, h2⟩
theorem TAtR.kids {D : Nat → Prop} {w : World} {b : Nat} {ks : List ByteArray} {l : List JV} (h : TAtR D w (.iface 73 (.pointer (some ⟨b, 0, none⟩))) (.obj ks l)) : KidsAt D w b ks l := by
 cases h with
 | @obj b A B c d vs ks l rf hDb hb hrf hk2 hok hr ho hl => exact ⟨_, _, _, _, _, _, hb, hk2, hok, hr, ho, hDb, hl⟩
theorem membersR_any {D : Nat → Prop} (w : World) (v : Value) (o : Option JV) (h : OAtR D w v o) : Calls Tryz.prog 31 #[v] w fun e w' => ∃ b, e = .returned (.pointer (some ⟨b, 0, none⟩)) ∧ KidsAt (fun i => D i ∨ w.heap.size ≤ i) w' b (mem2 o).1 (mem2 o).2 ∧ Keeps (fun _ => False) w w' := by
 have HNW : Hid (KidsAt (fun i => D i ∨ w.heap.size ≤ i) (w.alloc (.cells #[.nilIface, .slice none 0 0, .slice none 0 0] 84)) w.heap.size [] [] ∧ Keeps (fun _ => False) w (w.alloc (.cells #[.nilIface, .slice none 0 0, .slice none 0 0] 84))) :=
  H_ ⟨⟨none, none, 0, 0, [], .nilIface, Blk.new w 84 [.nilIface, .slice none 0 0, .slice none 0 0], ⟨rfl, fun h => absurd h (Nat.lt_irrefl 0)⟩, fun h => absurd h (Nat.lt_irrefl 0), ⟨rfl, fun h => absurd h (Nat.lt_irrefl 0)⟩, fun h => absurd h (Nat.lt_irrefl 0), .inr (Nat.le_refl _), fun i v j h => by simp at h⟩, (Keeps.refl (fun _ => False) w).alloc _⟩
 have fin : ∀ A : Value, A = v → (∀ W, (Instr.typeAssert A 71 73 true).run Tryz.prog W = .ok (.tuple #[.pointer none, .bool false]) W) → mem2 o = ([], []) → Calls Tryz.prog 31 #[v] w fun e w' => ∃ b, e = .returned (.pointer (some ⟨b, 0, none⟩)) ∧ KidsAt (fun i => D i ∨ w.heap.size ≤ i) w' b (mem2 o).1 (mem2 o).2 ∧ Keeps (fun _ => False) w w' := fun A hA ha hm => by
  rw [hm]
  rw [hA] at ha
  clear hm hA h
  go_enter Tryz.func31, Tryz.ntmps31
  go_wp2
  go_ret
  exact ⟨_, rfl, HNW.out.1, HNW.out.2⟩
 cases o with
 | none => exact fin .nilIface h.symm as_nil_mobj rfl
 | some j =>
  have h' : TAtR D w v j := h
  cases h' with
  | @whole it j hj hs => exact fin _ rfl (as_whole_mobj _) (by cases j <;> first | rfl | exact absurd rfl hs)
  | @obj b A B c d vs ks l rf hDb hb hrf hk2 hok hr ho hl =>
   have HT : Hid (TAtR D w (.iface 73 (.pointer (some ⟨b, 0, none⟩))) (.obj ks l)) := H_ h
   have HA := as_mobj_mobj (.pointer (some ⟨b, 0, none⟩))
   clear h fin hDb hb hrf hk2 hok hr ho hl
   go_enter Tryz.func31, Tryz.ntmps31
   go_wp2
   go_ret
   exact ⟨_, rfl, (HT.out.mono fun i hi _ => .inl hi).kids, Keeps.refl _ _⟩
theorem findR_any {D : Nat → Prop} (w : World) (b : Nat) (ks : List ByteArray) (l : List JV) (h : KidsAt D w b ks l) (hp : ks.Pairwise ltS) (hright : ∀ s ∈ ks, rightS s = true ∧ s.size ≤ 1152921504606846976) (key : ByteArray) (hkey : rightS key = true ∧ key.size ≤ 1152921504606846976) (hn : ks.length ≤ 1048576) :
  Calls Tryz.prog 63 #[.pointer (some ⟨b, 0, none⟩), .string key] w (FindPost w ks key) := by
 obtain ⟨A, B, c, d, vs, rf, hb, hk2, _⟩ := h
 have HS := H_ (search_any w B ks.length d ks hk2 hp hright key hkey hn)
 obtain ⟨n, hnn⟩ : ∃ n, n = ks.length := ⟨_, rfl⟩
 rw [← hnn] at HS hb
 have c1 := hb.cell 1
 clear hb hk2 hp hright hkey hn hnn
 unfold FindPost at HS ⊢
 go_enter Tryz.func63, Tryz.ntmps63
 go_wp2_with (go_at_call 106; refine HS.out.mono ?_; rintro e w2 ⟨i, f, rfl, h2⟩; have H2 := H_ h2; clear h2)
 go_ret2
 exact ⟨i, f, rfl, H2.out⟩
theorem getR_any {D : Nat → Prop} (w : World) (b : Nat) (ks : List ByteArray) (l : List JV) (h : KidsAt D w b ks l) (hl : ks.length = l.length) (hp : ks.Pairwise ltS) (hright : ∀ s ∈ ks, rightS s = true ∧ s.size ≤ 1152921504606846976) (key : ByteArray) (hkey : rightS key = true ∧ key.size ≤ 1152921504606846976) (hn : ks.length ≤ 1048576) :
  Calls Tryz.prog 33 #[.pointer (some ⟨b, 0, none⟩), .string key] w fun e w' => ∃ v, e = .returned v ∧ OAtR D w' v (atK ks l key) ∧ Keeps (fun _ => False) w w' := by
 have HF := H_ (findR_any w b ks l h hp hright key hkey hn)
 unfold FindPost at HF
 have HP := H_ hp
 obtain ⟨A, B, c, d, vs, rf, hb, hk2, _, hr, _, _, hm⟩ := h
 have HB := H_ hb
 have HR := H_ hr
 have HM := H_ hm
 have HL := H_ hl
 clear hb hk2 hr hm hl hp hright hkey hn
 go_enter Tryz.func33, Tryz.ntmps33
 go_upto_region 2 with (go_at_call 63; refine HF.out.mono ?_; rintro e w2 ⟨i, f, rfl, h2⟩; have H2 := H_ h2; clear h2)
 cases f with
 | false =>
  have HG : Hid (atK ks l key = none) := H_ (getJ_none (H2.out.2.1 rfl))
  go_wp2
  go_ret
  exact ⟨_, rfl, by rw [HG.out]; rfl, H2.out.2.2⟩
 | true =>
  have hki := H2.out.1 rfl
  have hin : i < l.length := by rw [← HL.out]; exact (List.getElem?_eq_some_iff.1 hki).1
  have HG : Hid (atK ks l key = l[i]?) := H_ (getJ_some HP.out hki)
  obtain ⟨v, hv⟩ : ∃ v, vs[i]? = some v := ⟨_, List.getElem?_eq_getElem (by rw [HR.out.1]; exact hin)⟩
  obtain ⟨x, hx⟩ : ∃ x, l[i]? = some x := ⟨_, List.getElem?_eq_getElem hin⟩
  have htx := (HM.out i v x hv hx).stay H2.out.2.2
  obtain ⟨T, y, hvy⟩ := htx.iface
  subst hvy
  obtain ⟨g, o, hA, hc⟩ := (HR.out.keep H2.out.2.2 (fun _ _ _ h => h)).2 (by omega)
  subst hA
  have hcv := hc i hin
  rw [hv] at hcv
  have c2 := (H2.out.2.2.blk HB.out (fun h => h)).cell 2
  have HT := H_ (And.intro htx hx)
  obtain ⟨n, hnn⟩ : ∃ n, n = l.length := ⟨_, rfl⟩
  rw [← hnn] at c2 hin
  have hi63 : (0 : Int) ≤ (i : Int) := by omega
  have hiN : (i : Int) < (n : Int) := by omega
  clear hki hv hx htx hc hnn
  go_wp2
  go_ret
  exact ⟨_, rfl, by rw [HG.out, HT.out.2]; exact HT.out.1, H2.out.2.2⟩
end Go.Proofs.YtdmcioghdindfaaGreatDoor
namespace Go.Proofs.YtdmcioghdindfaaGreatDoor
open Go Go.RowKit Go.Aff Go.Json
theorem len_any {D : Nat → Prop} {w : World} {v : Value} {j : JV} (h : JAt D w v j) (W : World) (hW : Keeps (fun _ => False) w W) : Calls Tryz.prog 47 #[.agg #[v]] W fun e w' => e = .returned (.int .i64 j.items.length) ∧ Keeps (fun _ => False) W w' := by
 obtain ⟨A, c, vs, hi, hc⟩ := items_inv h
 obtain ⟨T, x, rfl⟩ := h.iface
 obtain ⟨n, hn⟩ : ∃ n, n = j.items.length := ⟨_, rfl⟩
 rw [← hn] at hc ⊢
 have c0 := (Blk.new W 81 [.iface T x]).cell 0
 have HK := H_ ((Keeps.refl (fun _ => False) W).alloc (.cells #[.iface T x] 81))
 have HC := H_ (hc (W.alloc (.cells #[.iface T x] 81)) (hW.alloc _))
 clear hc hi h hn
 go_enter Tryz.func47, Tryz.ntmps47
 go_wp2_with (go_at_call 74; refine HC.out.mono ?_; rintro e w2 ⟨rfl, hk2⟩; have HK2 := H_ hk2; clear hk2)
 go_ret
 exact ⟨rfl, HK.out.trans HK2.out (fun _ _ h => h)⟩
end Go.Proofs.YtdmcioghdindfaaGreatDoor
