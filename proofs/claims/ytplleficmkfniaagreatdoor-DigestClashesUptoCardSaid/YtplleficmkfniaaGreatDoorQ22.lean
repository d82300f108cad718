/- Texts. -/
import Derived.Test.YtplleficmkfniaaGreatDoorQ21
set_option linter.unusedSimpArgs false
set_option maxRecDepth 100000
set_option maxHeartbeats 4000000
namespace Go.Utf
def placeF : List Int → List Int → Option Nat
 | H, [] => if H = [] then none else some 0
 | H, c :: cs => match takeF H c with
  | none => some 0
  | some H' => (placeF H' cs).map (· + 1)
theorem place_nil (H : List Int) : placeF H [] = if H = [] then none else some 0 := rfl
theorem place_cons (H : List Int) (c : Int) (cs : List Int) : placeF H (c :: cs) = match takeF H c with
  | none => some 0
  | some H' => (placeF H' cs).map (· + 1) := rfl
theorem place_none : ∀ {H bs : List Int}, placeF H bs = none ↔ feedF H bs = some []
 | H, [] => by
  rw [place_nil]
  show _ ↔ some H = some []
  by_cases h : H = []
  ·simp [h]
  ·simp [h]
 | H, c :: cs => by
  rw [place_cons, feed_cons]
  cases takeF H c with
  | none => simp
  | some H' => simp only [Option.map_eq_none_iff]; exact place_none
theorem place_app : ∀ {H H' l : List Int} (m : List Int), feedF H l = some H' → placeF H (l ++ m) = (placeF H' m).map (· + l.length)
 | H, H', [], m, h => by
  have e : H = H' := by injection h
  subst e
  simp
 | H, H', c :: l, m, h => by
  rw [feed_cons] at h
  rw [List.cons_append, place_cons]
  cases e : takeF H c with
  | none => rw [e] at h; cases h
  | some H2 =>
   rw [e] at h
   simp only
   rw [place_app m h, Option.map_map]
   congr 1
theorem place_stop {H H' l : List Int} {c : Int} (m : List Int) (h : feedF H l = some H') (hc : takeF H' c = none) : placeF H (l ++ c :: m) = some l.length := by
 rw [place_app _ h, place_cons, hc]
 simp
theorem place_end {H H' l : List Int} (h : feedF H l = some H') (h0 : H' ≠ []) : placeF H l = some l.length := by
 have := place_app [] h
 rw [List.append_nil, place_nil, if_neg h0] at this
 simpa using this
theorem feed_app : ∀ (H l m : List Int), feedF H (l ++ m) = (feedF H l).bind fun H' => feedF H' m
 | _, [], _ => rfl
 | H, c :: l, m => by
  rw [List.cons_append, feed_cons, feed_cons]
  cases takeF H c with
  | none => rfl
  | some H' => exact feed_app H' l m
theorem feed_step {H H' : List Int} {l : List Int} {j : Nat} {c : Int} (h : feedF H (l.take j) = some H') (hc : l[j]? = some c) : feedF H (l.take (j + 1)) = takeF H' c := by
 rw [List.take_add_one, hc, feed_app, h]
 show feedF H' [c] = _
 rw [feed_cons]
 cases takeF H' c <;> rfl
end Go.Utf
namespace Go.Proofs.YtplleficmkfniaaGreatDoor
open Go Go.RowKit Go.Aff Go.Utf
theorem take_any (w : World) (q : Nat) (pl : Int) (H : List Int) (wr : Bool) (y : Int) (h : FeedAt w q pl H wr) :
  Calls Tryz.prog 206 #[.pointer (some ⟨q, 0, none⟩), .int .u8 y] w fun e w' => e = .returned (.bool (takeF H y).isSome) ∧ FeedAt w' q pl ((takeF H y).getD H) wr ∧ Kp (fun i => i = q) w w' := by
 have hs := h.ok.short
 match H, h, hs with
 | [], h, _ => exact take_nothing w q pl wr y h
 | [a], ⟨ok, a', b, c, d, hb, e⟩, _ =>
  injection e with e1 e2
  subst e1
  exact take_held1 w q pl wr y a' b c d ok hb
 | [a, b], ⟨ok, a', b', c, d, hb, e⟩, _ =>
  injection e with e1 e2
  injection e2 with e2 e3
  subst e1 e2
  exact take_held2 w q pl wr y a' b' c d ok hb
 | [a, b, c], ⟨ok, a', b', c', d, hb, e⟩, _ =>
  injection e with e1 e2
  injection e2 with e2 e3
  injection e3 with e3 e4
  subst e1 e2 e3
  exact take_held3 w q pl wr y a' b' c' d ok hb
 | _ :: _ :: _ :: _ :: _, _, hs => simp at hs
theorem utfnew_any (w : World) : Calls Tryz.prog 169 #[] w fun e w' => e = .returned (.pointer (some ⟨w.heap.size, 0, none⟩)) ∧ FeedAt w' w.heap.size 0 [] false ∧ Kp (fun _ => False) w w' := by
 have HB := H_ (Blk.new w 342 [.int .i64 0, .int .u8 0, .int .u8 0, .int .u8 0, .int .u8 0, .int .i64 0, .bool false])
 go_enter Tryz.func169, Tryz.ntmps169
 go_wp2
 go_ret
 exact ⟨rfl, ⟨.inl rfl, 0, 0, 0, 0, HB.out, rfl⟩, (Kp.refl _ w).alloc _⟩
def faultV (wr : Bool) (pl : Int) : Value := if wr then .iface 134 (.agg #[.int .i64 30, .int .i64 pl]) else .nilIface
theorem ufault_any (w : World) (q : Nat) (pl : Int) (H : List Int) (wr : Bool) (h : FeedAt w q pl H wr) : Calls Tryz.prog 207 #[.pointer (some ⟨q, 0, none⟩)] w fun e w' => e = .returned (faultV wr pl) ∧ w' = w := by
 obtain ⟨_, a, b, c, d, hb, _⟩ := h
 have c0 := hb.cell 0
 have c6 := hb.cell 6
 clear hb
 cases wr
 ·go_enter Tryz.func207, Tryz.ntmps207
  go_wp2
  go_ret
  exact ⟨rfl, rfl⟩
 ·go_enter Tryz.func207, Tryz.ntmps207
  go_wp2
  go_ret
  exact ⟨rfl, rfl⟩
def endV (wr : Bool) (H : List Int) (pl : Int) : Value := if H = [] then faultV wr pl else .iface 134 (.agg #[.int .i64 31, .int .i64 pl])
theorem uend_any (w : World) (q : Nat) (pl : Int) (H : List Int) (wr : Bool) (h : FeedAt w q pl H wr) : Calls Tryz.prog 171 #[.pointer (some ⟨q, 0, none⟩)] w fun e w' => e = .returned (endV wr H pl) ∧ w' = w := by
 have HF := H_ (ufault_any w q pl H wr h)
 obtain ⟨_, a, b, c, d, hb, _⟩ := h
 have c0 := hb.cell 0
 have c5 := hb.cell 5
 clear hb
 obtain ⟨m, hm⟩ : ∃ m, m = H.length := ⟨_, rfl⟩
 rw [← hm] at c5
 by_cases h0 : H = []
 ·subst h0
  obtain rfl : m = 0 := hm
  go_enter Tryz.func171, Tryz.ntmps171
  go_wp2_with (go_at_call 207; refine HF.out.mono ?_; rintro e w2 ⟨rfl, rfl⟩)
  go_ret
  exact ⟨rfl, rfl⟩
 ·have hpos : 0 < m := by rw [hm]; exact List.length_pos_iff.2 h0
  have HE : Hid (endV wr H pl = .iface 134 (.agg #[.int .i64 31, .int .i64 pl])) := H_ (if_neg h0)
  clear hm h0
  go_enter Tryz.func171, Tryz.ntmps171
  go_wp2
  go_ret
  exact ⟨by rw [HE.out]; rfl, rfl⟩
def Fed (bs : List Int) (w wx : World) (q : Nat) (j : Nat) (wr : Bool) : Prop := Kp (fun _ => False) w wx ∧ match wr with
 | false => ∃ H, FeedAt wx q j H false ∧ feedF [] (bs.take j) = some H
 | true => ∃ pl : Nat, FeedAt wx q pl [] true ∧ placeF [] bs = some pl
theorem feed_any (w0 w : World) (q : Nat) (A : Option Addr) (n c : Nat) (bs : List Int) (hk0 : Kp (fun _ => False) w0 w) (hq : w0.heap.size ≤ q) (h : FeedAt w q 0 [] false) (hn : n ≤ 1152921504606846976) (hr : Rd w A n (vb bs)) (ho : 0 < n → ∀ a, A = some a → a.block ≠ q) :
  Calls Tryz.prog 170 #[.pointer (some ⟨q, 0, none⟩), .slice A n c] w fun e w' => (∃ v, e = .returned v) ∧ ∃ wr, Fed bs w0 w' q n wr := by
 have hl : bs.length = n := by simpa [vb] using hr.1
 have HR : Hid (∀ W, Kp (fun i => i = q) w W → ∀ j, j < n → ∃ g o b, A = some ⟨g, o, none⟩ ∧ bs[j]? = some b ∧ W.cell? ⟨g, o + j, none⟩ = some (.int .u8 b)) := H_ fun W hW j hj => by
  obtain ⟨g, o, e, hc⟩ := (hr.keepK hW (fun h0 a e e2 => ho h0 a e e2)).2 (by omega)
  obtain ⟨b, hb⟩ : ∃ b, bs[j]? = some b := ⟨_, List.getElem?_eq_getElem (by omega)⟩
  refine ⟨g, o, b, e, hb, ?_⟩
  rw [hc j hj]
  unfold vb
  rw [List.getElem?_map, hb]
  rfl
 have HL := H_ hl
 have HS : Hid (Fed bs w0 w q 0 false) := H_ ⟨hk0, [], h, by simp [feedF]⟩
 have HQ := H_ hq
 clear hr h ho hk0 hq hl
 go_enter Tryz.func170, Tryz.ntmps170
 go_upto_block 0 with fail
 go_wp2
 go_loopg [5] (n + 1) (fun gk i wx => ∃ (j : Nat) (wr : Bool), j ≤ n ∧ i = .int .i64 j ∧ gk = (if wr then 0 else n + 1 - j) ∧ Hid (Fed bs w0 wx q j wr ∧ Kp (fun i => i = q) w wx))
 case atStart => exact ⟨0, false, by omega, rfl, rfl, H_ ⟨HS.out, Kp.refl _ _⟩⟩
 case round =>
  obtain ⟨j, wb, hj, rfl, hgk, HI⟩ := hrel
  have HGK := H_ hgk
  clear hgk
  cases wb with
  | true =>
   obtain ⟨⟨hk, pl, hf, hb⟩, hkq⟩ := HI.out
   have HE : Hid (Fed bs w0 wr q n true) := H_ ⟨hk, pl, hf, hb⟩
   have HFA := H_ (ufault_any wr q pl [] true hf)
   obtain ⟨_, a, b, c3, d, hbl, _⟩ := hf
   have c6 := hbl.cell 6
   clear hbl hk hb hkq HI
   by_cases hlt : j < n
   ·go_wp2_with (go_at_call 207; refine HFA.out.mono ?_; rintro e w2 ⟨rfl, rfl⟩)
    go_ret
    exact ⟨⟨_, rfl⟩, true, HE.out⟩
   ·obtain rfl : j = n := by omega
    go_wp2_with (go_at_call 207; refine HFA.out.mono ?_; rintro e w2 ⟨rfl, rfl⟩)
    go_ret
    exact ⟨⟨_, rfl⟩, true, HE.out⟩
  | false =>
   obtain ⟨⟨hk, H, hf, hb⟩, hkq⟩ := HI.out
   have HK := H_ hk
   have HKQ := H_ hkq
   have HBB := H_ hb
   have HFE := H_ hf
   have HFA := H_ (ufault_any wr q j H false hf)
   obtain ⟨_, a, b, c3, d, hbl, _⟩ := hf
   have c6 := hbl.cell 6
   clear hbl hk hb hkq HI
   by_cases hlt : j < n
   ·obtain ⟨g, o, y, rfl, hy, hcell⟩ := HR.out wr HKQ.out j hlt
    have HY := H_ hy
    have HTA := H_ (take_any wr q j H false y HFE.out)
    have hwj : IntKind.i64.wrap ((j : Int) + 1) = (j : Int) + 1 := IntWalk.i64_in _ (by omega)
    rcases htk : takeF H y with _ | H2
    ·rw [htk] at HTA
     have HN : Hid (placeF [] bs = some j) := H_ (by
      have hjl : j < bs.length := (List.getElem?_eq_some_iff.1 HY.out).1
      have h1 := place_stop (bs.drop (j + 1)) HBB.out htk
      have e : bs.take j ++ y :: bs.drop (j + 1) = bs := by
       conv => rhs; rw [← List.take_append_drop j bs, List.drop_eq_getElem_cons hjl]
       congr 2
       have h2 := HY.out
       rw [List.getElem?_eq_getElem hjl] at h2
       injection h2 with h2
       exact h2.symm
      rw [e, List.length_take, Nat.min_eq_left (Nat.le_of_lt hjl)] at h1
      exact h1)
     clear hy htk
     go_upto_region 8 with (go_at_call 206; refine HTA.out.mono ?_; rintro e w2 ⟨rfl, hf2, hk2⟩; obtain ⟨_, a2, b2, c22, d2, hbl2, _⟩ := hf2; have HB2 := H_ hbl2; have HK2 := H_ hk2; have d6 := hbl2.cell 6; have f6 := hbl2.frozen 6; have d5 := (hbl2.set_ 6 (.bool true)).cell 5; have f5 := (hbl2.set_ 6 (.bool true)).frozen 5; clear hbl2 hk2)
     go_wp2
     go_roundg 0
     case measure => rw [HGK.out]; simp; omega
     case rel =>
      have hkk : Kp (fun i => i = q) wr ((w2.setCell ⟨q, 6, none⟩ (.bool true)).setCell ⟨q, 5, none⟩ (.int .i64 0)) := (HK2.out.setCell (p := ⟨q, 6, none⟩) (.inl rfl) _).setCell (p := ⟨q, 5, none⟩) (.inl rfl) _
      exact ⟨j + 1, true, by omega, by go_num, rfl, H_ ⟨⟨HK.out.trans hkk (fun i hi e => by have := HQ.out; omega), j, ⟨.inl rfl, a2, b2, c22, d2, (HB2.out.set_ 6 (.bool true)).set_ 5 (.int .i64 0), rfl⟩, HN.out⟩, HKQ.out.trans hkk (fun _ _ h => h)⟩⟩
    ·rw [htk] at HTA
     have HN : Hid (feedF [] (bs.take (j + 1)) = some H2) := H_ (by rw [feed_step HBB.out HY.out, htk])
     clear hy htk
     go_upto_region 7 with (go_at_call 206; refine HTA.out.mono ?_; rintro e w2 ⟨rfl, hf2, hk2⟩; obtain ⟨hok2, a2, b2, c22, d2, hbl2, he2⟩ := hf2; have HB2 := H_ hbl2; have HK2 := H_ hk2; have HE2 := H_ (And.intro hok2 he2); have d6 := hbl2.cell 0; have f6 := hbl2.frozen 0; clear hbl2 hk2 hok2 he2)
     go_wp2
     go_roundg (n + 1 - (j + 1))
     case measure => rw [HGK.out]; simp; omega
     case rel =>
      have hkk : Kp (fun i => i = q) wr (w2.setCell ⟨q, 0, none⟩ (.int .i64 ((j : Int) + 1))) := HK2.out.setCell (p := ⟨q, 0, none⟩) (.inl rfl) _
      exact ⟨j + 1, false, by omega, by go_num, rfl, H_ ⟨⟨HK.out.trans hkk (fun i hi e => by have := HQ.out; omega), H2, ⟨HE2.out.1, a2, b2, c22, d2, HB2.out.set_ 0 (.int .i64 ((j : Int) + 1)), HE2.out.2⟩, HN.out⟩, HKQ.out.trans hkk (fun _ _ h => h)⟩⟩
   ·obtain rfl : j = n := by omega
    go_wp2_with (go_at_call 207; refine HFA.out.mono ?_; rintro e w2 ⟨rfl, rfl⟩)
    go_ret
    exact ⟨⟨_, rfl⟩, false, HK.out, H, HFE.out, HBB.out⟩
inductive ChkV : Bool → Value → Prop
 | yes : ChkV true .nilIface
 | no (x : Value) : ChkV false (.iface 134 x)
inductive ChkP : Option Nat → Value → Prop
 | yes : ChkP none .nilIface
 | no (k : Int) (pl : Nat) : ChkP (some pl) (.iface 134 (.agg #[.int .i64 k, .int .i64 pl]))
theorem checkP_any (w : World) (A : Option Addr) (n c : Nat) (bs : List Int) (hr : Rd w A n (vb bs)) (hn : n ≤ 1152921504606846976) :
  Calls Tryz.prog 117 #[.slice A n c] w fun e w' => (∃ v, e = .returned v ∧ ChkP (placeF [] bs) v) ∧ Kp (fun _ => False) w w' := by
 have hl : bs.length = n := by simpa [vb] using hr.1
 have HL := H_ hl
 have HFD : Hid (∀ W, FeedAt W w.heap.size 0 [] false → Kp (fun _ => False) w W → Calls Tryz.prog 170 #[.pointer (some ⟨w.heap.size, 0, none⟩), .slice A n c] W fun e w' => (∃ v, e = .returned v) ∧ ∃ wr, Fed bs w w' w.heap.size n wr) := H_ fun W hf hk => by
  refine feed_any w W w.heap.size A n c bs hk (Nat.le_refl _) hf hn (hr.keepK hk (fun _ _ _ h => h)) (fun h0 a e => ?_)
  obtain ⟨g, o, e2, hlt⟩ := hr.lt h0
  rw [e] at e2
  injection e2 with e2
  subst e2
  exact Nat.ne_of_lt hlt
 clear hr hl
 go_enter Tryz.func117, Tryz.ntmps117
 go_upto_region 3 with (first
  | (go_at_call 169; refine (utfnew_any _).mono ?_; rintro e w1 ⟨rfl, hf1, hk1⟩; have HF1 := H_ hf1; have HK1 := H_ hk1; clear hf1 hk1)
  | (go_at_call 170; refine (HFD.out _ HF1.out HK1.out).mono ?_; rintro e w2 ⟨⟨v2, rfl⟩, wb, hfd⟩; have HFE := H_ hfd; clear hfd))
 cases wb with
 | false =>
  obtain ⟨hk, H, hf, hb⟩ := HFE.out
  rw [List.take_of_length_le (by rw [HL.out]; exact Nat.le_refl _)] at hb
  have HEN := H_ (uend_any w2 w.heap.size n H false hf)
  have HB := H_ hb
  have HK := H_ hk
  clear hf hb hk
  go_wp2_with (go_at_call 171; refine HEN.out.mono ?_; rintro e w3 ⟨rfl, rfl⟩)
  go_ret
  refine ⟨⟨_, rfl, ?_⟩, HK.out⟩
  show ChkP _ (endV false H n)
  by_cases h0 : H = []
  ·subst h0
   rw [place_none.2 HB.out]
   exact .yes
  ·rw [place_end HB.out h0, HL.out]
   unfold endV
   rw [if_neg h0]
   exact .no _ _
 | true =>
  obtain ⟨hk, pl, hf, hb⟩ := HFE.out
  have HEN := H_ (uend_any w2 w.heap.size pl [] true hf)
  have HB := H_ hb
  have HK := H_ hk
  clear hf hb hk
  go_wp2_with (go_at_call 171; refine HEN.out.mono ?_; rintro e w3 ⟨rfl, rfl⟩)
  go_ret
  refine ⟨⟨_, rfl, ?_⟩, HK.out⟩
  show ChkP _ (endV true [] pl)
  rw [HB.out]
  exact .no _ _
end Go.Proofs.YtplleficmkfniaaGreatDoor
