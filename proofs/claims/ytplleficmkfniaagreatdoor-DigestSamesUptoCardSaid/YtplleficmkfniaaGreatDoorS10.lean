/- Texts. -/
import Derived.Test.YtplleficmkfniaaGreatDoorS09
set_option linter.unusedSimpArgs false
set_option maxRecDepth 100000
set_option maxHeartbeats 4000000
namespace Go.Utf
def placeF : List Int → List Int → Option Nat
 | H, [] => if H = [] then none else some 0
 | H, c :: cs => match takeF H c with
  | none => some 0
  | some H' => (placeF H' cs).map (· + 1)
theorem place_nil (H : List Int) : placeF H [] = if H = [] then none else some 0 := rfl
theorem place_cons (H : List Int) (c : Int) (cs : List Int) : placeF H (c :: cs) = match takeF H c with
  | none => some 0
  | some H' => (placeF H' cs).map (· + 1) := rfl
theorem place_none : ∀ {H bs : List Int}, placeF H bs = none ↔ feedF H bs = some []
 | H, [] => by
  rw [place_nil]
  show _ ↔ some H = some []
  by_cases h : H = []
  ·simp [h]
  ·simp [h]
 | H, c :: cs => by
  rw [place_cons, feed_cons]
  cases takeF H c with
  | none => simp
  | some H' => simp only [Option.map_eq_none_iff]; exact place_none
theorem place_right {bs : List Int} : placeF [] bs = none ↔ rightR bs = true := by
 rw [place_none, ← right_eq]
 unfold rightF
 simp
theorem place_app : ∀ {H H' l : List Int} (m : List Int), feedF H l = some H' → placeF H (l ++ m) = (placeF H' m).map (· + l.length)
 | H, H', [], m, h => by
  have e : H = H' := by injection h
  subst e
  simp
 | H, H', c :: l, m, h => by
  rw [feed_cons] at h
  rw [List.cons_append, place_cons]
  cases e : takeF H c with
  | none => rw [e] at h; cases h
  | some H2 =>
   rw [e] at h
   simp only
   rw [place_app m h, Option.map_map]
   congr 1
theorem place_stop {H H' l : List Int} {c : Int} (m : List Int) (h : feedF H l = some H') (hc : takeF H' c = none) : placeF H (l ++ c :: m) = some l.length := by
 rw [place_app _ h, place_cons, hc]
 simp
theorem place_end {H H' l : List Int} (h : feedF H l = some H') (h0 : H' ≠ []) : placeF H l = some l.length := by
 have := place_app [] h
 rw [List.append_nil, place_nil, if_neg h0] at this
 simpa using this
theorem feed_app : ∀ (H l m : List Int), feedF H (l ++ m) = (feedF H l).bind fun H' => feedF H' m
 | _, [], _ => rfl
 | H, c :: l, m => by
  rw [List.cons_append, feed_cons, feed_cons]
  cases takeF H c with
  | none => rfl
  | some H' => exact feed_app H' l m
theorem feed_step {H H' : List Int} {l : List Int} {j : Nat} {c : Int} (h : feedF H (l.take j) = some H') (hc : l[j]? = some c) : feedF H (l.take (j + 1)) = takeF H' c := by
 rw [List.take_add_one, hc, feed_app, h]
 show feedF H' [c] = _
 rw [feed_cons]
 cases takeF H' c <;> rfl
end Go.Utf
namespace Go.Proofs.YtplleficmkfniaaGreatDoor
open Go Go.RowKit Go.Aff Go.Utf
theorem take_any (w : World) (q : Nat) (pl : Int) (H : List Int) (wr : Bool) (y : Int) (h : FeedAt w q pl H wr) :
  Calls Tryz.prog 206 #[.pointer (some ⟨q, 0, none⟩), .int .u8 y] w fun e w' => e = .returned (.bool (takeF H y).isSome) ∧ FeedAt w' q pl ((takeF H y).getD H) wr ∧ Kp (fun i => i = q) w w' := by
 have hs := h.ok.short
 match H, h, hs with
 | [], h, _ => exact take_nothing w q pl wr y h
 | [a], ⟨ok, a', b, c, d, hb, e⟩, _ =>
  injection e with e1 e2
  subst e1
  exact take_held1 w q pl wr y a' b c d ok hb
 | [a, b], ⟨ok, a', b', c, d, hb, e⟩, _ =>
  injection e with e1 e2
  injection e2 with e2 e3
  subst e1 e2
  exact take_held2 w q pl wr y a' b' c d ok hb
 | [a, b, c], ⟨ok, a', b', c', d, hb, e⟩, _ =>
  injection e with e1 e2
  injection e2 with e2 e3
  injection e3 with e3 e4
  subst e1 e2 e3
  exact take_held3 w q pl wr y a' b' c' d ok hb
 | _ :: _ :: _ :: _ :: _, _, hs => simp at hs
theorem utfnew_any (w : World) : Calls Tryz.prog 169 #[] w fun e w' => e = .returned (.pointer (some ⟨w.heap.size, 0, none⟩)) ∧ FeedAt w' w.heap.size 0 [] false ∧ Kp (fun _ => False) w w' := by
 have HB := H_ (Blk.new w 342 [.int .i64 0, .int .u8 0, .int .u8 0, .int .u8 0, .int .u8 0, .int .i64 0, .bool false])
 go_enter Tryz.func169, Tryz.ntmps169
 go_wp2
 go_ret
 exact ⟨rfl, ⟨.inl rfl, 0, 0, 0, 0, HB.out, rfl⟩, (Kp.refl _ w).alloc _⟩
def faultV (wr : Bool) (pl : Int) : Value := if wr then .iface 134 (.agg #[.int .i64 30, .int .i64 pl]) else .nilIface
theorem ufault_any (w : World) (q : Nat) (pl : Int) (H : List Int) (wr : Bool) (h : FeedAt w q pl H wr) : Calls Tryz.prog 207 #[.pointer (some ⟨q, 0, none⟩)] w fun e w' => e = .returned (faultV wr pl) ∧ w' = w := by
 obtain ⟨_, a, b, c, d, hb, _⟩ := h
 have c0 := hb.cell 0
 have c6 := hb.cell 6
 clear hb
 cases wr
 ·go_enter Tryz.func207, Tryz.ntmps207
  go_wp2
  go_ret
  exact ⟨rfl, rfl⟩
 ·go_enter Tryz.func207, Tryz.ntmps207
  go_wp2
  go_ret
  exact ⟨rfl, rfl⟩
def endV (wr : Bool) (H : List Int) (pl : Int) : Value := if H = [] then faultV wr pl else .iface 134 (.agg #[.int .i64 31, .int .i64 pl])
theorem uend_any (w : World) (q : Nat) (pl : Int) (H : List Int) (wr : Bool) (h : FeedAt w q pl H wr) : Calls Tryz.prog 171 #[.pointer (some ⟨q, 0, none⟩)] w fun e w' => e = .returned (endV wr H pl) ∧ w' = w := by
 have HF := H_ (ufault_any w q pl H wr h)
 obtain ⟨_, a, b, c, d, hb, _⟩ := h
 have c0 := hb.cell 0
 have c5 := hb.cell 5
 clear hb
 obtain ⟨m, hm⟩ : ∃ m, m = H.length := ⟨_, rfl⟩
 rw [← hm] at c5
 by_cases h0 : H = []
 ·subst h0
  obtain rfl : m = 0 := hm
  go_enter Tryz.func171, Tryz.ntmps171
  go_wp2_with (go_at_call 207; refine HF.out.mono ?_; rintro e w2 ⟨rfl, rfl⟩)
  go_ret
  exact ⟨rfl, rfl⟩
 ·have hpos : 0 < m := by rw [hm]; exact List.length_pos_iff.2 h0
  have HE : Hid (endV wr H pl = .iface 134 (.agg #[.int .i64 31, .int .i64 pl])) := H_ (if_neg h0)
  clear hm h0
  go_enter Tryz.func171, Tryz.ntmps171
  go_wp2
  go_ret
  exact ⟨by rw [HE.out]; rfl, rfl⟩
def Fed (bs : List Int) (w wx : World) (q : Nat) (j : Nat) (wr : Bool) : Prop := Kp (fun _ => False) w wx ∧ match wr with
 | false => ∃ H, FeedAt wx q j H false ∧ feedF [] (bs.take j) = some H
 | true => ∃ pl : Nat, FeedAt wx q pl [] true ∧ placeF [] bs = some pl
theorem feed_any (w0 w : World) (q : Nat) (A : Option Addr) (n c : Nat) (bs : List Int) (hk0 : Kp (fun _ => False) w0 w) (hq : w0.heap.size ≤ q) (h : FeedAt w q 0 [] false) (hn : n ≤ 1152921504606846976) (hr : Rd w A n (vb bs)) (ho : 0 < n → ∀ a, A = some a → a.block ≠ q) :
  Calls Tryz.prog 170 #[.pointer (some ⟨q, 0, none⟩), .slice A n c] w fun e w' => (∃ v, e = .returned v) ∧ ∃ wr, Fed bs w0 w' q n wr := by
 have hl : bs.length = n := by simpa [vb] using hr.1
 have HR : Hid (∀ W, Kp (fun i => i = q) w W → ∀ j, j < n → ∃ g o b, A = some ⟨g, o, none⟩ ∧ bs[j]? = some b ∧ W.cell? ⟨g, o + j, none⟩ = some (.int .u8 b)) := H_ fun W hW j hj => by
  obtain ⟨g, o, e, hc⟩ := (hr.keepK hW (fun h0 a e e2 => ho h0 a e e2)).2 (by omega)
  obtain ⟨b, hb⟩ : ∃ b, bs[j]? = some b := ⟨_, List.getElem?_eq_getElem (by omega)⟩
  refine ⟨g, o, b, e, hb, ?_⟩
  rw [hc j hj]
  unfold vb
  rw [List.getElem?_map, hb]
  rfl
 have HL := H_ hl
 have HS : Hid (Fed bs w0 w q 0 false) := H_ ⟨hk0, [], h, by simp [feedF]⟩
 have HQ := H_ hq
 clear hr h ho hk0 hq hl
 go_enter Tryz.func170, Tryz.ntmps170
 go_upto_block 0 with fail
 go_wp2
 go_loopg [5] (n + 1) (fun gk i wx => ∃ (j : Nat) (wr : Bool), j ≤ n ∧ i = .int .i64 j ∧ gk = (if wr then 0 else n + 1 - j) ∧ Hid (Fed bs w0 wx q j wr ∧ Kp (fun i => i = q) w wx))
 case atStart => exact ⟨0, false, by omega, rfl, rfl, H_ ⟨HS.out, Kp.refl _ _⟩⟩
 case round =>
  obtain ⟨j, wb, hj, rfl, hgk, HI⟩ := hrel
  have HGK := H_ hgk
  clear hgk
  cases wb with
  | true =>
   obtain ⟨⟨hk, pl, hf, hb⟩, hkq⟩ := HI.out
   have HE : Hid (Fed bs w0 wr q n true) := H_ ⟨hk, pl, hf, hb⟩
   have HFA := H_ (ufault_any wr q pl [] true hf)
   obtain ⟨_, a, b, c3, d, hbl, _⟩ := hf
   have c6 := hbl.cell 6
   clear hbl hk hb hkq HI
   by_cases hlt : j < n
   ·go_wp2_with (go_at_call 207; refine HFA.out.mono ?_; rintro e w2 ⟨rfl, rfl⟩)
    go_ret
    exact ⟨⟨_, rfl⟩, true, HE.out⟩
   ·obtain rfl : j = n := by omega
    go_wp2_with (go_at_call 207; refine HFA.out.mono ?_; rintro e w2 ⟨rfl, rfl⟩)
    go_ret
    exact ⟨⟨_, rfl⟩, true, HE.out⟩
  | false =>
   obtain ⟨⟨hk, H, hf, hb⟩, hkq⟩ := HI.out
   have HK := H_ hk
   have HKQ := H_ hkq
   have HBB := H_ hb
   have HFE := H_ hf
   have HFA := H_ (ufault_any wr q j H false hf)
   obtain ⟨_, a, b, c3, d, hbl, _⟩ := hf
   have c6 := hbl.cell 6
   clear hbl hk hb hkq HI
   by_cases hlt : j < n
   ·obtain ⟨g, o, y, rfl, hy, hcell⟩ := HR.out wr HKQ.out j hlt
    have HY := H_ hy
    have HTA := H_ (take_any wr q j H false y HFE.out)
    have hwj : IntKind.i64.wrap ((j : Int) + 1) = (j : Int) + 1 := IntWalk.i64_in _ (by omega)
    rcases htk : takeF H y with _ | H2
    ·rw [htk] at HTA
     have HN : Hid (placeF [] bs = some j) := H_ (by
      have hjl : j < bs.length := (List.getElem?_eq_some_iff.1 HY.out).1
      have h1 := place_stop (bs.drop (j + 1)) HBB.out htk
      have e : bs.take j ++ y :: bs.drop (j + 1) = bs := by
       conv => rhs; rw [← List.take_append_drop j bs, List.drop_eq_getElem_cons hjl]
       congr 2
       have h2 := HY.out
       rw [List.getElem?_eq_getElem hjl] at h2
       injection h2 with h2
       exact h2.symm
      rw [e, List.length_take, Nat.min_eq_left (Nat.le_of_lt hjl)] at h1
      exact h1)
     clear hy htk
     go_upto_region 8 with (go_at_call 206; refine HTA.out.mono ?_; rintro e w2 ⟨rfl, hf2, hk2⟩; obtain ⟨_, a2, b2, c22, d2, hbl2, _⟩ := hf2; have HB2 := H_ hbl2; have HK2 := H_ hk2; have d6 := hbl2.cell 6; have f6 := hbl2.frozen 6; have d5 := (hbl2.set_ 6 (.bool true)).cell 5; have f5 := (hbl2.set_ 6 (.bool true)).frozen 5; clear hbl2 hk2)
     go_wp2
     go_roundg 0
     case measure => rw [HGK.out]; simp; omega
     case rel =>
      have hkk : Kp (fun i => i = q) wr ((w2.setCell ⟨q, 6, none⟩ (.bool true)).setCell ⟨q, 5, none⟩ (.int .i64 0)) := (HK2.out.setCell (p := ⟨q, 6, none⟩) (.inl rfl) _).setCell (p := ⟨q, 5, none⟩) (.inl rfl) _
      exact ⟨j + 1, true, by omega, by go_num, rfl, H_ ⟨⟨HK.out.trans hkk (fun i hi e => by have := HQ.out; omega), j, ⟨.inl rfl, a2, b2, c22, d2, (HB2.out.set_ 6 (.bool true)).set_ 5 (.int .i64 0), rfl⟩, HN.out⟩, HKQ.out.trans hkk (fun _ _ h => h)⟩⟩
    ·rw [htk] at HTA
     have HN : Hid (feedF [] (bs.take (j + 1)) = some H2) := H_ (by rw [feed_step HBB.out HY.out, htk])
     clear hy htk
     go_upto_region 7 with (go_at_call 206; refine HTA.out.mono ?_; rintro e w2 ⟨rfl, hf2, hk2⟩; obtain ⟨hok2, a2, b2, c22, d2, hbl2, he2⟩ := hf2; have HB2 := H_ hbl2; have HK2 := H_ hk2; have HE2 := H_ (And.intro hok2 he2); have d6 := hbl2.cell 0; have f6 := hbl2.frozen 0; clear hbl2 hk2 hok2 he2)
     go_wp2
     go_roundg (n + 1 - (j + 1))
     case measure => rw [HGK.out]; simp; omega
     case rel =>
      have hkk : Kp (fun i => i = q) wr (w2.setCell ⟨q, 0, none⟩ (.int .i64 ((j : Int) + 1))) := HK2.out.setCell (p := ⟨q, 0, none⟩) (.inl rfl) _
      exact ⟨j + 1, false, by omega, by go_num, rfl, H_ ⟨⟨HK.out.trans hkk (fun i hi e => by have := HQ.out; omega), H2, ⟨HE2.out.1, a2, b2, c22, d2, HB2.out.set_ 0 (.int .i64 ((j : Int) + 1)), HE2.out.2⟩, HN.out⟩, HKQ.out.trans hkk (fun _ _ h => h)⟩⟩
   ·obtain rfl : j = n := by omega
    go_wp2_with (go_at_call 207; refine HFA.out.mono ?_; rintro e w2 ⟨rfl, rfl⟩)
    go_ret
    exact ⟨⟨_, rfl⟩, false, HK.out, H, HFE.out, HBB.out⟩
inductive ChkV : Bool → Value → Prop
 | yes : ChkV true .nilIface
 | no (x : Value) : ChkV false (.iface 134 x)
inductive ChkP : Option Nat → Value → Prop
 | yes : ChkP none .nilIface
 | no (k : Int) (pl : Nat) : ChkP (some pl) (.iface 134 (.agg #[.int .i64 k, .int .i64 pl]))
theorem checkP_any (w : World) (A : Option Addr) (n c : Nat) (bs : List Int) (hr : Rd w A n (vb bs)) (hn : n ≤ 1152921504606846976) :
  Calls Tryz.prog 117 #[.slice A n c] w fun e w' => (∃ v, e = .returned v ∧ ChkP (placeF [] bs) v) ∧ Kp (fun _ => False) w w' := by
 have hl : bs.length = n := by simpa [vb] using hr.1
 have HL := H_ hl
 have HFD : Hid (∀ W, FeedAt W w.heap.size 0 [] false → Kp (fun _ => False) w W → Calls Tryz.prog 170 #[.pointer (some ⟨w.heap.size, 0, none⟩), .slice A n c] W fun e w' => (∃ v, e = .returned v) ∧ ∃ wr, Fed bs w w' w.heap.size n wr) := H_ fun W hf hk => by
  refine feed_any w W w.heap.size A n c bs hk (Nat.le_refl _) hf hn (hr.keepK hk (fun _ _ _ h => h)) (fun h0 a e => ?_)
  obtain ⟨g, o, e2, hlt⟩ := hr.lt h0
  rw [e] at e2
  injection e2 with e2
  subst e2
  exact Nat.ne_of_lt hlt
 clear hr hl
 go_enter Tryz.func117, Tryz.ntmps117
 go_upto_region 3 with (first
  | (go_at_call 169; refine (utfnew_any _).mono ?_; rintro e w1 ⟨rfl, hf1, hk1⟩; have HF1 := H_ hf1; have HK1 := H_ hk1; clear hf1 hk1)
  | (go_at_call 170; refine (HFD.out _ HF1.out HK1.out).mono ?_; rintro e w2 ⟨⟨v2, rfl⟩, wb, hfd⟩; have HFE := H_ hfd; clear hfd))
 cases wb with
 | false =>
  obtain ⟨hk, H, hf, hb⟩ := HFE.out
  rw [List.take_of_length_le (by rw [HL.out]; exact Nat.le_refl _)] at hb
  have HEN := H_ (uend_any w2 w.heap.size n H false hf)
  have HB := H_ hb
  have HK := H_ hk
  clear hf hb hk
  go_wp2_with (go_at_call 171; refine HEN.out.mono ?_; rintro e w3 ⟨rfl, rfl⟩)
  go_ret
  refine ⟨⟨_, rfl, ?_⟩, HK.out⟩
  show ChkP _ (endV false H n)
  by_cases h0 : H = []
  ·subst h0
   rw [place_none.2 HB.out]
   exact .yes
  ·rw [place_end HB.out h0, HL.out]
   unfold endV
   rw [if_neg h0]
   exact .no _ _
 | true =>
  obtain ⟨hk, pl, hf, hb⟩ := HFE.out
  have HEN := H_ (uend_any w2 w.heap.size pl [] true hf)
  have HB := H_ hb
  have HK := H_ hk
  clear hf hb hk
  go_wp2_with (go_at_call 171; refine HEN.out.mono ?_; rintro e w3 ⟨rfl, rfl⟩)
  go_ret
  refine ⟨⟨_, rfl, ?_⟩, HK.out⟩
  show ChkP _ (endV true [] pl)
  rw [HB.out]
  exact .no _ _
theorem check_any (w : World) (A : Option Addr) (n c : Nat) (bs : List Int) (hr : Rd w A n (vb bs)) (hn : n ≤ 1152921504606846976) :
  Calls Tryz.prog 117 #[.slice A n c] w fun e w' => (∃ v, e = .returned v ∧ ChkV (rightF bs) v) ∧ Kp (fun _ => False) w w' :=
 (checkP_any w A n c bs hr hn).mono fun e w' ⟨⟨v, he, hv⟩, hk⟩ => ⟨⟨v, he, by
  rw [right_eq]
  cases hp : placeF [] bs with
  | none =>
   rw [hp] at hv
   rw [place_right.1 hp]
   cases hv
   exact .yes
  | some pl =>
   rw [hp] at hv
   have h2 : rightR bs = false := by
    cases hr2 : rightR bs with
    | false => rfl
    | true => rw [place_right.2 hr2] at hp; cases hp
   rw [h2]
   cases hv
   exact .no _⟩, hk⟩
theorem bytesWorld_rd (w : World) (e : TypeId) (s : ByteArray) : Rd (Lib.bytesWorld w e s) (some ⟨w.heap.size, 0, none⟩) s.size (vb (Go.Json.sb s)) := by
 refine ⟨by unfold vb; rw [List.length_map, Go.Json.sb_len], fun h => ⟨_, _, rfl, fun j hj => ?_⟩⟩
 rw [Nat.zero_add, Lib.bytesWorld_cell w e s j hj]
 have hl : j < s.data.toList.length := by rw [Array.length_toList]; exact hj
 unfold vb Go.Json.sb
 rw [List.getElem?_map, List.getElem?_map, List.getD_eq_getElem?_getD, List.getElem?_eq_getElem hl]
 rfl
theorem rightK_any (w : World) (s : ByteArray) (hs : s.size ≤ 1152921504606846976) : Calls Tryz.prog 105 #[.string s] w fun e w' => e = .returned (.bool (Go.Json.rightS s)) ∧ Kp (fun _ => False) w w' := by
 have hcv : ∀ W, (convert 9 48 (.string s)).run Tryz.prog W = .ok (.slice (some ⟨W.heap.size, 0, none⟩) s.size (grownCap W s.size 0 5)) (Lib.bytesWorld W 5 s) := fun W => Lib.run_convert_string_bytes W _ _ 5 s Tryz.underlying9 Tryz.underlying48 Tryz.underlying5
 have HC : Hid (∀ c, Calls Tryz.prog 117 #[.slice (some ⟨w.heap.size, 0, none⟩) s.size c] (Lib.bytesWorld w 5 s) fun e w' => (∃ v, e = .returned v ∧ ChkV (Go.Json.rightS s) v) ∧ Kp (fun _ => False) w w') := H_ fun c => by
  refine (check_any _ _ s.size c (Go.Json.sb s) (bytesWorld_rd w _ s) hs).mono fun e w' hh => ⟨?_, (bytesWorld_kp w _ s).trans hh.2 (fun _ _ h => h)⟩
  have := hh.1
  rw [right_eq] at this
  exact this
 obtain ⟨b, hb⟩ : ∃ b, b = Go.Json.rightS s := ⟨_, rfl⟩
 rw [← hb] at HC ⊢
 clear hb
 go_enter Tryz.func105, Tryz.ntmps105
 go_upto_region 1 with fail
 go_wp2_with (go_at_call 117; refine (HC.out _).mono ?_; rintro e w2 ⟨⟨v, rfl, hv⟩, hk⟩; have HK := H_ hk; clear hk; cases hv)
 all_goals go_ret
 all_goals exact ⟨rfl, HK.out⟩
theorem right_any (w : World) (s : ByteArray) (hs : s.size ≤ 1152921504606846976) : Calls Tryz.prog 105 #[.string s] w fun e w' => e = .returned (.bool (Go.Json.rightS s)) ∧ Keeps (fun _ => False) w w' :=
 (rightK_any w s hs).mono fun _ _ h => ⟨h.1, h.2.keeps⟩
end Go.Proofs.YtplleficmkfniaaGreatDoor
namespace Go.Proofs.YtplleficmkfniaaGreatDoor
open Go Go.RowKit Go.Aff Go.Json
structure StepCells (W : World) (b : Nat) (SV : List Value) (s : StepV) (B : Option Addr) (d : Nat) : Prop where
 c0 : W.cell? ⟨b, 0, none⟩ = some (.int .i64 s.sort)
 c1 : W.cell? ⟨b, 1, none⟩ = some (.bool s.flag)
 c2 : W.cell? ⟨b, 2, none⟩ = some (.int .u64 s.bits)
 c3 : W.cell? ⟨b, 3, none⟩ = some (.string s.text)
 c4 : W.cell? ⟨b, 4, none⟩ = some (.int .i64 s.count)
 c5 : W.cell? ⟨b, 5, none⟩ = some (.slice B s.keys.length d)
structure DoQ (w W : World) (SV : List Value) (s : StepV) (B : Option Addr) (d : Nat) : Prop where
 blk : Blk W w.heap.size 131 SV
 err : Blk W (w.heap.size + 1) 32 [.nilIface]
 keep : Keeps (fun _ => False) w W
 sv : SV = stepV s B d
theorem DoQ.cells {w W : World} {SV : List Value} {s : StepV} {B : Option Addr} {d : Nat} (h : DoQ w W SV s B d) : StepCells W w.heap.size SV s B d := by
 have hb := h.blk
 rw [h.sv] at hb
 exact ⟨hb.cell 0, hb.cell 1, hb.cell 2, hb.cell 3, hb.cell 4, hb.cell 5⟩
theorem DoQ.stay {w W W' : World} {SV : List Value} {s : StepV} {B : Option Addr} {d : Nat} (h : DoQ w W SV s B d) (k : Keeps (fun _ => False) W W') : DoQ w W' SV s B d := ⟨k.blk h.blk (fun h => h), k.blk h.err (fun h => h), h.keep.trans k (fun _ _ h => h), h.sv⟩
theorem DoQ.made (w : World) (s : StepV) (B : Option Addr) (d : Nat) : DoQ w ((w.alloc (.cells (stepV s B d).toArray 131)).alloc (.cells #[.nilIface] 32)) (stepV s B d) s B d := by
 have hb1 := (Blk.new w 131 (stepV s B d)).alloc (.cells #[.nilIface] 32)
 have hb2 := Blk.new (w.alloc (.cells (stepV s B d).toArray 131)) 32 [.nilIface]
 rw [World.size_alloc] at hb2
 exact ⟨hb1, hb2, ((Keeps.refl (fun _ => False) w).alloc _).alloc _, rfl⟩
theorem DoQ.err_row {T : TypeId} {D : Nat → Prop} {w W W' : World} {SV : List Value} {s : StepV} {B : Option Addr} {d p : Nat} {A : Option Addr} {c : Nat} {vs : List Value} {P : List JV} (h : DoQ w W SV s B d) (hr : RowAt T D w p A c vs P)
  (hk : Keeps (fun i => i = p ∨ (Value.slice A P.length c).ownBlock = some i) W W') : Blk W' (w.heap.size + 1) 32 [.nilIface] :=
 hk.blk h.err (fun e => by
  have hlt := hr.blk.lt
  rcases e with e | e
  ·omega
  ·have := (hr.own.lt _ e).2; omega)
theorem doF_ok_text {P : List JV} {s : StepV} (hu : usedF s = true) (hs : s.sort = 4) (hr : rightS s.text = true) (hl : s.text.size ≤ 2097152) : doF P s = .inr (P ++ [JV.text s.text]) := by
 obtain ⟨_, u2, u3, _, _, _⟩ := used_parts hu
 have k := u3 (by omega)
 have ct := u2 (by omega)
 have hw : (JV.text s.text).within := by simp [JV.within, JV.nodes, JV.bytes, JV.deep, hl]
 have hm : mkV s [] = JV.text s.text := by simp [mkV, hs]
 unfold doF
 rw [if_neg (by rw [hu]; decide), if_neg (by omega), if_neg (by rw [hr, k]; simp), if_neg (by rw [k]; simp), if_neg (by rw [k, ct]; simp)]
 have hz : s.count.toNat + s.keys.length = 0 := by rw [k, ct]; rfl
 rw [hz, Nat.sub_zero, List.drop_length, List.take_length, hm, if_neg (by simpa using hw)]
theorem doF_bad_text {P : List JV} {s : StepV} (hu : usedF s = true) (hs : s.sort = 4) (hr : rightS s.text = false) : doF P s = .inl 100 := by
 unfold doF
 rw [if_neg (by rw [hu]; decide), if_neg (by omega), if_pos (.inl hr)]
theorem doF_long_text {P : List JV} {s : StepV} (hu : usedF s = true) (hs : s.sort = 4) (hr : rightS s.text = true) (hl : ¬ s.text.size ≤ 2097152) : doF P s = .inl 3 := by
 obtain ⟨_, u2, u3, _, _, _⟩ := used_parts hu
 have k := u3 (by omega)
 have ct := u2 (by omega)
 have hw : ¬ (JV.text s.text).within := by simp [JV.within, JV.nodes, JV.bytes, JV.deep]; omega
 have hm : mkV s [] = JV.text s.text := by simp [mkV, hs]
 unfold doF
 rw [if_neg (by rw [hu]; decide), if_neg (by omega), if_neg (by rw [hr, k]; simp), if_neg (by rw [k]; simp), if_neg (by rw [k, ct]; simp)]
 have hz : s.count.toNat + s.keys.length = 0 := by rw [k, ct]; rfl
 rw [hz, Nat.sub_zero, List.drop_length, hm, if_pos (by simpa using hw)]
theorem stepV_len (s : StepV) (B : Option Addr) (d : Nat) : (stepV s B d).length = 6 := rfl
theorem do_text_bad (T : TypeId) (D : Nat → Prop) (w : World) (p : Nat) (A : Option Addr) (c : Nat) (vs : List Value) (P : List JV) (h : RowAt T D w p A c vs P) (hn : P.length ≤ 1048576) (s : StepV) (B : Option Addr) (d : Nat) (hu : usedF s = true) (hs : s.sort = 4) (hfit : s.text.size ≤ 1152921504606846976) (hr : rightS s.text = false) :
  Calls Tryz.prog 55 #[.pointer (some ⟨p, 0, none⟩), .agg (stepV s B d).toArray] w (DoPost T D w p (.slice A P.length c) P s) := by
 have _ := hn
 have HQ := H_ (DoQ.made w s B d)
 obtain ⟨SV, hSV⟩ : ∃ SV, SV = stepV s B d := ⟨_, rfl⟩
 rw [← hSV] at HQ ⊢
 have HU : Hid (∀ W, Calls Tryz.prog 108 #[.agg SV.toArray] W fun e w' => e = .returned (.bool true) ∧ Keeps (fun _ => False) W w') := H_ fun W => by
  have := used_any W s B d
  rw [hu, ← hSV] at this
  exact this
 have HSI : Hid ((Tryz.prog.info? 131).map (·.size) = some SV.length) := H_ (by rw [hSV, stepV_len]; kernel_rfl)
 have HS := H_ hs
 have HR := H_ h
 have hmf : ∀ (fn : Fn) (first cap : Array Value) (w : World), (Instr.makeFunc fn first cap).run Tryz.prog w = .ok (.func fn first cap) w := fun _ _ _ _ => rfl
 clear h hSV
 have HD : Hid (doF P s = .inl 100) := H_ (doF_bad_text hu hs hr)
 have HRT : Hid (∀ W, Calls Tryz.prog 105 #[.string s.text] W fun e w' => e = .returned (.bool false) ∧ Keeps (fun _ => False) W w') := H_ fun W => by rw [← hr]; exact right_any W s.text hfit
 clear hr
 go_enter_defers Tryz.func55, Tryz.ntmps55
 go_wp2_with (first
  | ((with_reducible show wpList _ _ _ (⟨some 8, _, _, _, _, _⟩ :: _) _ _); refine wpList_load_whole rfl 131 _ rfl _ rfl HQ.out.blk Tryz.underlying131 rfl HSI.out ?_)
  | (go_at_call 108; refine (HU.out _).mono ?_; rintro e w2 ⟨rfl, hk2⟩; have HQ2 := H_ (HQ.out.stay hk2); obtain ⟨s0, s1, s2, s3, s4, s5⟩ := HQ2.out.cells; rw [HS.out] at s0; have tk : True := trivial; clear hk2)
  | (go_at_call 107; have _t := tk; clear tk; refine (refuse_ok _ _).mono ?_; rintro e w3 ⟨he, rfl⟩; subst he; clear _t)
  | (go_at_call 105; refine (HRT.out _).mono ?_; rintro e w5 ⟨rfl, hk5⟩; have HQ5 := H_ (HQ2.out.stay hk5); clear hk5)
  | (go_at_call 107; refine (refuse_no _ _).mono ?_; rintro e w3 ⟨he, rfl⟩; unfold errP at he; subst he))
 have hbe := HQ5.out.err
 refine leaves_cons (f := 106) (args := #[.pointer (some ⟨w.heap.size + 1, 0, none⟩)]) (by simp) (by simp [go_sem]) ?_
 refine (do_catch (w.heap.size + 1) 100 [] _ hbe).mono ?_
 rintro e u' w'' ⟨rfl, rfl, hb, hk⟩
 refine ⟨_, results_err rfl _ _ _ _ rfl hb, ?_⟩
 unfold DoPost
 rw [HD.out]
 exact ⟨rfl, HQ5.out.keep.trans hk (fun i hi e => by omega)⟩
theorem do_text_long (T : TypeId) (D : Nat → Prop) (w : World) (p : Nat) (A : Option Addr) (c : Nat) (vs : List Value) (P : List JV) (h : RowAt T D w p A c vs P) (hn : P.length ≤ 1048576) (s : StepV) (B : Option Addr) (d : Nat) (hu : usedF s = true) (hs : s.sort = 4) (hr : rightS s.text = true) (hl : ¬ s.text.size ≤ 2097152) (hfit : s.text.size ≤ 1152921504606846976) :
  Calls Tryz.prog 55 #[.pointer (some ⟨p, 0, none⟩), .agg (stepV s B d).toArray] w (DoPost T D w p (.slice A P.length c) P s) := by
 have _ := hn
 have HQ := H_ (DoQ.made w s B d)
 obtain ⟨SV, hSV⟩ : ∃ SV, SV = stepV s B d := ⟨_, rfl⟩
 rw [← hSV] at HQ ⊢
 have HU : Hid (∀ W, Calls Tryz.prog 108 #[.agg SV.toArray] W fun e w' => e = .returned (.bool true) ∧ Keeps (fun _ => False) W w') := H_ fun W => by
  have := used_any W s B d
  rw [hu, ← hSV] at this
  exact this
 have HSI : Hid ((Tryz.prog.info? 131).map (·.size) = some SV.length) := H_ (by rw [hSV, stepV_len]; kernel_rfl)
 have HS := H_ hs
 have HR := H_ h
 have hmf : ∀ (fn : Fn) (first cap : Array Value) (w : World), (Instr.makeFunc fn first cap).run Tryz.prog w = .ok (.func fn first cap) w := fun _ _ _ _ => rfl
 clear h hSV
 have HD : Hid (doF P s = .inl 3) := H_ (doF_long_text hu hs hr hl)
 have HRT : Hid (∀ W, Calls Tryz.prog 105 #[.string s.text] W fun e w' => e = .returned (.bool true) ∧ Keeps (fun _ => False) W w') := H_ fun W => by rw [← hr]; exact right_any W s.text hfit
 have HP : Hid (∀ W, Keeps (fun _ => False) w W → Calls Tryz.prog 109 #[.pointer (some ⟨p, 0, none⟩), .iface 224 (.string s.text)] W fun e w' => e = errP 3 ∧ Keeps (fun _ => False) W w') := H_ fun W hW =>
  put_text T D W p A c vs P (HR.out.stay hW) hn s.text (.text _) false (by simp; omega)
 clear hr hl
 go_enter_defers Tryz.func55, Tryz.ntmps55
 go_wp2_with (first
  | ((with_reducible show wpList _ _ _ (⟨some 8, _, _, _, _, _⟩ :: _) _ _); refine wpList_load_whole rfl 131 _ rfl _ rfl HQ.out.blk Tryz.underlying131 rfl HSI.out ?_)
  | (go_at_call 108; refine (HU.out _).mono ?_; rintro e w2 ⟨rfl, hk2⟩; have HQ2 := H_ (HQ.out.stay hk2); obtain ⟨s0, s1, s2, s3, s4, s5⟩ := HQ2.out.cells; rw [HS.out] at s0; have tk : True := trivial; clear hk2)
  | (go_at_call 107; refine (refuse_ok _ _).mono ?_; rintro e w3 ⟨he, rfl⟩; subst he)
  | (go_at_call 105; refine (HRT.out _).mono ?_; rintro e w5 ⟨rfl, hk5⟩; have HQ5 := H_ (HQ2.out.stay hk5); have s3 := HQ5.out.cells.c3; clear hk5)
  | (go_at_call 109; refine (HP.out _ HQ5.out.keep).mono ?_; rintro e w6 ⟨he, hk6⟩; unfold errP at he; subst he; have HQ6 := H_ (HQ5.out.stay hk6); clear hk6))
 have hbe := HQ6.out.err
 refine leaves_cons (f := 106) (args := #[.pointer (some ⟨w.heap.size + 1, 0, none⟩)]) (by simp) (by simp [go_sem]) ?_
 refine (do_catch (w.heap.size + 1) 3 [] _ hbe).mono ?_
 rintro e u' w'' ⟨rfl, rfl, hb, hk⟩
 refine ⟨_, results_err rfl _ _ _ _ rfl hb, ?_⟩
 unfold DoPost
 rw [HD.out]
 exact ⟨rfl, HQ6.out.keep.trans hk (fun i hi e => by omega)⟩
theorem do_text_ok (T : TypeId) (D : Nat → Prop) (w : World) (p : Nat) (A : Option Addr) (c : Nat) (vs : List Value) (P : List JV) (h : RowAt T D w p A c vs P) (hn : P.length ≤ 1048576) (s : StepV) (B : Option Addr) (d : Nat) (hu : usedF s = true) (hs : s.sort = 4) (hr : rightS s.text = true) (hl : s.text.size ≤ 2097152) :
  Calls Tryz.prog 55 #[.pointer (some ⟨p, 0, none⟩), .agg (stepV s B d).toArray] w (DoPost T D w p (.slice A P.length c) P s) := by
 have _ := hn
 have HQ := H_ (DoQ.made w s B d)
 obtain ⟨SV, hSV⟩ : ∃ SV, SV = stepV s B d := ⟨_, rfl⟩
 rw [← hSV] at HQ ⊢
 have HU : Hid (∀ W, Calls Tryz.prog 108 #[.agg SV.toArray] W fun e w' => e = .returned (.bool true) ∧ Keeps (fun _ => False) W w') := H_ fun W => by
  have := used_any W s B d
  rw [hu, ← hSV] at this
  exact this
 have HSI : Hid ((Tryz.prog.info? 131).map (·.size) = some SV.length) := H_ (by rw [hSV, stepV_len]; kernel_rfl)
 have HS := H_ hs
 have HR := H_ h
 have hmf : ∀ (fn : Fn) (first cap : Array Value) (w : World), (Instr.makeFunc fn first cap).run Tryz.prog w = .ok (.func fn first cap) w := fun _ _ _ _ => rfl
 clear h hSV
 have HD : Hid (doF P s = .inr (P ++ [JV.text s.text])) := H_ (doF_ok_text hu hs hr hl)
 have HRT : Hid (∀ W, Calls Tryz.prog 105 #[.string s.text] W fun e w' => e = .returned (.bool true) ∧ Keeps (fun _ => False) W w') := H_ fun W => by rw [← hr]; exact right_any W s.text (by omega)
 have HP : Hid (∀ W, Keeps (fun _ => False) w W → Calls Tryz.prog 109 #[.pointer (some ⟨p, 0, none⟩), .iface 224 (.string s.text)] W fun e w' => e = .returned (.tuple #[]) ∧ RowPost T D W p (.slice A P.length c) (P ++ [JV.text s.text]) w') := H_ fun W hW =>
  put_text T D W p A c vs P (HR.out.stay hW) hn s.text (.text _) true (by simp; omega)
 clear hr hl
 go_enter_defers Tryz.func55, Tryz.ntmps55
 go_wp2_with (first
  | ((with_reducible show wpList _ _ _ (⟨some 8, _, _, _, _, _⟩ :: _) _ _); refine wpList_load_whole rfl 131 _ rfl _ rfl HQ.out.blk Tryz.underlying131 rfl HSI.out ?_)
  | (go_at_call 108; refine (HU.out _).mono ?_; rintro e w2 ⟨rfl, hk2⟩; have HQ2 := H_ (HQ.out.stay hk2); obtain ⟨s0, s1, s2, s3, s4, s5⟩ := HQ2.out.cells; rw [HS.out] at s0; have tk : True := trivial; clear hk2)
  | (go_at_call 107; refine (refuse_ok _ _).mono ?_; rintro e w3 ⟨he, rfl⟩; subst he)
  | (go_at_call 105; refine (HRT.out _).mono ?_; rintro e w5 ⟨rfl, hk5⟩; have HQ5 := H_ (HQ2.out.stay hk5); have s3 := HQ5.out.cells.c3; clear hk5)
  | (go_at_call 109; refine (HP.out _ HQ5.out.keep).mono ?_; rintro e w4 ⟨rfl, hr4⟩; have hbe := HQ5.out.err_row HR.out hr4.2; have HR4 := H_ hr4; have HBE := H_ hbe; have c0 := hbe.cell 0; have f0 := hbe.frozen 0; clear hr4 hbe))
 rw [set_same HBE.out]
 refine leaves_cons (f := 106) (args := #[.pointer (some ⟨w.heap.size + 1, 0, none⟩)]) (by simp) (by simp [go_sem]) ?_
 refine (do_idle ⟨w.heap.size + 1, 0, none⟩ _).mono ?_
 rintro e u' w'' ⟨rfl, rfl, rfl⟩
 refine ⟨_, results_err rfl _ _ _ _ rfl HBE.out, ?_⟩
 unfold DoPost
 rw [HD.out]
 exact ⟨rfl, HR4.out.1, (HQ5.out.keep.mono (fun _ _ h => h.elim)).trans HR4.out.2 (fun _ _ h => h)⟩
def refC (j : JV) (A : Option Addr) (c : Nat) (B : Option Addr) (d : Nat) : List Value :=
 [.int .i64 j.sort, .bool j.last.flag, .int .u64 j.last.bits, .string j.last.text, .slice A j.items.length c, .slice B j.keys.length d]
theorem refC_one (j : JV) (A : Option Addr) (c : Nat) (B : Option Addr) (d : Nat) : ∀ u ∈ refC j A c B d, u.oneCell' = true := by
 intro u hu
 simp only [refC, List.mem_cons, List.not_mem_nil, or_false] at hu
 rcases hu with rfl | rfl | rfl | rfl | rfl | rfl <;> rfl
def RowS (w : World) (A : Option Addr) (n : Nat) (cs : Nat → List Value) : Prop := 0 < n → ∃ g o, A = some ⟨g, o, none⟩ ∧ ∀ i, i < n → w.rangeAt g (o + i * 6) (cs i)
theorem RowS.keep {F : Nat → Prop} {w w' : World} {A : Option Addr} {n : Nat} {cs : Nat → List Value} (h : RowS w A n cs) (hk : Keeps F w w') (hF : 0 < n → ∀ a, A = some a → ¬ F a.block) : RowS w' A n cs := fun hn => by
 obtain ⟨g, o, e, hc⟩ := h hn
 refine ⟨g, o, e, fun i hi j v hv => ?_⟩
 have h1 := hc i hi j v hv
 exact (hk.cell (World.block_lt_of_cell? w _ h1) (fun hb => hF hn ⟨g, o, none⟩ e hb)).trans h1
inductive RAt (D : Nat → Prop) (w : World) : List Value → JV → Prop
 | mk (j : JV) (A : Option Addr) (c : Nat) (B : Option Addr) (d : Nat) (cs : Nat → List Value) (hA : RowS w A j.items.length cs) (oA : InB D A j.items.length)
   (hB : Rd w B j.keys.length (j.keys.map .string)) (oB : InB D B j.keys.length) (h : ∀ (i : Nat) (x : JV), j.items[i]? = some x → RAt D w (cs i) x) : RAt D w (refC j A c B d) j
theorem RAt.keep {D F : Nat → Prop} {w w' : World} {v : List Value} {j : JV} (h : RAt D w v j) (hk : Keeps F w w') (hF : ∀ i, D i → ¬ F i) : RAt D w' v j := by
 induction h with
 | mk j A c B d cs hA oA hB oB _ ih => exact .mk j A c B d cs (hA.keep hk (oA.out hF)) oA (hB.keep hk (oB.out hF)) oB ih
theorem RAt.stay {D : Nat → Prop} {w w' : World} {v : List Value} {j : JV} (h : RAt D w v j) (hk : Keeps (fun _ => False) w w') : RAt D w' v j := h.keep hk (fun _ _ h => h)
theorem RAt.len {D : Nat → Prop} {w : World} {v : List Value} {j : JV} (h : RAt D w v j) : v.length = 6 := by cases h; rfl
theorem RAt.one {D : Nat → Prop} {w : World} {v : List Value} {j : JV} (h : RAt D w v j) : ∀ u ∈ v, u.oneCell' = true := by cases h; exact refC_one _ _ _ _ _
theorem RAt.form {D : Nat → Prop} {w : World} {v : List Value} {j : JV} (h : RAt D w v j) : ∃ A c B d cs, v = refC j A c B d ∧ RowS w A j.items.length cs ∧ InB D A j.items.length ∧ Rd w B j.keys.length (j.keys.map .string) ∧ InB D B j.keys.length ∧ ∀ (i : Nat) (x : JV), j.items[i]? = some x → RAt D w (cs i) x := by
 cases h with
 | mk j A c B d cs hA oA hB oB h => exact ⟨A, c, B, d, cs, rfl, hA, oA, hB, oB, h⟩
theorem RowS.inB {w : World} {A : Option Addr} {n : Nat} {cs : Nat → List Value} {D C : Nat → Prop} (h : RowS w A n cs) (hcs : ∀ i, i < n → cs i ≠ []) (hD : InB D A n) (hC : ∀ i, D i → i < w.heap.size → C i) : InB C A n := fun hn a e => by
 obtain ⟨g, o, e2, hl⟩ := h hn
 rw [e] at e2
 injection e2 with e2
 subst e2
 refine hC _ (hD hn _ e) ?_
 have := hl 0 hn
 match hq : cs 0 with
 | [] => exact absurd hq (hcs 0 hn)
 | v :: _ =>
  rw [hq] at this
  have h1 := this 0 v rfl
  exact World.block_lt_of_cell? w _ h1
theorem RAt.mono {D C : Nat → Prop} {w : World} {v : List Value} {j : JV} (h : RAt D w v j) (hC : ∀ i, D i → i < w.heap.size → C i) : RAt C w v j := by
 induction h with
 | mk j A c B d cs hA oA hB oB h ih =>
  refine .mk j A c B d cs hA (hA.inB (fun i hi he => ?_) oA hC) hB (Rd.inB hB oB hC) ih
  have := (h i _ (List.getElem?_eq_getElem hi)).len
  rw [he] at this
  cases this
def RList (D : Nat → Prop) (w : World) (css : List (List Value)) (js : List JV) : Prop := css.length = js.length ∧ ∀ (i : Nat) (cs : List Value) (x : JV), css[i]? = some cs → js[i]? = some x → RAt D w cs x
theorem RList.nil (D : Nat → Prop) (w : World) : RList D w [] [] := ⟨rfl, fun i cs x h => by simp at h⟩
theorem RList.keep {D F : Nat → Prop} {w w' : World} {css : List (List Value)} {js : List JV} (h : RList D w css js) (hk : Keeps F w w') (hF : ∀ i, D i → ¬ F i) : RList D w' css js := ⟨h.1, fun i cs x h1 h2 => (h.2 i cs x h1 h2).keep hk hF⟩
theorem RList.stay {D : Nat → Prop} {w w' : World} {css : List (List Value)} {js : List JV} (h : RList D w css js) (hk : Keeps (fun _ => False) w w') : RList D w' css js := h.keep hk (fun _ _ h => h)
theorem RList.mono {D C : Nat → Prop} {w : World} {css : List (List Value)} {js : List JV} (h : RList D w css js) (hC : ∀ i, D i → i < w.heap.size → C i) : RList C w css js := ⟨h.1, fun i cs x h1 h2 => (h.2 i cs x h1 h2).mono hC⟩
theorem RList.app {D : Nat → Prop} {w : World} {css dss : List (List Value)} {js ks : List JV} (h : RList D w css js) (h2 : RList D w dss ks) : RList D w (css ++ dss) (js ++ ks) := by
 refine ⟨by rw [List.length_append, List.length_append, h.1, h2.1], fun i cs x h3 h4 => ?_⟩
 rcases Nat.lt_or_ge i css.length with hi | hi
 ·rw [List.getElem?_append_left hi] at h3
  rw [List.getElem?_append_left (by rw [← h.1]; exact hi)] at h4
  exact h.2 i cs x h3 h4
 ·rw [List.getElem?_append_right hi] at h3
  rw [List.getElem?_append_right (by rw [← h.1]; exact hi), ← h.1] at h4
  exact h2.2 _ cs x h3 h4
theorem RList.one {D : Nat → Prop} {w : World} {cs : List Value} {j : JV} (h : RAt D w cs j) : RList D w [cs] [j] := ⟨rfl, fun i c x h1 h2 => by
 match i with
 | 0 => simp at h1 h2; subst h1 h2; exact h
 | _ + 1 => simp at h1⟩
theorem RList.take {D : Nat → Prop} {w : World} {css : List (List Value)} {js : List JV} (h : RList D w css js) (k : Nat) : RList D w (css.take k) (js.take k) := by
 refine ⟨by rw [List.length_take, List.length_take, h.1], fun i cs x h3 h4 => ?_⟩
 rw [List.getElem?_take] at h3 h4
 split at h3
 ·rename_i hi; rw [if_pos hi] at h4; exact h.2 i cs x h3 h4
 ·cases h3
theorem RList.drop {D : Nat → Prop} {w : World} {css : List (List Value)} {js : List JV} (h : RList D w css js) (k : Nat) : RList D w (css.drop k) (js.drop k) := by
 refine ⟨by rw [List.length_drop, List.length_drop, h.1], fun i cs x h3 h4 => ?_⟩
 rw [List.getElem?_drop] at h3 h4
 exact h.2 _ cs x h3 h4
theorem RList.six {D : Nat → Prop} {w : World} {css : List (List Value)} {js : List JV} (h : RList D w css js) : ∀ c ∈ css, c.length = 6 := fun c hc => by
 obtain ⟨i, hi⟩ := List.getElem?_of_mem hc
 have hlt := (List.getElem?_eq_some_iff.1 hi).1
 exact (h.2 i c _ hi (List.getElem?_eq_getElem (by rw [← h.1]; exact hlt))).len
theorem RList.cells {D : Nat → Prop} {w : World} {css : List (List Value)} {js : List JV} (h : RList D w css js) : ∀ u ∈ css.flatten, u.oneCell' = true := fun u hu => by
 obtain ⟨c, hc, hu⟩ := List.mem_flatten.1 hu
 obtain ⟨i, hi⟩ := List.getElem?_of_mem hc
 have hlt := (List.getElem?_eq_some_iff.1 hi).1
 exact (h.2 i c _ hi (List.getElem?_eq_getElem (by rw [← h.1]; exact hlt))).one u hu
theorem flat_len : ∀ {css : List (List Value)}, (∀ c ∈ css, c.length = 6) → css.flatten.length = css.length * 6
 | [], _ => rfl
 | c :: css, h => by
  rw [List.flatten_cons, List.length_append, h c List.mem_cons_self, flat_len fun d hd => h d (List.mem_cons_of_mem _ hd), List.length_cons]
  omega
theorem flat_get : ∀ {css : List (List Value)} {i k : Nat} {c : List Value} {v : Value}, (∀ c ∈ css, c.length = 6) → css[i]? = some c → c[k]? = some v → css.flatten[i * 6 + k]? = some v
 | [], _, _, _, _, _, h, _ => by simp at h
 | d :: css, 0, k, c, v, _, h, h2 => by
  simp at h
  subst h
  rw [List.flatten_cons, List.getElem?_append_left (by rw [Nat.zero_mul, Nat.zero_add]; exact (List.getElem?_eq_some_iff.1 h2).1), Nat.zero_mul, Nat.zero_add]
  exact h2
 | d :: css, i + 1, k, c, v, hs, h, h2 => by
  have hd := hs d List.mem_cons_self
  rw [List.flatten_cons, List.getElem?_append_right (by rw [hd]; omega), hd, show (i + 1) * 6 + k - 6 = i * 6 + k by omega]
  exact flat_get (fun c hc => hs c (List.mem_cons_of_mem _ hc)) (by simpa using h) h2
theorem RowS.of {w : World} {A : Option Addr} {n : Nat} {css : List (List Value)} (h : RdS 6 w A n css.flatten) (hs : ∀ c ∈ css, c.length = 6) (hn : css.length = n) : RowS w A n fun i => css.getD i [] := fun h0 => by
 obtain ⟨g, o, e, hc⟩ := h.2 h0
 refine ⟨g, o, e, fun i hi k v hv => ?_⟩
 obtain ⟨c, hci⟩ : ∃ c, css[i]? = some c := ⟨_, List.getElem?_eq_getElem (by omega)⟩
 have hg : css.getD i [] = c := by rw [List.getD_eq_getElem?_getD, hci]; rfl
 have hv : (css.getD i [])[k]? = some v := hv
 rw [hg] at hv
 have hk : k < 6 := by rw [← hs c (List.mem_of_getElem? hci)]; exact (List.getElem?_eq_some_iff.1 hv).1
 have := hc (i * 6 + k) (by omega)
 rw [flat_get hs hci hv] at this
 show w.cell? ⟨g, o + i * 6 + k, none⟩ = some v
 rw [Nat.add_assoc]
 exact this
theorem RAt.of {D : Nat → Prop} {w : World} (j : JV) {A : Option Addr} {c : Nat} {B : Option Addr} {d : Nat} {css : List (List Value)} (hr : RList D w css j.items) (hA : RdS 6 w A j.items.length css.flatten) (oA : InB D A j.items.length)
  (hB : Rd w B j.keys.length (j.keys.map .string)) (oB : InB D B j.keys.length) : RAt D w (refC j A c B d) j := by
 refine .mk j A c B d (fun i => css.getD i []) (RowS.of hA hr.six hr.1) oA hB oB fun i x hx => ?_
 have hi : i < css.length := by rw [hr.1]; exact (List.getElem?_eq_some_iff.1 hx).1
 obtain ⟨cs, hcs⟩ : ∃ c, css[i]? = some c := ⟨_, List.getElem?_eq_getElem hi⟩
 have hg : css.getD i [] = cs := by rw [List.getD_eq_getElem?_getD, hcs]; rfl
 rw [hg]
 exact hr.2 i cs x hcs hx
theorem RAt.leaf {D : Nat → Prop} {w : World} (j : JV) (h : j.items = []) (h2 : j.keys = []) : RAt D w (refC j none 0 none 0) j := by
 have hi : j.items.length = 0 := by rw [h]; rfl
 have hk : j.keys.length = 0 := by rw [h2]; rfl
 refine .mk j none 0 none 0 (fun _ => []) (fun h0 => by omega) (fun h0 => by omega) ⟨by rw [h2]; rfl, fun h0 => by omega⟩ (fun h0 => by omega) fun i x hx => ?_
 rw [h] at hx
 simp at hx
end Go.Proofs.YtplleficmkfniaaGreatDoor
