/-
  WALKS (laws of hmac): alike, spoilAll.
-/
import Derived.Test.YtnlnbgjpbnjjfaaDoorSpoilW
import Derived.Test.YtnlnbgjpbnjjfaaDoorLentAllW
set_option linter.unusedSimpArgs false
namespace Go.Aff
open Go Go.RowKit
/-- As SpR, with what the row holds. -/
structure SpX (e : TypeId) (w wr : World) (A : Option Addr) (n c : Nat) (xs : List Value) (B : Option Addr) (m d : Nat) (ys : List Value) : Prop where
  own : wr.ownsRow 0 e 1 (.slice A n c) n xs
  row : wr.ownsRow 0 e 1 (.slice B m d) m ys
  near : (B = A ∧ d = c ∧ ys.take n = xs) ∨ ∀ h, (Value.slice B m d).ownBlock = some h → w.heap.size ≤ h
  keep : Keeps (fun g => (Value.slice A n c).ownBlock = some g) w wr
  old : ∀ g, (Value.slice A n c).ownBlock = some g → g < w.heap.size
  le : n ≤ m
theorem SpX.start {e : TypeId} {w wr : World} {A : Option Addr} {n c : Nat} {xs : List Value} (ho : wr.ownsRow 0 e 1 (.slice A n c) n xs) (hk : Keeps (fun g => (Value.slice A n c).ownBlock = some g) w wr)
    (hold : ∀ g, (Value.slice A n c).ownBlock = some g → g < w.heap.size) : SpX e w wr A n c xs A n c xs := ⟨ho, ho, .inl ⟨rfl, rfl, List.take_of_length_le (by have := ho.1; omega)⟩, hk, hold, Nat.le_refl _⟩
theorem SpX.again {e : TypeId} {w wr : World} {A B : Option Addr} {n c m d : Nat} {xs ys : List Value} (h : SpX e w wr A n c xs B m d ys) : SpX e w wr A n c xs A n c xs := .start h.own h.keep h.old
theorem SpX.step {e : TypeId} {w wr wr1 w' : World} {A B B' : Option Addr} {n c m d k d' : Nat} {xs ys news : List Value} (h : SpX e w wr A n c xs B m d ys) (hk : Keeps (fun _ => False) wr wr1)
    (hz : w'.ownsRow 0 e 1 (.slice B' (m + k) d') (m + k) (ys ++ news)) (hs : Split wr1 w' B m d B' d') : SpX e w w' A n c xs B' (m + k) d' (ys ++ news) := by
  have hx1 := hk.own h.own (fun _ _ h => h)
  have hkk : Keeps (fun g => (Value.slice A n c).ownBlock = some g) w wr1 := h.keep.trans hk (fun _ _ h => h.elim)
  have hsz := hkk.size
  have hle := h.le
  have hyl : ys.length = m := by simpa using h.row.1
  have hpre : (ys ++ news).take n = ys.take n := List.take_append_of_le_length (by omega)
  rcases hs with ⟨rfl, rfl, hg⟩ | ⟨rfl, hg⟩
  · rcases h.near with ⟨rfl, rfl, ht⟩ | hnew
    · have hsh := own_short hz (k := n) (by omega)
      rw [hpre, ht] at hsh
      exact ⟨hsh, hz, .inl ⟨rfl, rfl, by rw [hpre, ht]⟩, hkk.grown hg (fun g e => .inl (by cases B' <;> exact e)), h.old, by omega⟩
    · have hne : (Value.slice A n c).ownBlock = none ∨ (Value.slice A n c).ownBlock ≠ (Value.slice B' m d').ownBlock := by
        rcases hA : (Value.slice A n c).ownBlock with _ | g
        · exact .inl rfl
        · refine .inr fun he => ?_
          have h1 := h.old g hA
          have h2 := hnew g he.symm
          omega
      exact ⟨hx1.kept hg hne, hz, .inr fun h0 e0 => hnew h0 (by cases B' <;> exact e0), hkk.grown hg (fun g e => .inr (hnew g e)), h.old, by omega⟩
  · refine ⟨hx1.kept hg ?_, hz, .inr fun h0 e0 => ?_, hkk.grown hg (fun g e => by cases e), h.old, by omega⟩
    · rcases hA : (Value.slice A n c).ownBlock with _ | g
      · exact .inl rfl
      · exact .inr (by simp)
    · injection e0 with e0
      have e1 : wr1.heap.size = h0 := e0
      omega
theorem own_le {w : World} {base : Nat} {e : TypeId} {size : Nat} {A : Option Addr} {n c : Nat} {xs : List Value} (h : w.ownsRow base e size (.slice A n c) n xs) : n ≤ c := by
  rcases h.2 with ⟨hv, h0⟩ | ⟨g, cap, cur, hv, _, _, hle, _⟩
  · omega
  · injection hv with _ _ h3
    omega
/-- Rows of the call's own, each apart from the others, in a row of slices. -/
structure Apart (T e : TypeId) (w wr : World) (A : Option Addr) (n c : Nat) (vals : List Value) (f : Nat → List Value) : Prop where
  row : wr.ownsRow 0 T 1 (.slice A n c) n vals
  each : ∀ i, i < n → ∃ A' q c', vals[i]? = some (.slice A' q c') ∧ (f i).length = q ∧ q ≤ 140737488351232 ∧ wr.ownsRow 0 e 1 (.slice A' q c') q (f i)
  apart : ∀ (i j : Nat) (vi vj : Value), i < j → vals[i]? = some vi → vals[j]? = some vj → ∀ g, vi.ownBlock = some g → vj.ownBlock ≠ some g
  keep : Keeps (fun g => ∃ v ∈ vals, v.ownBlock = some g) w wr
  old : ∀ v ∈ vals, ∀ g, v.ownBlock = some g → g < w.heap.size
theorem Apart.ne {T e : TypeId} {w wr : World} {A : Option Addr} {n c : Nat} {vals : List Value} {f : Nat → List Value} (h : Apart T e w wr A n c vals f) {i j : Nat} {vi vj : Value} (hij : i ≠ j) (hi : vals[i]? = some vi) (hj : vals[j]? = some vj) {g : Nat} (hg : vi.ownBlock = some g) : vj.ownBlock ≠ some g := by
  rcases Nat.lt_or_gt_of_ne hij with hl | hl
  · exact h.apart i j vi vj hl hi hj g hg
  · intro he
    exact h.apart j i vj vi hl hj hi g he hg
/-- Part k is written, or its spare room is; the others stay. -/
theorem Apart.turn {T e : TypeId} (hne : T ≠ e) {w wr w' : World} {A : Option Addr} {n c : Nat} {vals : List Value} {f : Nat → List Value} (h : Apart T e w wr A n c vals f) {k : Nat} {A' : Option Addr} {q c' : Nat} {xs : List Value} (hk : vals[k]? = some (.slice A' q c'))
    (hkp : Keeps (fun g => (Value.slice A' q c').ownBlock = some g) wr w') (hown : w'.ownsRow 0 e 1 (.slice A' q c') q xs) : Apart T e w w' A n c vals (fun i => if i = k then xs else f i) := by
  have hmem : Value.slice A' q c' ∈ vals := List.mem_of_getElem? hk
  have hkn : k < n := by
    have h1 := (List.getElem?_eq_some_iff.1 hk).1
    have h2 := h.row.1
    omega
  obtain ⟨A0, q0, c0, e1, _, hq0, hx0⟩ := h.each k hkn
  rw [hk] at e1
  injection e1 with e1
  injection e1 with e1 e2 e3
  subst e1 e2 e3
  refine ⟨hkp.own h.row (fun g hg hF => own_types h.row hx0 hne hg hF), fun i hi => ?_, h.apart, h.keep.trans hkp (fun i _ hF => ⟨_, hmem, hF⟩), h.old⟩
  by_cases hik : i = k
  · subst hik
    exact ⟨A', q, c', hk, by simp only [if_true]; simpa using hown.1, hq0, by simp only [if_true]; exact hown⟩
  · obtain ⟨A1, q1, c1, a, b, bq, d⟩ := h.each i hi
    refine ⟨A1, q1, c1, a, by simp only [hik, if_false]; exact b, bq, ?_⟩
    simp only [hik, if_false]
    exact hkp.own d (fun g hg hF => h.ne (fun e => hik e.symm) hk a hF hg)
/-- A cell of part k is written. -/
theorem Apart.set {T e : TypeId} (hne : T ≠ e) {w wr : World} {A : Option Addr} {n c : Nat} {vals : List Value} {f : Nat → List Value} (h : Apart T e w wr A n c vals f) {k : Nat} {g q c' : Nat} (hk : vals[k]? = some (.slice (some ⟨g, 0, none⟩) q c'))
    (hown : wr.ownsRow 0 e 1 (.slice (some ⟨g, 0, none⟩) q c') q (f k)) (i : Nat) (hi : i < q) (u : Value) : Apart T e w (wr.setCell ⟨g, i, none⟩ u) A n c vals (fun j => if j = k then (f k).set i u else f j) :=
  h.turn hne hk ((Keeps.refl (fun x => (Value.slice (some ⟨g, 0, none⟩) q c').ownBlock = some x) wr).setCell (p := ⟨g, i, none⟩) (.inl rfl) u) (own_set hown i hi u)
theorem Apart.grown {T e : TypeId} (hne : T ≠ e) {w wr w' : World} {A : Option Addr} {n c : Nat} {vals : List Value} {f : Nat → List Value} (h : Apart T e w wr A n c vals f) {k : Nat} {A' : Option Addr} {q c' : Nat} (hk : vals[k]? = some (.slice A' q c'))
    {B : Option Addr} {m d : Nat} {ys : List Value} (hs : SpX e wr w' A' q c' (f k) B m d ys) : Apart T e w w' A n c vals f := by
  have h1 := h.turn hne hk hs.keep hs.own
  have e1 : (fun i => if i = k then f k else f i) = f := by
    funext i
    by_cases hi : i = k
    · simp [hi]
    · simp [hi]
  rwa [e1] at h1
end Go.Aff
namespace Go.Proofs.YtnlnbgjpbnjjfaaDoor
open Go Go.RowKit Go.Sha Go.Aff Go.Mac

/-- The parts that were made, as rows that read as lists. -/
theorem PartsV.parts {F : Nat → Prop} {w wr : World} {A : Option Addr} {k c : Nat} {vals : List Value} {pss : List (List Int)} (h : PartsV w wr A k c vals pss) (hb : ∀ bs ∈ pss, IsBytes bs ∧ bs.length ≤ 140737488351232) (hF : ∀ g, F g → g < w.heap.size) : RdPartsO F wr A pss := by
  have hr := Rd.of_own h.row.1
  rw [← h.len] at hr
  have ho : ∀ {B : Option Addr} {m d : Nat} {e : TypeId} {xs : List Value}, Mine w wr e B m d xs → Out F B m := fun hm _ ad e hf => by
    have h1 := hm.2.2 ad.block (by rw [e]; rfl)
    have h2 := hF _ hf
    omega
  refine ⟨vals, hr, by rw [h.len]; exact ho h.row, fun i bs hi => ?_⟩
  obtain ⟨A', c', a, b⟩ := h.each i bs hi
  have h2 := hb bs (List.mem_of_getElem? hi)
  exact ⟨A', c', a, Rd.of_own b.1, ho b, h2.1, own_le b.1, h2.2⟩
theorem RdPartsO.weaken {F G : Nat → Prop} {w : World} {A : Option Addr} {pss : List (List Int)} (h : RdPartsO F w A pss) (hG : ∀ i, G i → F i) : RdPartsO G w A pss := by
  obtain ⟨vals, h1, h2, h3⟩ := h
  refine ⟨vals, h1, h2.mono hG, fun i bs hi => ?_⟩
  obtain ⟨A', c', a, b, c, d⟩ := h3 i bs hi
  exact ⟨A', c', a, b, c.mono hG, d⟩
theorem PartsV.spread {w wr : World} {A : Option Addr} {k c : Nat} {vals : List Value} {pss : List (List Int)} (h : PartsV w wr A k c vals pss) (hb : ∀ bs ∈ pss, IsBytes bs ∧ bs.length ≤ 140737488351232) : Apart 22 5 wr wr A k c vals (fun i => vb (pss.getD i [])) := by
  refine ⟨h.row.1, fun i hi => ?_, h.apart, Keeps.refl _ _, fun v hv g hg => ?_⟩
  · have hlt : i < pss.length := by have := h.len; omega
    obtain ⟨A', c', a, b⟩ := h.each i _ (List.getElem?_eq_getElem hlt)
    have e : pss.getD i [] = pss[i] := by simp [hlt]
    rw [e]
    exact ⟨A', _, c', a, vb_length _, (hb _ (List.getElem_mem hlt)).2, b.1⟩
  · obtain ⟨i, hi⟩ := List.mem_iff_getElem?.1 hv
    have hlt : i < pss.length := by have := (List.getElem?_eq_some_iff.1 hi).1; rw [h.vlen, ← h.len] at this; exact this
    obtain ⟨A', c', a, b⟩ := h.each i _ (List.getElem?_eq_getElem hlt)
    rw [hi] at a
    injection a with a
    subst a
    exact (b.1.lt g hg).2

set_option maxHeartbeats 1000000 in
set_option maxRecDepth 100000 in
theorem alike_any (w : World) (A B : Option Addr) (n c d : Nat) (pss : List (List Int)) (hnn : pss.length = n) (ha : RdPartsO (fun _ => False) w A pss) (hb : RdPartsO (fun _ => False) w B pss) (hn : n ≤ 140737488351232) :
    Calls Tryd.prog 17 #[.slice A n c, .slice B n d] w fun e w' => e = .returned (.bool true) ∧ Keeps (fun _ => False) w w' := by
  have HLO : Hid (∀ (wr : World) (k : Nat), Keeps (fun _ => False) w wr → k < n → ∃ (ga oa gb ob q : Nat) (A' : Option Addr) (c' : Nat) (B' : Option Addr) (d' : Nat) (s : ByteArray), A = some ⟨ga, oa, none⟩ ∧ B = some ⟨gb, ob, none⟩ ∧ wr.cell? ⟨ga, oa + k, none⟩ = some (.slice A' q c') ∧ wr.cell? ⟨gb, ob + k, none⟩ = some (.slice B' q d') ∧
      (∀ x, (convert 22 9 (.slice A' q c')).run Tryd.prog (wr.drewN x) = .ok (.string s) (wr.drewN x)) ∧ (∀ x, (convert 22 9 (.slice B' q d')).run Tryd.prog (wr.drewN x) = .ok (.string s) (wr.drewN x))) := Lib.hid fun wr k hk hlt => by
    obtain ⟨ga, oa, bs, A', c', h1, h2, h3, h4, _, _, _⟩ := ha.at (k := k) hk (fun _ h => h) (by omega)
    obtain ⟨gb, ob, bs', B', d', g1, g2, g3, g4, _, _, _⟩ := hb.at (k := k) hk (fun _ h => h) (by omega)
    rw [h2] at g2
    injection g2 with g2
    subst g2
    exact ⟨ga, oa, gb, ob, bs.length, A', c', B', d', strOfNums bs, h1, g1, h3, g3, fun x => convert_rd (P := Tryd.prog) (wr.drewN x) Tryd.underlying22 Tryd.underlying5 Tryd.underlying9 c' h4, fun x => convert_rd (P := Tryd.prog) (wr.drewN x) Tryd.underlying22 Tryd.underlying5 Tryd.underlying9 d' g4⟩
  clear ha hb hnn
  go_enter Tryd.func17, Tryd.ntmps17
  go_wp2
  go_loopw [5, 13] (fun _ i wr => ∃ k : Nat, k ≤ n ∧ i = .int .i64 k ∧ Hid (Keeps (fun _ => False) w wr)) (fun _ i _ => n - (intOf i).toNat)
  case atStart => exact ⟨0, by omega, rfl, Lib.hid (Keeps.refl _ _)⟩
  case round =>
    obtain ⟨k, hk, rfl, HK⟩ := hrel
    by_cases hlt : k < n
    · obtain ⟨ga, oa, gb, ob, q, A', c', B', d', s, hA, hB, hca, hcb, cv1, cv2⟩ := HLO.out wr k HK.out hlt
      subst hA hB
      go_wp2
      go_quiet (fail)
      go_wp2
      go_roundw
      case rel => exact ⟨k + 1, by omega, by go_num, Lib.hid (HK.out.drewN _)⟩
      case measure => simp [intOf]; omega
    · go_wp2
      go_ret
      exact ⟨rfl, HK.out⟩

/-- A part's mark. -/
def markF (i : Nat) : Int := ((i : Int) + 1) % 256
abbrev marked (q i : Nat) : List Value := List.replicate q (Value.int .u8 (markF i))
theorem set_take {xs : List Value} {k : Nat} {u : Value} (h : k < xs.length) (ht : xs.take k = List.replicate k u) : (xs.set k u).take (k + 1) = List.replicate (k + 1) u := by
  rw [List.take_succ_eq_append_getElem (by simpa using h)]
  simp [List.take_set, ht, List.replicate_succ']

set_option maxHeartbeats 2000000 in
set_option maxRecDepth 100000 in
theorem spoilAll_any (w : World) (A : Option Addr) (n c : Nat) (vals : List Value) (f0 : Nat → List Value) (h0 : Apart 22 5 w w A n c vals f0) (hn : n ≤ 140737488351232) :
    Calls Tryd.prog 18 #[.slice A n c] w fun e w' => e = .returned (.bool true) ∧ Keeps (fun g => ∃ v ∈ vals, v.ownBlock = some g) w w' := by
  have hform : n = 0 ∨ ∃ ga, A = some ⟨ga, 0, none⟩ := by
    rcases Nat.eq_zero_or_pos n with h | h
    · exact .inl h
    · obtain ⟨g, _, e, _⟩ := h0.row.form h
      injection e with e
      exact .inr ⟨g, e⟩
  have H0 := Lib.hid h0
  clear h0
  go_enter Tryd.func18, Tryd.ntmps18
  go_wp2
  go_loopw [3, 4, 5, 15] (fun _ _ _ i wr => ∃ (k : Nat) (f : Nat → List Value), k ≤ n ∧ i = .int .i64 k ∧ Hid (Apart 22 5 w wr A n c vals f) ∧ Hid (∀ i, i < k → f i = marked (f i).length i)) (fun _ _ _ i _ => n - (intOf i).toNat)
  case atStart => exact ⟨0, f0, by omega, rfl, H0, Lib.hid fun i hi => by omega⟩
  case round =>
    clear H0
    obtain ⟨k, f, hk, rfl, HA, HF⟩ := hrel
    by_cases hlt : k < n
    · obtain ⟨ga, rfl⟩ := hform.resolve_left (by omega)
      clear hform
      obtain ⟨A1, q, c1, hv, hlen, hq, hown⟩ := HA.out.each k hlt
      have hcell := (own_cell HA.out.row k hlt).trans hv
      have HV := Lib.hid hv
      have HLEN := Lib.hid hlen
      obtain ⟨wo, rfl⟩ : ∃ wo : World, wo = wr := ⟨_, rfl⟩
      clear hv hlen hown
      go_wp2
      go_loopw [5, 22] (fun _ i wr => ∃ (k2 : Nat) (f' : Nat → List Value), k2 ≤ q ∧ i = .int .i64 k2 ∧ Hid (Apart 22 5 w wr (some ⟨ga, 0, none⟩) n c vals f') ∧ Hid (∀ i, i < k → f' i = marked (f' i).length i) ∧ Hid ((f' k).take k2 = List.replicate k2 (.int .u8 (markF k)))) (fun _ i _ => q - (intOf i).toNat)
      case atStart => exact ⟨0, f, by omega, rfl, HA, HF, Lib.hid (by simp)⟩
      case round =>
        clear HA HF
        obtain ⟨k2, f', hk2, rfl, HA2, HF2, HT2⟩ := hrel
        obtain ⟨A3, q3, c3, hv3, hlen3, hq3, hown3⟩ := HA2.out.each k hlt
        rw [HV.out] at hv3
        injection hv3 with hv3
        injection hv3 with e1 e2 e3
        subst e1 e2 e3
        by_cases hlt2 : k2 < q
        · obtain ⟨g1, _, e1, _⟩ := hown3.form (by omega)
          injection e1 with e1
          subst e1
          have hcell2 : ∃ u, wr.cell? ⟨g1, k2, none⟩ = some u := ⟨_, (own_cell hown3 k2 hlt2).trans (List.getElem?_eq_getElem (by omega))⟩
          obtain ⟨u, hcell2⟩ := hcell2
          have hfz := own_frozen hown3 k2
          have HAN : Hid (Apart 22 5 w (wr.setCell ⟨g1, k2, none⟩ (.int .u8 (markF k))) (some ⟨ga, 0, none⟩) n c vals (fun j => if j = k then (f' k).set k2 (.int .u8 (markF k)) else f' j)) := Lib.hid (HA2.out.set (by decide) HV.out hown3 k2 hlt2 _)
          have HTN : Hid (((f' k).set k2 (.int .u8 (markF k))).take (k2 + 1) = List.replicate (k2 + 1) (.int .u8 (markF k))) := Lib.hid (set_take (by omega) HT2.out)
          clear hlen3 hown3
          go_wp2
          go_roundw
          case rel => exact ⟨k2 + 1, _, by omega, by go_num, HAN, Lib.hid (fun i hi => by simp only [show i ≠ k by omega, if_false]; exact HF2.out i hi), Lib.hid (by simp only [if_true]; exact HTN.out)⟩
          case measure => simp [intOf]; omega
        · obtain rfl : k2 = q := by omega
          have hfk : f' k = marked (f' k).length k := by
            have h1 := HT2.out
            rw [List.take_of_length_le (by omega)] at h1
            rw [hlen3]; exact h1
          have HFN : Hid (∀ i, i < k + 1 → f' i = marked (f' i).length i) := Lib.hid fun i hi => by
            by_cases h : i = k
            · rw [h]; exact hfk
            · exact HF2.out i (by omega)
          clear hlen3 hown3 hfk
          go_wp2
          go_roundw
          case rel => exact ⟨k + 1, f', by omega, by go_num, HA2, HFN⟩
          case measure => simp [intOf]; omega
    · obtain rfl : k = n := by omega
      go_wp2
      go_loopw [6, 7, 8, 9, 35] (fun _ _ _ _ i wr => ∃ (k2 : Nat), k2 ≤ k ∧ i = .int .i64 k2 ∧ Hid (Apart 22 5 w wr A k c vals f)) (fun _ _ _ _ i _ => k - (intOf i).toNat)
      case atStart => exact ⟨0, by omega, rfl, HA⟩
      case round =>
        clear HA
        obtain ⟨k2, hk2, rfl, HA⟩ := hrel
        by_cases hlt2 : k2 < k
        · obtain ⟨ga, rfl⟩ := hform.resolve_left (by omega)
          clear hform
          obtain ⟨A1, q, c1, hv, hlen, hq, hown⟩ := HA.out.each k2 hlt2
          have hcell := (own_cell HA.out.row k2 hlt2).trans hv
          have HS0 : Hid (SpX 5 wr wr A1 q c1 (f k2) A1 q c1 (f k2)) := Lib.hid (SpX.start hown (Keeps.refl _ _) fun g hg => (hown.lt g hg).2)
          have HV := Lib.hid hv
          obtain ⟨wo, rfl⟩ : ∃ wo : World, wo = wr := ⟨_, rfl⟩
          clear hv hlen hown
          go_wp2
          go_loopw [8, 9] (fun v i wr => ∃ (k3 m : Nat) (B : Option Addr) (d : Nat) (ys : List Value), k3 ≤ 20 ∧ m ≤ q + 20 ∧ i = .int .i64 k3 ∧ v = .slice B m d ∧ Hid (m = q + k3) ∧ Hid (SpX 5 wo wr A1 q c1 (f k2) B m d ys)) (fun _ i _ => 20 - (intOf i).toNat)
          case atStart => exact ⟨0, q, _, _, _, by omega, by omega, rfl, rfl, Lib.hid rfl, HS0⟩
          case round =>
            clear HS0
            obtain ⟨k3, m, B, d, ys, hk3, hm, rfl, rfl, HM, HS⟩ := hrel
            by_cases hlt3 : k3 < 20
            · have HO2 := Lib.hid (HS.out.row.alloc (.cells #[.int .u8 (((k2 : Int) + 101) % 256)] 5))
              have HRD := Lib.hid (Rd.of_blk (Blk.new wr 5 [.int .u8 (((k2 : Int) + 101) % 256)]) (n := 1) rfl)
              go_wp2_with (at_builtin; refine wpList_append_split _ rfl (.tmp 45) (.tmp 49) 22 rfl 5 (.int .u8 0) 1 Tryd.underlying22 info5 rfl B m d ys rfl HO2.out _ 1 1 [.int .u8 (((k2 : Int) + 101) % 256)] rfl HRD.out (by intro u hu; rw [List.mem_singleton.1 hu]; rfl) (by unfold maxLen; omega) (by omega) ?_; intro A4 c4 w4 hown hsp; have HNX := Lib.hid (HS.out.step ((Keeps.refl _ wr).alloc (.cells #[.int .u8 (((k2 : Int) + 101) % 256)] 5)) hown hsp); clear hown hsp)
              go_roundw
              case rel => exact ⟨k3 + 1, m + 1, A4, c4, _, by omega, by have := HM.out; omega, by go_num, rfl, Lib.hid (by have := HM.out; omega), HNX⟩
              case measure => simp [intOf]; omega
            · have HSA := Lib.hid HS.out.again
              go_wp2_with (at_builtin; refine wpList_zeros_split _ rfl (.tmp 51) (.const (.int .i64 70)) 22 3 rfl 5 (.int .u8 0) 1 .i64 .i64 Tryd.underlying22 Tryd.underlying3 info5 rfl rfl A1 q c1 _ rfl HSA.out.row 70 rfl (by omega) (by unfold maxLen; omega) (by omega) ?_; intro A4 c4 w4 hown hsp; have HNX := Lib.hid (HSA.out.step (Keeps.refl _ _) hown hsp); clear hown hsp)
              have HAN := Lib.hid (HA.out.grown (by decide) HV.out HNX.out)
              go_roundw
              case rel => exact ⟨k2 + 1, by omega, by go_num, HAN⟩
              case measure => simp [intOf]; omega
        · obtain rfl : k2 = k := by omega
          go_wp2
          have HLO : Hid (∀ j, j < k2 → ∃ ga A' q c', A = some ⟨ga, 0, none⟩ ∧ wr.cell? ⟨ga, j, none⟩ = some (.slice A' q c') ∧ q ≤ 140737488351232 ∧ ∀ i, i < q → ∃ g, A' = some ⟨g, 0, none⟩ ∧ wr.cell? ⟨g, i, none⟩ = some (.int .u8 (markF j))) := Lib.hid fun j hj => by
            obtain ⟨ga, e⟩ := hform.resolve_left (by omega)
            subst e
            obtain ⟨A1, q, c1, hv, hlen, hq, hown⟩ := HA.out.each j hj
            refine ⟨ga, A1, q, c1, rfl, (own_cell HA.out.row j hj).trans hv, hq, fun i hi => ?_⟩
            obtain ⟨g1, _, e1, _⟩ := hown.form (by omega)
            injection e1 with e1
            subst e1
            refine ⟨g1, rfl, ?_⟩
            rw [own_cell hown i hi, HF.out j hj, List.getElem?_replicate, if_pos (by omega)]
          have HEND := Lib.hid HA.out.keep
          clear hform
          go_loop [10, 11, 12, 62] (fun _ _ _ i => ∃ (k3 : Nat), k3 ≤ k2 ∧ i = .int .i64 k3) (fun _ _ _ i => k2 - (intOf i).toNat)
          case atStart => exact ⟨0, by omega, rfl⟩
          case round =>
            obtain ⟨k3, hk3, rfl⟩ := hrel
            by_cases hlt3 : k3 < k2
            · obtain ⟨ga, A', q, c', hA, hca, hq, hcs⟩ := HLO.out k3 hlt3
              subst hA
              have HCS := Lib.hid hcs
              clear hcs
              go_wp2
              go_loop [12, 69] (fun _ i => ∃ (k4 : Nat), k4 ≤ q ∧ i = .int .i64 k4) (fun _ i => q - (intOf i).toNat)
              case atStart => exact ⟨0, by omega, rfl⟩
              case round =>
                obtain ⟨k4, hk4, rfl⟩ := hrel
                by_cases hlt4 : k4 < q
                · obtain ⟨g, hA', hc4⟩ := HCS.out k4 hlt4
                  subst hA'
                  unfold markF at hc4
                  go_wp2
                  go_round
                  case rel => exact ⟨k4 + 1, by omega, by go_num⟩
                  case measure => simp [intOf]; omega
                · go_wp2
                  go_round
                  case rel => exact ⟨k3 + 1, by omega, by go_num⟩
                  case measure => simp [intOf]; omega
            · go_wp2
              go_ret
              exact ⟨rfl, HEND.out⟩
end Go.Proofs.YtnlnbgjpbnjjfaaDoor
