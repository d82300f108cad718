/-
  WALKS: slices.IndexFunc, slices.ContainsFunc over what was seen; the law's first.
-/
import Derived.Test.YtinonjfnhedlpaaDoorFFirstW
import Derived.Test.YtinonjfnhedlpaaDoorFTypesK
import Derived.Test.YtinonjfnhedlpaaDoorFLookW
import Derived.Deep.LoopGhost
set_option linter.unusedSimpArgs false
namespace Go.Proofs.YtinonjfnhedlpaaDoor
open Go Go.RowKit Go.Aff Go.Fault
/-- What was seen, in memory. -/
def SeenAt (W : World) (A : Option Addr) (L : List (Nat × VT)) : Prop := ∀ (k : Nat) (p : Nat × VT), L[k]? = some p → ∃ g, A = some ⟨g, 0, none⟩ ∧ W.rangeAt g (k * 6) (seenV p.1 p.2)
theorem SeenAt.keep {W W' : World} {A : Option Addr} {L : List (Nat × VT)} (h : SeenAt W A L) (k : Keeps (fun _ => False) W W') : SeenAt W' A L := fun j p hp => by
  obtain ⟨g, e, r⟩ := h j p hp
  exact ⟨g, e, fun f y hf => cell_keep k (r f y hf)⟩
theorem seen_shape6 (d : Nat) (x : VT) : ∃ s2 s3 s4 s5, seenV d x = [.int .i64 (kindF x), .int .i64 d, s2, s3, s4, s5] := by
  cases x <;> exact ⟨_, _, _, _, rfl⟩
def idxF (P : VT → Bool) (L : List (Nat × VT)) : Int := match L.findIdx? (fun p => P p.2) with
  | some i => (i : Nat)
  | none => -1
theorem idx_hit {P : VT → Bool} {L : List (Nat × VT)} {j : Nat} {p : Nat × VT} (hn : ∀ (q : Nat) (p : Nat × VT), q < j → L[q]? = some p → P p.2 = false) (hp : L[j]? = some p) (h : P p.2 = true) : idxF P L = (j : Nat) := by
  obtain ⟨hl, hp⟩ := List.getElem?_eq_some_iff.1 hp
  have h1 : L.findIdx? (fun p => P p.2) = some j := by
    rw [List.findIdx?_eq_some_iff_getElem]
    refine ⟨hl, by rw [hp]; exact h, fun q hq => ?_⟩
    rw [hn q _ hq (List.getElem?_eq_getElem (by omega))]
    decide
  unfold idxF
  rw [h1]
theorem idx_miss {P : VT → Bool} {L : List (Nat × VT)} (hn : ∀ (q : Nat) (p : Nat × VT), q < L.length → L[q]? = some p → P p.2 = false) : idxF P L = -1 := by
  have h1 : L.findIdx? (fun p => P p.2) = none := by
    rw [List.findIdx?_eq_none_iff]
    intro p hp
    obtain ⟨q, hq⟩ := List.getElem?_of_mem hp
    rw [hn q p (List.getElem?_eq_some_iff.1 hq).1 hq]
  unfold idxF
  rw [h1]
structure IxInv (w wr : World) (P : VT → Bool) (L : List (Nat × VT)) (j : Nat) : Prop where
  keep : Keeps (fun _ => False) w wr
  none_ : ∀ (q : Nat) (p : Nat × VT), q < j → L[q]? = some p → P p.2 = false
set_option maxHeartbeats 4000000 in
set_option maxRecDepth 100000 in
theorem index_found (w : World) (A : Option Addr) (n c : Nat) (L : List (Nat × VT)) (a : Addr) (P : VT → Bool) (hn : L.length = n) (hb : n ≤ 1048576) (hS : SeenAt w A L)
    (HP : ∀ (W : World) (p : Nat × VT), Keeps (fun _ => False) w W → Calls Tryd.prog 9 #[.agg (seenV p.1 p.2).toArray, .pointer (some a)] W fun e w' => e = .returned (.bool (P p.2)) ∧ Keeps (fun _ => False) W w') :
    Calls Tryd.prog 20 #[.slice A n c, .func (.func 9) #[] #[.pointer (some a)]] w fun e w' => e = .returned (.int .i64 (idxF P L)) ∧ Keeps (fun _ => False) w w' := by
  have HS := Lib.hid hS
  have HPP := Lib.hid HP
  have HN := Lib.hid hn
  clear hS hn HP
  go_enter Tryd.func20, Tryd.ntmps20
  go_upto_block 0 with fail
  go_wp2
  go_loopg [8] n (fun g2 i w3 => ∃ j, j ≤ n ∧ i = .int .i64 j ∧ g2 = n - j ∧ Hid (IxInv w w3 P L j))
  case atStart => exact ⟨0, by omega, rfl, rfl, Lib.hid ⟨Keeps.refl _ w, fun q p hq => by omega⟩⟩
  case round =>
    obtain ⟨j, hj, rfl, hg2, HA⟩ := hrel
    have HG2 := Lib.hid hg2
    clear hg2
    by_cases hlt : j < n
    · obtain ⟨p, hp⟩ : ∃ p, L[j]? = some p := ⟨_, List.getElem?_eq_getElem (by have := HN.out; omega)⟩
      obtain ⟨g, hA, hr⟩ := HS.out.keep HA.out.keep j p hp
      subst hA
      obtain ⟨s2, s3, s4, s5, hs6⟩ := seen_shape6 p.1 p.2
      have HCL : Hid (Calls Tryd.prog 9 #[.agg #[.int .i64 (kindF p.2), .int .i64 p.1, s2, s3, s4, s5], .pointer (some a)] wr fun e w' => e = .returned (.bool (P p.2)) ∧ Keeps (fun _ => False) wr w') := Lib.hid (by
        have h1 := HPP.out wr p HA.out.keep
        rw [hs6] at h1
        exact h1)
      rw [hs6] at hr
      have q0 := hr 0 _ rfl
      have q1 := hr 1 _ rfl
      have q2 := hr 2 _ rfl
      have q3 := hr 3 _ rfl
      have q4 := hr 4 _ rfl
      have q5 := hr 5 _ rfl
      rw [Nat.add_zero] at q0
      have HP1 := Lib.hid hp
      clear hr hs6 hp
      cases hP : P p.2 with
      | true =>
        rw [hP] at HCL
        have HI : Hid (idxF P L = (j : Nat)) := Lib.hid (idx_hit HA.out.none_ HP1.out hP)
        clear hP
        go_wp2_with (go_at_call 9; refine HCL.out.mono ?_; rintro e w4 ⟨rfl, hk4⟩; have HK4 := Lib.hid hk4; clear hk4)
        go_ret
        refine ⟨?_, HA.out.keep.trans HK4.out (fun _ _ h => h)⟩
        rw [HI.out]
        rfl
      | false =>
        rw [hP] at HCL
        have HPF := Lib.hid hP
        clear hP
        go_wp2_with (go_at_call 9; refine HCL.out.mono ?_; rintro e w4 ⟨rfl, hk4⟩; have HK4 := Lib.hid hk4; clear hk4)
        go_roundg (n - (j + 1))
        case measure => rw [HG2.out]; omega
        case rel => exact ⟨j + 1, by omega, by go_num, rfl, Lib.hid ⟨HA.out.keep.trans HK4.out (fun _ _ h => h), fun q y hq hy => by
          rcases Nat.lt_or_ge q j with h | h
          · exact HA.out.none_ q y h hy
          · obtain rfl : q = j := by omega
            have h1 := HP1.out
            rw [hy] at h1
            injection h1 with h1
            rw [h1]
            exact HPF.out⟩⟩
    · obtain rfl : j = n := by omega
      have HI : Hid (idxF P L = -1) := Lib.hid (idx_miss fun q p hq hp => HA.out.none_ q p (by have := HN.out; omega) hp)
      go_wp2
      go_ret
      refine ⟨?_, HA.out.keep⟩
      rw [HI.out]
      rfl
set_option maxHeartbeats 4000000 in
set_option maxRecDepth 100000 in
theorem index_first (w : World) (A : Option Addr) (n c : Nat) (L : List (Nat × VT)) (a : Addr) (P : VT → Bool) (hn : L.length = n) (hb : n ≤ 1048576) (hS : SeenAt w A L)
    (HP : ∀ (W : World) (p : Nat × VT), Keeps (fun _ => False) w W → Calls Tryd.prog 29 #[.agg (seenV p.1 p.2).toArray, .pointer (some a)] W fun e w' => e = .returned (.bool (P p.2)) ∧ Keeps (fun _ => False) W w') :
    Calls Tryd.prog 20 #[.slice A n c, .func (.func 29) #[] #[.pointer (some a)]] w fun e w' => e = .returned (.int .i64 (idxF P L)) ∧ Keeps (fun _ => False) w w' := by
  have HS := Lib.hid hS
  have HPP := Lib.hid HP
  have HN := Lib.hid hn
  clear hS hn HP
  go_enter Tryd.func20, Tryd.ntmps20
  go_upto_block 0 with fail
  go_wp2
  go_loopg [8] n (fun g2 i w3 => ∃ j, j ≤ n ∧ i = .int .i64 j ∧ g2 = n - j ∧ Hid (IxInv w w3 P L j))
  case atStart => exact ⟨0, by omega, rfl, rfl, Lib.hid ⟨Keeps.refl _ w, fun q p hq => by omega⟩⟩
  case round =>
    obtain ⟨j, hj, rfl, hg2, HA⟩ := hrel
    have HG2 := Lib.hid hg2
    clear hg2
    by_cases hlt : j < n
    · obtain ⟨p, hp⟩ : ∃ p, L[j]? = some p := ⟨_, List.getElem?_eq_getElem (by have := HN.out; omega)⟩
      obtain ⟨g, hA, hr⟩ := HS.out.keep HA.out.keep j p hp
      subst hA
      obtain ⟨s2, s3, s4, s5, hs6⟩ := seen_shape6 p.1 p.2
      have HCL : Hid (Calls Tryd.prog 29 #[.agg #[.int .i64 (kindF p.2), .int .i64 p.1, s2, s3, s4, s5], .pointer (some a)] wr fun e w' => e = .returned (.bool (P p.2)) ∧ Keeps (fun _ => False) wr w') := Lib.hid (by
        have h1 := HPP.out wr p HA.out.keep
        rw [hs6] at h1
        exact h1)
      rw [hs6] at hr
      have q0 := hr 0 _ rfl
      have q1 := hr 1 _ rfl
      have q2 := hr 2 _ rfl
      have q3 := hr 3 _ rfl
      have q4 := hr 4 _ rfl
      have q5 := hr 5 _ rfl
      rw [Nat.add_zero] at q0
      have HP1 := Lib.hid hp
      clear hr hs6 hp
      cases hP : P p.2 with
      | true =>
        rw [hP] at HCL
        have HI : Hid (idxF P L = (j : Nat)) := Lib.hid (idx_hit HA.out.none_ HP1.out hP)
        clear hP
        go_wp2_with (go_at_call 29; refine HCL.out.mono ?_; rintro e w4 ⟨rfl, hk4⟩; have HK4 := Lib.hid hk4; clear hk4)
        go_ret
        refine ⟨?_, HA.out.keep.trans HK4.out (fun _ _ h => h)⟩
        rw [HI.out]
        rfl
      | false =>
        rw [hP] at HCL
        have HPF := Lib.hid hP
        clear hP
        go_wp2_with (go_at_call 29; refine HCL.out.mono ?_; rintro e w4 ⟨rfl, hk4⟩; have HK4 := Lib.hid hk4; clear hk4)
        go_roundg (n - (j + 1))
        case measure => rw [HG2.out]; omega
        case rel => exact ⟨j + 1, by omega, by go_num, rfl, Lib.hid ⟨HA.out.keep.trans HK4.out (fun _ _ h => h), fun q y hq hy => by
          rcases Nat.lt_or_ge q j with h | h
          · exact HA.out.none_ q y h hy
          · obtain rfl : q = j := by omega
            have h1 := HP1.out
            rw [hy] at h1
            injection h1 with h1
            rw [h1]
            exact HPF.out⟩⟩
    · obtain rfl : j = n := by omega
      have HI : Hid (idxF P L = -1) := Lib.hid (idx_miss fun q p hq hp => HA.out.none_ q p (by have := HN.out; omega) hp)
      go_wp2
      go_ret
      refine ⟨?_, HA.out.keep⟩
      rw [HI.out]
      rfl
set_option maxHeartbeats 4000000 in
set_option maxRecDepth 100000 in
theorem found1_any (w : World) (a : Addr) (no : Int) (p : Nat × VT) (hc : w.cell? a = some (.int .i64 no)) : Calls Tryd.prog 9 #[.agg (seenV p.1 p.2).toArray, .pointer (some a)] w fun e w' => e = .returned (.bool (isNum no p.2)) ∧ Keeps (fun _ => False) w w' := by
  obtain ⟨d, x⟩ := p
  have hal : a.block < w.heap.size := World.block_lt_of_cell? w a hc
  have hc2 : ∀ cs, (w.alloc (.cells cs 36)).cell? a = some (.int .i64 no) := fun cs => by rw [World.cell?_alloc_lt _ _ a hal]; exact hc
  cases x with
  | nil =>
    simp only [seenV, isNum]
    go_enter Tryd.func9, Tryd.ntmps9
    go_wp2
    go_ret
    exact ⟨rfl, (Keeps.refl _ w).alloc _⟩
  | spot k b =>
    simp only [seenV, isNum]
    go_enter Tryd.func9, Tryd.ntmps9
    go_wp2
    go_ret
    exact ⟨rfl, (Keeps.refl _ w).alloc _⟩
  | trail k s =>
    simp only [seenV, isNum]
    go_enter Tryd.func9, Tryd.ntmps9
    go_wp2
    go_ret
    exact ⟨rfl, (Keeps.refl _ w).alloc _⟩
  | gone =>
    simp only [seenV, isNum]
    go_enter Tryd.func9, Tryd.ntmps9
    go_wp2
    go_ret
    exact ⟨rfl, (Keeps.refl _ w).alloc _⟩
  | note b wd e =>
    simp only [seenV, isNum]
    go_enter Tryd.func9, Tryd.ntmps9
    go_wp2
    go_ret
    exact ⟨rfl, (Keeps.refl _ w).alloc _⟩
  | all A0 c0 l =>
    simp only [seenV, isNum]
    go_enter Tryd.func9, Tryd.ntmps9
    go_wp2
    go_ret
    exact ⟨rfl, (Keeps.refl _ w).alloc _⟩
  | num k =>
    simp only [seenV, isNum]
    go_enter Tryd.func9, Tryd.ntmps9
    go_wp2
    go_ret
    exact ⟨rfl, (Keeps.refl _ w).alloc _⟩
theorem contains_any (w : World) (A : Option Addr) (n c : Nat) (L : List (Nat × VT)) (a : Addr) (no : Int) (hn : L.length = n) (hb : n ≤ 1048576) (hS : SeenAt w A L) (hc : w.cell? a = some (.int .i64 no)) :
    Calls Tryd.prog 8 #[.slice A n c, .func (.func 9) #[] #[.pointer (some a)]] w fun e w' => e = .returned (.bool (L.any fun p => isNum no p.2)) ∧ Keeps (fun _ => False) w w' := by
  have HX := Lib.hid (index_found w A n c L a (isNum no) hn hb hS fun W p hW => found1_any W a no p (cell_keep hW hc))
  have HL : Hid ((0 ≤ idxF (isNum no) L) ↔ (L.any fun p => isNum no p.2) = true) := Lib.hid (by
    unfold idxF
    cases h : L.findIdx? (fun p => isNum no p.2) with
    | none =>
      rw [List.findIdx?_eq_none_iff] at h
      have : (L.any fun p => isNum no p.2) = false := List.any_eq_false.2 fun p hp => by rw [h p hp]; decide
      rw [this]
      simp
    | some i =>
      obtain ⟨hl, h1, h2⟩ := List.findIdx?_eq_some_iff_getElem.1 h
      have : (L.any fun p => isNum no p.2) = true := List.any_eq_true.2 ⟨_, List.getElem_mem hl, h1⟩
      rw [this]
      simp)
  obtain ⟨ix, hix⟩ : ∃ i, i = idxF (isNum no) L := ⟨_, rfl⟩
  obtain ⟨bb, hbb⟩ : ∃ b, b = L.any fun p => isNum no p.2 := ⟨_, rfl⟩
  rw [← hix] at HX HL
  rw [← hbb] at HL ⊢
  clear hS hn hix hbb hc
  go_enter Tryd.func8, Tryd.ntmps8
  go_wp2_with (go_at_call 20; refine HX.out.mono ?_; rintro e w4 ⟨rfl, hk4⟩; have HK4 := Lib.hid hk4; clear hk4)
  go_ret
  refine ⟨?_, HK4.out⟩
  have h1 := HL.out
  cases bb
  · have h2 : ¬ 0 ≤ ix := fun h => by have := h1.1 h; cases this
    show Ending.returned (Value.bool (decide (0 ≤ ix))) = _
    simp [h2]
  · show Ending.returned (Value.bool (decide (0 ≤ ix))) = _
    simp [h1.2 rfl]
set_option maxHeartbeats 4000000 in
set_option maxRecDepth 100000 in
theorem first1_any (w : World) (a : Addr) (n : Int) (p : Nat × VT) (hc0 : w.cell? a = some (.int .i64 n)) : Calls Tryd.prog 29 #[.agg (seenV p.1 p.2).toArray, .pointer (some a)] w fun e w' => e = .returned (.bool (asP n (kindF p.2))) ∧ Keeps (fun _ => False) w w' := by
  have hal : a.block < w.heap.size := World.block_lt_of_cell? w a hc0
  have hc : ∀ cs, (w.alloc (.cells cs 36)).cell? a = some (.int .i64 n) := fun cs => by rw [World.cell?_alloc_lt _ _ a hal]; exact hc0
  obtain ⟨s2, s3, s4, s5, hs6⟩ := seen_shape6 p.1 p.2
  rw [hs6]
  obtain ⟨k, hk⟩ : ∃ k, k = kindF p.2 := ⟨_, rfl⟩
  rw [← hk]
  have HA : Hid (∀ q : Bool, asP n k = q ↔ ((k == n || (k == 6 && n == 5)) = q)) := Lib.hid fun q => Iff.rfl
  clear hs6 hk hc0
  by_cases h1 : k = n
  · have HQ : Hid (asP n k = true) := Lib.hid ((HA.out true).2 (by simp [h1]))
    clear HA
    rw [HQ.out]
    subst h1
    go_enter Tryd.func29, Tryd.ntmps29
    go_wp2
    go_ret
    exact ⟨rfl, (Keeps.refl _ w).alloc _⟩
  · have e1 : (k == n) = false := by simp [h1]
    by_cases h3 : n = 5
    · by_cases h2 : k = 6
      · have HQ : Hid (asP n k = true) := Lib.hid ((HA.out true).2 (by simp [h2, h3]))
        clear HA
        rw [HQ.out]
        subst h2 h3
        go_enter Tryd.func29, Tryd.ntmps29
        go_wp2
        go_ret
        exact ⟨rfl, (Keeps.refl _ w).alloc _⟩
      · have HQ : Hid (asP n k = false) := Lib.hid ((HA.out false).2 (by simp [h1, h2]))
        have e2 : (k == 6) = false := by simp [h2]
        clear HA
        rw [HQ.out]
        subst h3
        go_enter Tryd.func29, Tryd.ntmps29
        go_wp2
        go_ret
        exact ⟨rfl, (Keeps.refl _ w).alloc _⟩
    · have HQ : Hid (asP n k = false) := Lib.hid ((HA.out false).2 (by simp [h1, h3]))
      have e3 : (n == 5) = false := by simp [h3]
      clear HA
      rw [HQ.out]
      go_enter Tryd.func29, Tryd.ntmps29
      go_wp2
      go_ret
      exact ⟨rfl, (Keeps.refl _ w).alloc _⟩
theorem results_seen {fn : Func} {p u : Tmp} (h : fn.results = #[.cell p 36, .tmp u]) (tmps : Array Value) (w : World) (g : Nat) (cs : List Value) (v : Value) (hp : tmps.getD p undef = .pointer (some ⟨g, 0, none⟩)) (hv : tmps.getD u undef = v)
    (hb : Blk w g 36 cs) (hl : (Tryd.prog.info? 36).map (·.size) = some cs.length) : (results fn tmps).run Tryd.prog w = .ok (.tuple #[.agg cs.toArray, v]) w := by
  rw [results_cell_tmp h, hp, hv]
  simp only [asAddr, Sem.run_pure, Result.andThen]
  rw [run_loadVar_row w g 36 36 cs.toArray (0, 0) _ hb Tryd.underlying36 rfl (by simpa using hl)]
set_option maxHeartbeats 4000000 in
set_option maxRecDepth 100000 in
theorem lfirst_some (w : World) (A : Option Addr) (n c : Nat) (L : List (Nat × VT)) (k : Int) (j : Nat) (p : Nat × VT) (hn : L.length = n) (hb : n ≤ 1048576) (hS : SeenAt w A L)
    (hno : ∀ (q : Nat) (p : Nat × VT), q < j → L[q]? = some p → asP k (kindF p.2) = false) (hp : L[j]? = some p) (hP : asP k (kindF p.2) = true) :
    Calls Tryd.prog 13 #[.slice A n c, .int .i64 k] w fun e w' => e = .returned (.tuple #[.agg (seenV p.1 p.2).toArray, .bool true]) ∧ Keeps (fun _ => False) w w' := by
  obtain ⟨w2, hw2⟩ : ∃ w2, w2 = (w.alloc (.cells #[.int .i64 k] 3)).alloc (.cells seenZ.toArray 36) := ⟨_, rfl⟩
  have k2 : Keeps (fun _ => False) w w2 := by rw [hw2]; exact ((Keeps.refl _ w).alloc _).alloc _
  have hcell : w2.cell? ⟨w.heap.size, 0, none⟩ = some (.int .i64 k) := by rw [hw2]; exact ((Blk.new w 3 [.int .i64 k]).alloc _).cell 0
  have hbk : Blk w2 (w.heap.size + 1) 36 seenZ := by
    have h1 := Blk.new (w.alloc (.cells #[.int .i64 k] 3)) 36 seenZ
    rw [World.size_alloc] at h1
    rw [hw2]
    exact h1
  have HX : Hid (Calls Tryd.prog 20 #[.slice A n c, .func (.func 29) #[] #[.pointer (some ⟨w.heap.size, 0, none⟩)]] w2 fun e w' => e = .returned (.int .i64 (j : Nat)) ∧ Keeps (fun _ => False) w2 w') := Lib.hid (by
    have h1 := index_first w2 A n c L ⟨w.heap.size, 0, none⟩ (fun x => asP k (kindF x)) hn hb (hS.keep k2) fun W p hW => first1_any W _ k p (cell_keep hW hcell)
    rw [idx_hit hno hp hP] at h1
    exact h1)
  obtain ⟨g, hA, hr⟩ := hS j p hp
  subst hA
  obtain ⟨SC, hSC⟩ : ∃ SC, SC = seenV p.1 p.2 := ⟨_, rfl⟩
  rw [← hSC] at hr ⊢
  have HSL : Hid (SC.length = 6) := Lib.hid (by rw [hSC]; exact seenV_length _ _)
  have HSO : Hid (∀ u ∈ SC, u.oneCell' = true) := Lib.hid (by rw [hSC]; exact seenV_one _ _)
  have HSI : Hid ((Tryd.prog.info? 36).map (·.size) = some SC.length) := Lib.hid (by rw [HSL.out]; kernel_rfl)
  have HRR : Hid (w.rangeAt g (j * 6) SC) := Lib.hid hr
  have HK2 := Lib.hid k2
  have HBK := Lib.hid hbk
  have hjn : j < n := by have := (List.getElem?_eq_some_iff.1 hp).1; omega
  have hjb : (j : Int) < n := by omega
  rw [hw2] at HX HK2 HBK
  clear hSC hr hS hn hno hp hP hw2 k2 hcell hbk
  have hmf : ∀ (fn : Fn) (first cap : Array Value) (w : World), (Instr.makeFunc fn first cap).run Tryd.prog w = .ok (.func fn first cap) w := fun _ _ _ _ => rfl
  go_enter Tryd.func13, Tryd.ntmps13
  go_wp2_with (first
    | (go_at_call 20; refine HX.out.mono ?_; rintro e w4 ⟨rfl, hk4⟩; have HK4 := Lib.hid hk4; have HRE : Hid (w4.rangeAt g (j * 6) SC) := (Lib.hid fun f y hf => cell_keep (HK2.out.trans hk4 (fun _ _ h => h)) (HRR.out f y hf)); clear hk4)
    | ((with_reducible show wpList _ _ _ (⟨some 16, _, _, _, _, _⟩ :: _) _ _); refine wpList_load_mid rfl 36 _ rfl _ _ rfl SC _ HRE.out Tryd.underlying36 rfl HSI.out ?_)
    | ((with_reducible show wpList _ _ _ (⟨none, Op.store 36 _ _, _, _, _, _⟩ :: _) _ _); refine wpList_store_whole rfl 36 _ _ rfl SC rfl rfl (HK4.out.blk HBK.out (fun h => h)) (by rw [HSL.out]; rfl) HSI.out HSO.out ?_; refine gen_world (fun W => Blk W (w.heap.size + 1) 36 SC ∧ Keeps (fun _ => False) w W) ⟨(HK4.out.blk HBK.out (fun h => h)).setRow SC, (HK2.out.trans HK4.out (fun _ _ h => h)).setRow (.inr (by omega)) _⟩ ?_; rintro wa ⟨hba, hka⟩; have HBA := Lib.hid hba; have HKA := Lib.hid hka; clear hba hka))
  exact bodyPost_ret (results_seen rfl _ _ (w.heap.size + 1) SC (.bool true) rfl rfl HBA.out HSI.out) rfl ⟨rfl, HKA.out⟩
end Go.Proofs.YtinonjfnhedlpaaDoor
