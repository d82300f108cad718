/-
  WALKS (laws of hmac): spoil: it writes into the block of its row alone.
-/
import Derived.Test.YtnlnbgjpbnjjfaaDoorMemK
import Derived.Test.YtnlnbgjpbnjjfaaDoorShaBW
set_option linter.unusedSimpArgs false
namespace Go.Aff
open Go Go.RowKit
/-- A row of the call's own that is spoilt, and another one that grew out of it. -/
structure SpR (e : TypeId) (w wr : World) (A : Option Addr) (n c : Nat) (B : Option Addr) (m d : Nat) : Prop where
  own : ∃ xs, wr.ownsRow 0 e 1 (.slice A n c) n xs
  row : ∃ ys, wr.ownsRow 0 e 1 (.slice B m d) m ys
  near : (B = A ∧ d = c) ∨ ∀ h, (Value.slice B m d).ownBlock = some h → w.heap.size ≤ h
  keep : Keeps (fun g => (Value.slice A n c).ownBlock = some g) w wr
  old : ∀ g, (Value.slice A n c).ownBlock = some g → g < w.heap.size
  le : n ≤ m
theorem SpR.step {e : TypeId} {w wr wr1 w' : World} {A B B' : Option Addr} {n c m d k d' : Nat} {zs : List Value} (h : SpR e w wr A n c B m d) (hk : Keeps (fun _ => False) wr wr1)
    (hz : w'.ownsRow 0 e 1 (.slice B' (m + k) d') (m + k) zs) (hs : Split wr1 w' B m d B' d') : SpR e w w' A n c B' (m + k) d' := by
  obtain ⟨xs, hx⟩ := h.own
  have hx1 := hk.own hx (fun _ _ h => h)
  have hkk : Keeps (fun g => (Value.slice A n c).ownBlock = some g) w wr1 := h.keep.trans hk (fun _ _ h => h.elim)
  have hsz := hkk.size
  rcases hs with ⟨rfl, rfl, hg⟩ | ⟨rfl, hg⟩
  · rcases h.near with ⟨rfl, rfl⟩ | hnew
    · refine ⟨⟨_, own_short hz (by have := h.le; omega)⟩, ⟨zs, hz⟩, .inl ⟨rfl, rfl⟩, hkk.grown hg (fun g e => .inl (by cases B' <;> exact e)), h.old, by have := h.le; omega⟩
    · have hne : (Value.slice A n c).ownBlock = none ∨ (Value.slice A n c).ownBlock ≠ (Value.slice B' m d').ownBlock := by
        rcases hA : (Value.slice A n c).ownBlock with _ | g
        · exact .inl rfl
        · refine .inr fun he => ?_
          have h1 := h.old g hA
          have h2 := hnew g he.symm
          omega
      refine ⟨⟨xs, hx1.kept hg hne⟩, ⟨zs, hz⟩, .inr fun h0 e0 => hnew h0 (by cases B' <;> exact e0), hkk.grown hg (fun g e => .inr (hnew g e)), h.old, by have := h.le; omega⟩
  · refine ⟨⟨xs, hx1.kept hg ?_⟩, ⟨zs, hz⟩, .inr fun h0 e0 => ?_, hkk.grown hg (fun g e => by cases e), h.old, by have := h.le; omega⟩
    · rcases hA : (Value.slice A n c).ownBlock with _ | g
      · exact .inl rfl
      · exact .inr (by simp)
    · injection e0 with e0
      have e1 : wr1.heap.size = h0 := e0
      omega
theorem SpR.start {e : TypeId} {w wr : World} {A : Option Addr} {n c : Nat} {xs : List Value} (ho : wr.ownsRow 0 e 1 (.slice A n c) n xs) (hk : Keeps (fun g => (Value.slice A n c).ownBlock = some g) w wr)
    (hold : ∀ g, (Value.slice A n c).ownBlock = some g → g < w.heap.size) : SpR e w wr A n c A n c := ⟨⟨xs, ho⟩, ⟨xs, ho⟩, .inl ⟨rfl, rfl⟩, hk, hold, Nat.le_refl _⟩
theorem SpR.again {e : TypeId} {w wr : World} {A B : Option Addr} {n c m d : Nat} (h : SpR e w wr A n c B m d) : SpR e w wr A n c A n c := by
  obtain ⟨xs, hx⟩ := h.own
  exact .start hx h.keep h.old
/-- A write into the other one. -/
theorem SpR.set {e : TypeId} {w wr : World} {A : Option Addr} {n c m d g i : Nat} (h : SpR e w wr A n c (some ⟨g, 0, none⟩) m d) (u : Value) : Keeps (fun g => (Value.slice A n c).ownBlock = some g) w (wr.setCell ⟨g, i, none⟩ u) := by
  refine h.keep.setCell ?_ u
  rcases h.near with ⟨rfl, rfl⟩ | hn
  · exact .inl rfl
  · exact .inr (hn g rfl)
theorem SpR.form {e : TypeId} {w wr : World} {A B : Option Addr} {n c m d : Nat} (h : SpR e w wr A n c B m d) (hm : 0 < m) : ∃ g, B = some ⟨g, 0, none⟩ ∧ (∀ i, i < m → ∃ u, wr.cell? ⟨g, i, none⟩ = some u) ∧ (∀ i, wr.frozen? ⟨g, i, none⟩ = false) := by
  obtain ⟨ys, hy⟩ := h.row
  obtain ⟨g, cap, e1, _, _⟩ := hy.form hm
  injection e1 with e1 _ e3
  subst e1
  refine ⟨g, rfl, fun i hi => ?_, own_frozen hy⟩
  rw [own_cell hy i hi]
  exact ⟨_, List.getElem?_eq_getElem (by have := hy.1; omega)⟩
end Go.Aff
namespace Go.Proofs.YtnlnbgjpbnjjfaaDoor
open Go Go.RowKit Go.Sha Go.Aff

set_option maxHeartbeats 1000000 in
set_option maxRecDepth 100000 in
theorem spoil_any (w : World) (A : Option Addr) (n c : Nat) (xs : List Value) (z : Int) (ho : w.ownsRow 0 5 1 (.slice A n c) n xs) (hn : n ≤ 140737488351232) :
    Calls Tryd.prog 39 #[.slice A n c, .int .u8 z] w fun e w' => e = .returned (.tuple #[]) ∧ Keeps (fun g => (Value.slice A n c).ownBlock = some g) w w' := by
  have hA : (A = none ∧ n ≤ 0) ∨ ∃ g, A = some ⟨g, 0, none⟩ := by
    rcases ho.2 with ⟨hv, hn⟩ | ⟨g, _, _, hv, _⟩
    · injection hv with h1 _ _
      exact .inl ⟨h1, by omega⟩
    · injection hv with h1 _ _
      exact .inr ⟨g, h1⟩
  obtain ⟨S, HS⟩ : ∃ S : World → Option Addr → Nat → Nat → Prop, Hid (∀ wr B m d, S wr B m d = SpR 5 w wr A n c B m d) := ⟨fun wr B m d => SpR 5 w wr A n c B m d, Lib.hid fun _ _ _ _ => rfl⟩
  have H0 : Hid (S w A n c) := Lib.hid (by rw [HS.out]; exact SpR.start ho (Keeps.refl _ _) fun g hg => (ho.lt g hg).2)
  have HSTEP : Hid (∀ wr wr1 w' B B' m d k d' zs, S wr B m d → Keeps (fun _ => False) wr wr1 → w'.ownsRow 0 5 1 (.slice B' (m + k) d') (m + k) zs → Split wr1 w' B m d B' d' → S w' B' (m + k) d') := Lib.hid fun wr wr1 w' B B' m d k d' zs h h1 h2 h3 => by rw [HS.out] at h ⊢; exact h.step h1 h2 h3
  have HAG : Hid (∀ wr B m d, S wr B m d → S wr A n c) := Lib.hid fun wr B m d h => by rw [HS.out] at h ⊢; exact h.again
  have HROW : Hid (∀ wr B m d, S wr B m d → ∃ ys, wr.ownsRow 0 5 1 (.slice B m d) m ys) := Lib.hid fun wr B m d h => by rw [HS.out] at h; exact h.row
  have HFORM : Hid (∀ wr B m d, S wr B m d → 0 < m → ∃ g, B = some ⟨g, 0, none⟩ ∧ (∀ i, i < m → ∃ u, wr.cell? ⟨g, i, none⟩ = some u) ∧ (∀ i, wr.frozen? ⟨g, i, none⟩ = false)) := Lib.hid fun wr B m d h hm => by rw [HS.out] at h; exact h.form hm
  have HSET : Hid (∀ wr g i u, i < n → A = some ⟨g, 0, none⟩ → S wr A n c → S (wr.setCell ⟨g, i, none⟩ u) A n c) := Lib.hid fun wr g i u hi hA h => by
    subst hA
    rw [HS.out] at h ⊢
    obtain ⟨xs, hx⟩ := h.own
    exact SpR.start (own_set hx i hi u) (h.set u) h.old
  have HEND : Hid (∀ wr g m d i u, S wr (some ⟨g, 0, none⟩) m d → Keeps (fun g => (Value.slice A n c).ownBlock = some g) w (wr.setCell ⟨g, i, none⟩ u)) := Lib.hid fun wr g m d i u h => by rw [HS.out] at h; exact h.set u
  clear HS ho
  rcases hA with ⟨rfl, hn0⟩ | ⟨ga, rfl⟩
  all_goals
    go_enter Tryd.func39, Tryd.ntmps39
    go_wp2
    go_loopw [4, 9] (fun _ i wr => ∃ (k : Nat) (B : Option Addr), k ≤ n ∧ i = .int .i64 k ∧ Hid (S wr B n c)) (fun _ i _ => n - (intOf i).toNat)
    case atStart => exact ⟨0, _, by omega, rfl, H0⟩
    case round =>
      clear H0
      obtain ⟨k, B0, hk, rfl, HK⟩ := hrel
      have HK := Lib.hid (HAG.out _ _ _ _ HK.out)
      by_cases hlt : k < n
      · first
          | (exfalso; omega)
          | (obtain ⟨g0, e0, hc0, hf0⟩ := HFORM.out _ _ _ _ HK.out (by omega)
             injection e0 with e0
             injection e0 with e0
             subst e0
             obtain ⟨u, hcell⟩ := hc0 k hlt
             have hf := hf0 k
             clear hc0 hf0
             go_wp2
             go_roundw
             case rel => exact ⟨k + 1, _, by omega, by go_num, Lib.hid (HSET.out _ _ _ _ hlt rfl HK.out)⟩
             case measure => simp [intOf]; omega)
      · go_wp2
        go_loopw [5, 6] (fun v i wr => ∃ (k m : Nat) (B : Option Addr) (d : Nat), k ≤ 20 ∧ m = n + k ∧ i = .int .i64 k ∧ v = .slice B m d ∧ Hid (S wr B m d)) (fun _ i _ => 20 - (intOf i).toNat)
        case atStart => exact ⟨0, n, _, _, by omega, rfl, rfl, rfl, HK⟩
        case round =>
          clear HK
          obtain ⟨k2, m2, B2, d2, hk2, hm2, rfl, rfl, HK2⟩ := hrel
          have hm2' : m2 ≤ n + 20 := by omega
          have HM2 := Lib.hid hm2
          clear hm2
          by_cases hlt2 : k2 < 20
          · obtain ⟨ys, hys⟩ := HROW.out _ _ _ _ HK2.out
            have HO2 := Lib.hid (hys.alloc (.cells #[.int .u8 z] 5))
            have HRD := Lib.hid (Rd.of_blk (Blk.new wr 5 [.int .u8 z]) (n := 1) rfl)
            clear hys
            go_wp2_with (at_builtin; refine wpList_append_split _ rfl (.tmp 22) (.tmp 24) 22 rfl 5 (.int .u8 0) 1 Tryd.underlying22 info5 rfl B2 m2 d2 ys rfl HO2.out _ 1 1 [.int .u8 z] rfl HRD.out (by intro u hu; rw [List.mem_singleton.1 hu]; rfl) (by unfold maxLen; omega) (by omega) ?_; intro A4 c4 w4 hown hsp; have HN := Lib.hid (HSTEP.out _ _ _ _ _ _ _ 1 _ _ HK2.out ((Keeps.refl _ wr).alloc (.cells #[.int .u8 z] 5)) hown hsp); clear hown hsp)
            go_roundw
            case rel => exact ⟨k2 + 1, m2 + 1, A4, c4, by omega, by have := HM2.out; omega, by go_num, rfl, HN⟩
            case measure => simp [intOf]; omega
          · have HA := Lib.hid (HAG.out _ _ _ _ HK2.out)
            obtain ⟨ys, hys⟩ := HROW.out _ _ _ _ HA.out
            have HO2 := Lib.hid hys
            clear hys
            go_wp2_with (at_builtin; refine wpList_zeros_split _ rfl (.tmp 26) (.const (.int .i64 70)) 22 3 rfl 5 (.int .u8 0) 1 .i64 .i64 Tryd.underlying22 Tryd.underlying3 info5 rfl rfl _ n c ys rfl HO2.out 70 rfl (by omega) (by unfold maxLen; omega) (by omega) ?_; intro A4 c4 w4 hown hsp; have HN := Lib.hid (HSTEP.out _ _ _ _ _ _ _ 70 _ _ HA.out (Keeps.refl _ _) hown hsp); clear hown hsp; obtain ⟨g4, e4, hc4, hf4⟩ := HFORM.out _ _ _ _ HN.out (by omega); subst e4; obtain ⟨u4, hcell4⟩ := hc4 0 (by omega); have hz4 := hf4 0; clear hc4 hf4; have h70 : 0 < n + 70 := by omega)
            go_end0
            exact ⟨rfl, HEND.out _ _ _ _ _ _ HN.out⟩
end Go.Proofs.YtnlnbgjpbnjjfaaDoor
