/-
  WALKS: Write of parts; a hash of the call's own.
-/
import Derived.Test.YtgblndddcbfdiaaDoorShaBW
set_option linter.unusedSimpArgs false
namespace Go.Proofs.YtgblndddcbfdiaaDoor
open Go Go.RowKit Go.Sha Go.Aff

set_option maxRecDepth 100000 in
theorem Write_nil (w : World) (A : Option Addr) (n c : Nat) : Calls Tryd.prog 22 #[.pointer none, .slice A n c] w fun e w' => e = .returned (errno 1) ∧ w = w' := by
  go_enter Tryd.func22, Tryd.ntmps22
  go_wp2
  go_ret
  exact ⟨rfl, rfl⟩

/-- While the parts are measured: r is the room behind k of them. -/
def RoomRel (cur : Nat) (pss : List (List Int)) (k : Nat) (r : Int) : Prop := 0 < r ∧ r ≤ 2305843009213693952 ∧ r + ((cur + (pss.take k).flatten.length : Nat) : Int) = 2305843009213693952
theorem RoomRel.start (cur : Nat) (pss : List (List Int)) (h : cur < 2305843009213693952) : RoomRel cur pss 0 (2305843009213693952 - (cur : Int)) := by
  unfold RoomRel
  simp
  omega
theorem take_flat (pss : List (List Int)) (k : Nat) (bs : List Int) (h : pss[k]? = some bs) : (pss.take (k + 1)).flatten = (pss.take k).flatten ++ bs := by
  rw [List.take_add_one, h]; simp
theorem RoomRel.step {cur : Nat} {pss : List (List Int)} {k : Nat} {r : Int} {bs : List Int} (h : RoomRel cur pss k r) (hb : pss[k]? = some bs) (hl : (bs.length : Int) < r) : RoomRel cur pss (k + 1) (r - (bs.length : Int)) := by
  unfold RoomRel at *
  rw [take_flat pss k bs hb, List.length_append]
  obtain ⟨h1, h2, h3⟩ := h
  omega
theorem RoomRel.long {cur : Nat} {pss : List (List Int)} {r : Int} (h : RoomRel cur pss pss.length r) : cur + pss.flatten.length < 2305843009213693952 := by
  unfold RoomRel at h
  rw [List.take_length] at h
  omega
theorem RoomRel.fits {cur : Nat} {pss : List (List Int)} {k : Nat} {r : Int} {bs : List Int} (h : RoomRel cur pss k r) (hb : pss[k]? = some bs) (hl : cur + pss.flatten.length < 2305843009213693952) : (bs.length : Int) < r := by
  have h2 := part_le pss k bs hb
  unfold RoomRel at h
  omega

/-- While the parts are written (k of them are). -/
def WriteRel (p : Nat) (v : Value) (S : Nat → Int) (nb : Nat) (X : List Int) (pss : List (List Int)) (w : World) (k : Nat) (wr : World) : Prop :=
  ∃ v', HashAt wr p v' S nb (X ++ (pss.take k).flatten) ∧ Keeps (Foot p v) w wr ∧ (∀ g, v'.ownBlock = some g → v.ownBlock = some g ∨ w.heap.size ≤ g)

theorem foot_later {p : Nat} {v v' : Value} {B i : Nat} (hnew : ∀ g, v'.ownBlock = some g → v.ownBlock = some g ∨ B ≤ g) (h : Foot p v' i) : Foot p v i ∨ B ≤ i := by
  rcases h with rfl | h
  · exact .inl (.inl rfl)
  · rcases hnew i h with h | h
    · exact .inl (.inr h)
    · exact .inr h

theorem write_step (w : World) (hG : Glob w) (p : Nat) (v : Value) (S : Nat → Int) (nb : Nat) (X : List Int) (hfoot : ∀ i, Foot p v i → 2 ≤ i) (pss : List (List Int)) (k : Nat) (wr : World) (hrel : WriteRel p v S nb X pss w k wr)
    (hfit : 64 * nb + X.length + pss.flatten.length < 2305843009213693952) (bs : List Int) (hk : pss[k]? = some bs) (A : Option Addr) (c : Nat) (hr : Rd w A bs.length (vb bs)) (ho : Out (Foot p v) A bs.length) (hb : IsBytes bs) (hc : bs.length ≤ c) (hreach : bs.length ≤ 140737488351232) :
    Calls Tryd.prog 47 #[.pointer (some ⟨p, 0, none⟩), .slice A bs.length c] wr fun e w' => e = .returned (.tuple #[]) ∧ WriteRel p v S nb X pss w (k + 1) w' := by
  obtain ⟨v', hh, hkeep, hnew⟩ := hrel
  have h2 := hG.lt
  have hf2 : ∀ i, Foot p v' i → 2 ≤ i := by
    intro i hi
    rcases foot_later hnew hi with h | h
    · exact hfoot i h
    · omega
  have ho' : Out (Foot p v') A bs.length := by
    intro h0 ad e hf
    rcases foot_later hnew hf with h | h
    · exact ho h0 ad e h
    · obtain ⟨g1, o1, e1, hg1⟩ := hr.lt h0
      rw [e] at e1
      injection e1 with e1
      subst e1
      exact absurd hg1 (by show ¬ g1 < w.heap.size; have h3 : w.heap.size ≤ g1 := h; omega)
  have hle := part_le pss k bs hk
  refine (write_any wr (hG.keep hkeep hfoot) p v' S nb _ hh hf2 A c bs (hr.keep hkeep ho) ho' hb hc (by rw [List.length_append]; omega) hreach).mono fun e w' ⟨he, v2, h2', hk2, hnew2⟩ => ⟨he, v2, ?_, ?_, ?_⟩
  · rw [take_flat pss k bs hk, ← List.append_assoc]
    exact h2'
  · exact hkeep.trans hk2 (fun i hi hf => by
      rcases foot_later hnew hf with h | h
      · exact h
      · omega)
  · intro g hg
    rcases hnew2 g hg with h | h
    · exact hnew g h
    · exact .inr (Nat.le_trans hkeep.size h)

theorem len_at (w : World) (p : Nat) (v : Value) (S : Nat → Int) (nb : Nat) (X : List Int) (h : HashAt w p v S nb X) (hX : 64 * nb + X.length < 2305843009213693952) :
    Calls Tryd.prog 26 #[.pointer (some ⟨p, 0, none⟩)] w fun e w' => e = .returned (.int .u64 ((64 * nb + X.length : Nat) : Int)) ∧ ∃ k, w' = w.drewN k := by
  obtain ⟨A0, c0, rfl⟩ := own_shape h.2.1
  have hb := h.1
  refine (len_any w p _ _ A0 _ c0 hb (by omega) (by omega) (by omega)).mono fun e w' hh => ⟨?_, hh.2⟩
  rw [hh.1]
  congr 3
  omega

set_option maxHeartbeats 4000000 in
set_option maxRecDepth 100000 in
theorem Write_ok (w : World) (hG : Glob w) (p : Nat) (v : Value) (S : Nat → Int) (nb : Nat) (X : List Int) (h : HashAt w p v S nb X) (hfoot : ∀ i, Foot p v i → 2 ≤ i)
    (A : Option Addr) (c : Nat) (pss : List (List Int)) (hr : RdPartsO (Foot p v) w A pss) (hn : pss.length ≤ 140737488355328) (hfit : 64 * nb + X.length + pss.flatten.length < 2305843009213693952) :
    Calls Tryd.prog 22 #[.pointer (some ⟨p, 0, none⟩), .slice A pss.length c] w fun e w' => e = .returned .nilIface ∧
      ∃ v', HashAt w' p v' S nb (X ++ pss.flatten) ∧ Keeps (Foot p v) w w' ∧ (∀ g, v'.ownBlock = some g → v.ownBlock = some g ∨ w.heap.size ≤ g) := by
  obtain ⟨vals, hv, hvo, hparts⟩ := hr
  obtain ⟨cur, hcur⟩ : ∃ cur, cur = 64 * nb + X.length := ⟨_, rfl⟩
  have hlen := len_at w p v S nb X h (by omega)
  have hstep := write_step w hG p v S nb X hfoot pss
  rw [← hcur] at hlen hfit
  simp only [← hcur] at hstep
  have h0 : Hid (WriteRel p v S nb X pss w 0 w) := ⟨v, by simpa using h, Keeps.refl _ _, fun g hg => .inl hg⟩
  have hR0 : Hid (RoomRel cur pss 0 (2305843009213693952 - (cur : Int))) := RoomRel.start cur pss (by omega)
  have hfits : Hid (∀ k r bs, RoomRel cur pss k r → pss[k]? = some bs → (bs.length : Int) < r) := fun k r bs hr hb => hr.fits hb hfit
  have hcells : Hid (∀ (wr : World) k, Keeps (Foot p v) w wr → k < pss.length → ∃ g o bs A' c', A = some ⟨g, o, none⟩ ∧ pss[k]? = some bs ∧ wr.cell? ⟨g, o + k, none⟩ = some (.slice A' bs.length c') ∧ Rd w A' bs.length (vb bs) ∧ Out (Foot p v) A' bs.length ∧ IsBytes bs ∧ bs.length ≤ c' ∧ bs.length ≤ 140737488351232) := by
    intro wr k hk hlt
    have hv' := hv.keep hk hvo
    obtain ⟨g, o, e, hc⟩ := hv'.2 (by omega)
    obtain ⟨bs, hbs⟩ : ∃ bs, pss[k]? = some bs := ⟨_, List.getElem?_eq_getElem hlt⟩
    obtain ⟨A', c', h1, h2⟩ := hparts k bs hbs
    exact ⟨g, o, bs, A', c', e, hbs, (hc k hlt).trans h1, h2⟩
  have hfin : Hid (∀ wr, WriteRel p v S nb X pss w pss.length wr → ∃ v', HashAt wr p v' S nb (X ++ pss.flatten) ∧ Keeps (Foot p v) w wr ∧ (∀ g, v'.ownBlock = some g → v.ownBlock = some g ∨ w.heap.size ≤ g)) := by
    intro wr ⟨v', h1, h2, h3⟩
    rw [List.take_length] at h1
    exact ⟨v', h1, h2, h3⟩
  have HLEN := Lib.hid hlen
  have HSTEP := Lib.hid hstep
  have HFIT := Lib.hid hfit
  have hcb : (cur : Int) < 2305843009213693952 := by omega
  clear h hv hvo hparts hlen hstep hcur hfoot hG hfit
  obtain ⟨n, hnn⟩ : ∃ n, n = pss.length := ⟨_, rfl⟩
  have HN := Lib.hid hnn
  rw [← hnn] at hn ⊢
  clear hnn
  obtain ⟨L, hL⟩ : ∃ L : Int, L = (cur : Int) := ⟨_, rfl⟩
  have hL0 : 0 ≤ L := by omega
  rw [← hL] at HLEN hR0 hcb
  clear hL
  go_enter Tryd.func22, Tryd.ntmps22
  go_wp2_with (go_at_call 26; refine HLEN.out.mono ?_; rintro e w1 ⟨rfl, k1, rfl⟩)
  go_loop [5, 7, 18] (fun r _ i => ∃ (k : Nat) (x : Int), k ≤ n ∧ i = .int .i64 k ∧ r = .int .u64 x ∧ 0 < x ∧ x ≤ 2305843009213693952 ∧ RoomRel cur pss k x) (fun _ _ i => n - (intOf i).toNat)
  case atStart => exact ⟨0, _, by omega, rfl, rfl, by omega, by omega, hR0.out⟩
  case round =>
    clear hR0
    obtain ⟨k, x, hk, rfl, rfl, hx0, hx1, hrm⟩ := hrel
    by_cases hlt : k < n
    · obtain ⟨g, o, bs, A1, c1, hA, hbs, hcell, _, _, _, hc1, hrb⟩ := hcells.out w k (Keeps.refl _ _) (by have := HN.out; omega)
      subst hA
      have hfx := hfits.out k x bs hrm hbs
      have hs := hrm.step hbs hfx
      have HS := Lib.hid hs
      obtain ⟨m, hm⟩ : ∃ m, m = bs.length := ⟨_, rfl⟩
      rw [← hm] at HS hcell hfx hrb hc1
      clear hm hs hrm hbs
      go_wp2
      go_round
      case rel => exact ⟨k + 1, _, by omega, by go_num, rfl, by omega, by omega, HS.out⟩
      case measure => simp [intOf]; omega
    · obtain rfl : k = n := by omega
      clear hrm hx0 hx1
      go_wp2
      go_loopw [9, 36] (fun _ i wr => ∃ k' : Nat, k' ≤ k ∧ i = .int .i64 k' ∧ WriteRel p v S nb X pss w k' wr) (fun _ i _ => k - (intOf i).toNat)
      case atStart =>
        refine ⟨0, by omega, rfl, ?_⟩
        obtain ⟨v', a, b, c⟩ := h0.out
        exact ⟨v', a, b.drewN k1, c⟩
      case round =>
        clear h0
        obtain ⟨k', hk', rfl, hrl⟩ := hrel
        by_cases hlt' : k' < k
        · have hkp : Keeps (Foot p v) w wr := by obtain ⟨_, _, b, _⟩ := hrl; exact b
          obtain ⟨g, o, bs, A1, c1, hA, hbs, hcell, hr1, ho1, hb1, hc1, hrb⟩ := hcells.out wr k' hkp (by have := HN.out; omega)
          subst hA
          have hcall := HSTEP.out k' wr hrl HFIT.out bs hbs A1 c1 hr1 ho1 hb1 hc1 hrb
          have HC := Lib.hid hcall
          clear hcall hrl hkp hr1 ho1 hb1 hbs
          obtain ⟨m, hm⟩ : ∃ m, m = bs.length := ⟨_, rfl⟩
          rw [← hm] at HC hcell hrb hc1
          clear hm
          go_wp2_with (go_at_call 47; refine HC.out.mono ?_; rintro e w' ⟨rfl, hr'⟩; have HR' := Lib.hid hr'; clear hr')
          go_roundw
          case rel => exact ⟨k' + 1, by omega, by go_num, HR'.out⟩
          case measure => simp [intOf]; omega
        · obtain rfl : k' = k := by omega
          have hf := hfin.out wr (by rw [← HN.out]; exact hrl)
          have HF := Lib.hid hf
          clear hf hrl
          go_wp2
          go_ret
          exact ⟨rfl, HF.out⟩
end Go.Proofs.YtgblndddcbfdiaaDoor

namespace Go.Proofs.YtgblndddcbfdiaaDoor
open Go Go.RowKit Go.Sha Go.Aff

/-- A hash in memory that is newer than world w; what was there in w stands. -/
def Own (w wr : World) (p : Nat) (v : Value) (S : Nat → Int) (nb : Nat) (X : List Int) : Prop := HashAt wr p v S nb X ∧ Keeps (fun _ => False) w wr ∧ (∀ i, Foot p v i → w.heap.size ≤ i)

theorem Own.keep {w wr w' : World} {p : Nat} {v : Value} {S : Nat → Int} {nb : Nat} {X : List Int} (h : Own w wr p v S nb X) (hk : Keeps (fun _ => False) wr w') : Own w w' p v S nb X :=
  ⟨h.1.keep hk (fun _ _ h => h), h.2.1.trans hk (fun _ _ h => h), h.2.2⟩
theorem own_new (w : World) : Own w (w.alloc (.cells (hcells first 0 (.slice none 0 0)).toArray 88)) w.heap.size (.slice none 0 0) first 0 [] := by
  refine ⟨hash_new w, (Keeps.refl _ w).alloc _, fun i hi => ?_⟩
  rcases hi with rfl | hi
  · exact Nat.le_refl _
  · cases hi
theorem Own.copied {w wr : World} {S : Nat → Int} {nb : Nat} {X : List Int} {e : Ending} {w' : World} (hk : Keeps (fun _ => False) w wr) (h : Copied wr S nb X e w') : ∃ q u, e = .returned (.pointer (some ⟨q, 0, none⟩)) ∧ Own w w' q u S nb X ∧ Keeps (fun _ => False) wr w' ∧ ∀ i, Foot q u i → wr.heap.size ≤ i := by
  obtain ⟨q, u, he, hh, hk2, hf⟩ := h
  exact ⟨q, u, he, ⟨hh, hk.trans hk2 (fun _ _ h => h), fun i hi => Nat.le_trans hk.size (hf i hi)⟩, hk2, hf⟩
/-- Old memory lies outside a hash of the call's own. -/
theorem Own.out {w wr : World} {p : Nat} {v : Value} {S : Nat → Int} {nb : Nat} {X : List Int} (h : Own w wr p v S nb X) {A : Option Addr} {n : Nat} {xs : List Value} (hr : Rd w A n xs) : Out (Foot p v) A n := by
  intro h0 ad e hf
  obtain ⟨g1, o1, e1, hg1⟩ := hr.lt h0
  rw [e] at e1
  injection e1 with e1
  subst e1
  have h1 := h.2.2 _ hf
  exact absurd hg1 (by show ¬ g1 < w.heap.size; have h3 : w.heap.size ≤ g1 := h1; omega)
theorem Own.foot2 {w wr : World} {p : Nat} {v : Value} {S : Nat → Int} {nb : Nat} {X : List Int} (h : Own w wr p v S nb X) (hG : Glob w) : ∀ i, Foot p v i → 2 ≤ i := fun i hi => by
  have := h.2.2 i hi
  have := hG.lt
  omega

/-- Write into a hash of the call's own. -/
theorem own_write (w : World) (hG : Glob w) (wr : World) (p : Nat) (v : Value) (S : Nat → Int) (nb : Nat) (X : List Int) (h : Own w wr p v S nb X) (W : World) (hk : Keeps (fun _ => False) wr W) (A : Option Addr) (n c : Nat) (pss : List (List Int)) (hn : pss.length = n)
    (hr : RdPartsO (Foot p v) W A pss) (hl : n ≤ 140737488355328) (hfit : 64 * nb + X.length + pss.flatten.length < 2305843009213693952) :
    Calls Tryd.prog 22 #[.pointer (some ⟨p, 0, none⟩), .slice A n c] W fun e w' => e = .returned .nilIface ∧ ∃ v', Own w w' p v' S nb (X ++ pss.flatten) ∧ Keeps (Foot p v) W w' ∧ (∀ g, v'.ownBlock = some g → v.ownBlock = some g ∨ W.heap.size ≤ g) := by
  subst hn
  have h1 := h.keep hk
  refine (Write_ok W (hG.keep h1.2.1 (fun _ h => h.elim)) p v S nb X h1.1 (h1.foot2 hG) A c pss hr hl hfit).mono fun e w' ⟨he, v', a, b, c⟩ => ⟨he, v', ⟨a, ?_, ?_⟩, b, c⟩
  · exact h1.2.1.trans b (fun i hi hf => by have := h1.2.2 i hf; omega)
  · intro i hi
    rcases foot_later c hi with h | h
    · exact h1.2.2 i h
    · exact Nat.le_trans h1.2.1.size h

/-- .. of one part that was there before. -/
theorem own_write1 (w : World) (hG : Glob w) (wr : World) (p : Nat) (v : Value) (S : Nat → Int) (nb : Nat) (X : List Int) (h : Own w wr p v S nb X) (A : Option Addr) (n c : Nat) (bs : List Int) (hn : bs.length = n)
    (hr : Rd wr A n (vb bs)) (ho : Out (Foot p v) A n) (hb : IsBytes bs) (hc : n ≤ c) (hm : n ≤ 140737488351232) (hfit : 64 * nb + X.length + n < 2305843009213693952) :
    Calls Tryd.prog 22 #[.pointer (some ⟨p, 0, none⟩), .slice (some ⟨wr.heap.size, 0, none⟩) 1 1] (wr.alloc (.cells #[.slice A n c] 26)) fun e w' => e = .returned .nilIface ∧ ∃ v', Own w w' p v' S nb (X ++ bs) ∧ Keeps (Foot p v) wr w' ∧ (∀ g, v'.ownBlock = some g → v.ownBlock = some g ∨ wr.heap.size ≤ g) := by
  have hp := parts_one (Foot p v) wr 26 A n c bs (fun i hi => h.1.lt i hi) hn hr ho hb hc hm
  have := own_write w hG wr p v S nb X h _ ((Keeps.refl (fun _ => False) wr).alloc (.cells #[.slice A n c] 26)) _ 1 1 [bs] rfl hp (by omega) (by simp; omega)
  simp only [List.flatten_cons, List.flatten_nil, List.append_nil] at this
  refine this.mono fun e w' ⟨he, v', a, b, c⟩ => ⟨he, v', a, ((Keeps.refl _ wr).alloc _).trans b (fun _ _ h => h), fun g hg => ?_⟩
  rcases c g hg with h | h
  · exact .inl h
  · simp at h; exact .inr (by omega)
end Go.Proofs.YtgblndddcbfdiaaDoor

