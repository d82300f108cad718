/-
  The calls of ShaPlays over the four places: write, resume, told, copies, reset.
-/
import Derived.Test.YtgblndddcbfdiaaDoorPlaysP
import Derived.Test.YtgblndddcbfdiaaDoorStepO
import Derived.Test.YtgblndddcbfdiaaDoorTailK
set_option linter.unusedSimpArgs false
namespace Go.Proofs.YtgblndddcbfdiaaDoor
open Go Go.RowKit Go.Sha Go.Aff

theorem and3 (x : Int) : ∃ i : Nat, i < 4 ∧ bits .and .i64 x 3 = (i : Int) := by
  unfold bits
  have e : 3 % 2 ^ IntKind.i64.bits = 2 ^ 2 - 1 := by decide
  simp
  rw [e, Nat.and_two_pow_sub_one_eq_mod]
  refine ⟨(x % 2 ^ IntKind.i64.bits).toNat % 4, by omega, ?_⟩
  have h4 : (x % 2 ^ IntKind.i64.bits).toNat % 2 ^ 2 < 4 := Nat.mod_lt _ (by omega)
  rw [IntKind.wrap_i64]
  omega
theorem RdPartsO.apart {F : Nat → Prop} {w0 w : World} {A : Option Addr} {pss : List (List Int)} (h : RdPartsO (fun _ => False) w0 A pss) (hk : Keeps (fun _ => False) w0 w) (hF : ∀ x, F x → w0.heap.size ≤ x) : RdPartsO F w A pss := by
  have out : ∀ {A : Option Addr} {n : Nat} {xs : List Value}, Rd w0 A n xs → Out F A n := fun hr hn ad e hf => by
    obtain ⟨g, o, e1, hlt⟩ := hr.lt hn
    rw [e] at e1
    injection e1 with e1
    subst e1
    have : w0.heap.size ≤ g := hF _ hf
    omega
  obtain ⟨vals, h1, _, h3⟩ := h
  refine ⟨vals, h1.keep hk (no_out _ _), out h1, fun i bs hi => ?_⟩
  obtain ⟨A', c', a, b, _, d⟩ := h3 i bs hi
  exact ⟨A', c', a, b.keep hk (no_out _ _), out b, d⟩

section
variable {w wr : World} {gl gw gt : Nat} {s : Nat → Slot}
theorem Plays.tk (hG : Glob w) (h : Plays w wr gl gw gt s) : ∀ x, Tk gl gw gt s x → 2 ≤ x := fun x hx => by
  have := h.low x hx
  have := hG.lt
  omega
/-- A Write of both. -/
theorem play_write (hG : Glob w) (h : Plays w wr gl gw gt s) {i : Nat} (hi : i < 4) {o : StepV} (ho : StepOK w o) :
    Calls Tryd.prog 37 #[(s i).ptr, .pointer (some ⟨gw, i * 10, none⟩), (s i).there, .slice o.PA o.pss.length o.pc] wr fun e w' => e = .returned (.bool true) ∧ ∃ s', Plays w w' gl gw gt s' := by
  have hGr : Glob wr := hG.keep h.keep (fun _ h => h.elim)
  have hok := h.ok i hi
  have hbig : o.pss.flatten.length ≤ 140737488355328 := by have := ho.flat; omega
  cases hq : (s i).q with
  | none =>
    rw [show (s i).ptr = .pointer none by unfold Slot.ptr; rw [hq]; rfl, show (s i).there = .bool false by unfold Slot.there; rw [hq]; rfl]
    exact (write_nil wr _ o.PA _ o.pc o.pss rfl (ho.parts.keep h.keep (fun _ h => h)) ho.few hbig).mono fun e w' ⟨he, hk⟩ => ⟨he, s, h.read hk⟩
  | some p =>
    rw [show (s i).ptr = .pointer (some ⟨p, 0, none⟩) by unfold Slot.ptr; rw [hq]; rfl, show (s i).there = .bool true by unfold Slot.there; rw [hq]; rfl]
    have hh := hok.at_ p hq
    have hft : ∀ x, Foot p (s i).v x → Tk gl gw gt s x := fun x hx => .inr (.inr (.inr ⟨i, hi, p, hq, hx⟩))
    have hrow := rows_take s hi
    unfold Slot.row at hrow
    have hkw : i * 10 + 10 ≤ (rows s).length := by rw [rows_length]; omega
    by_cases hfit : 64 * (s i).nb + (s i).X.length + o.pss.flatten.length < 2305843009213693952
    · have h1 := write_ok wr hGr p (s i).v (s i).S (s i).nb (s i).X hh (fun x hx => h.tk hG x (hft x hx)) gw (i * 10) _ (rows s) h.bw hkw (fun hf => (h.offs hi).2.1 ⟨p, hq, hf⟩) (s i).A (s i).c hrow hok.rd ((h.out i hi).mono hft)
        o.PA _ o.pc o.pss rfl (ho.parts.apart h.keep (fun x hx => hx.elim (fun e => h.low x (.inr (.inl e))) (fun e => h.low x (hft x e)))) ho.few hbig hfit
      refine h1.mono fun e w' ⟨he, v', A', c', r', Y, hY, hr', hh', hg, hrd, hA, hb, hK⟩ => ⟨he, _, h.wrote hi hq hr' hh' hg hrd hA hb hK ?_⟩
      rw [hY, List.length_append]
      omega
    · have h1 := write_long wr p (s i).v (s i).S (s i).nb (s i).X hh gw (i * 10) _ (rows s) h.bw hkw (stN (s i).S (s i).X ((s i).X.length / 64)) ((s i).nb + (s i).X.length / 64) ((s i).X.length % 64) (s i).c (s i).A hrow (by omega) (by omega) hok.le
        o.PA _ o.pc o.pss rfl (ho.parts.keep h.keep (fun _ h => h)) ho.few hbig (by omega)
      exact h1.mono fun e w' ⟨he, hk⟩ => ⟨he, s, h.read hk⟩
/-- What a place tells. -/
theorem play_told (hG : Glob w) (h : Plays w wr gl gw gt s) {i : Nat} (hi : i < 4) :
    Calls Tryd.prog 41 #[(s i).ptr, .agg (s i).row.toArray, (s i).there] wr fun e w' => e = .returned (.bool true) ∧ Keeps (fun _ => False) wr w' := by
  have hok := h.ok i hi
  cases hq : (s i).q with
  | none =>
    rw [show (s i).ptr = .pointer none by unfold Slot.ptr; rw [hq]; rfl, show (s i).there = .bool false by unfold Slot.there; rw [hq]; rfl]
    exact told_nil wr _ _ _
  | some p =>
    rw [show (s i).ptr = .pointer (some ⟨p, 0, none⟩) by unfold Slot.ptr; rw [hq]; rfl, show (s i).there = .bool true by unfold Slot.there; rw [hq]; rfl]
    exact told_there wr (hG.keep h.keep (fun _ h => h.elim)) p (s i).v (s i).S (s i).nb (s i).X (hok.at_ p hq) (s i).A (s i).c hok.rd hok.le
/-- Resume into a place. -/
theorem play_resume (h : Plays w wr gl gw gt s) {k : Nat} (hk : k < 4) {o : StepV} (ho : StepOK w o) :
    Calls Tryd.prog 40 #[.pointer (some ⟨gl, k, none⟩), .pointer (some ⟨gw, k * 10, none⟩), .pointer (some ⟨gt, k, none⟩), .agg (hcells o.st (o.nb : Int) (.slice o.MA o.X.length o.mc)).toArray] wr fun e w' => e = .returned (.bool true) ∧ ∃ s', Plays w w' gl gw gt s' := by
  have hrd := ho.rd.keep h.keep (no_out _ _)
  have hle := ho.le
  by_cases h64 : 64 ≤ o.X.length
  · exact (resume_arg wr o.st o.nb _ o.mc o.MA o.X rfl (by omega) h64 ho.by_ hrd _ _ _).mono fun e w' ⟨he, hkk⟩ => ⟨he, s, h.read hkk⟩
  · by_cases hnb : 36028797018963968 ≤ o.nb
    · exact (resume_long wr o.st o.nb _ o.mc o.MA o.X rfl (by omega) (by omega) hnb ho.by_ hrd _ _ _).mono fun e w' ⟨he, hkk⟩ => ⟨he, s, h.read hkk⟩
    · have hout : Out (fun i => i = gl ∨ i = gw ∨ i = gt) o.MA o.X.length := fun hn ad e hf => by
        obtain ⟨g, o', e1, hlt⟩ := ho.rd.lt hn
        rw [e] at e1
        injection e1 with e1
        subst e1
        have : w.heap.size ≤ g := by
          rcases hf with e | e | e
          · exact h.low g (.inl e)
          · exact h.low g (.inr (.inl e))
          · exact h.low g (.inr (.inr (.inl e)))
        omega
      refine (resume_ok wr o.st o.nb _ o.mc o.MA o.X rfl (by omega) (by omega) ho.by_ hrd gl k gw (k * 10) gt k _ _ _ _ _ _ h.bl (by rw [four_length]; omega) h.bw (by rw [rows_length]; omega) h.bt (by rw [four_length]; omega) h.n1 h.n2 h.n3 hout).mono fun e w' ⟨he, q, u, A, c, hh, hf, hr, ha, b1, b2, b3, hK⟩ => ⟨he, up s k ⟨some q, u, o.st, o.nb, o.X, A, c⟩, ?_⟩
      have hm : o.X.length % 64 = o.X.length := Nat.mod_eq_of_lt (by omega)
      have hd : o.X.length / 64 = 0 := by omega
      refine h.put hk (hK.mono (fun x _ e => ?_)) b1 ?_ b3 ⟨fun p hp => ?_, ?_, ho.by_, ?_⟩ (fun x ⟨p, hp, hx⟩ => ?_) (fun ad h0 ea e => ?_)
      · rcases e with e | e | e
        · exact .inl e
        · exact .inr (.inl e)
        · exact .inr (.inr (.inl e))
      · have : Slot.row ⟨some q, u, o.st, o.nb, o.X, A, c⟩ = hcells o.st (o.nb : Int) (.slice A o.X.length c) := by
          unfold Slot.row
          simp only [hm, hd]
          rfl
        rw [this]
        exact b2
      · injection hp with hp
        subst hp
        exact hh
      · simp only [hm, hd, Nat.mul_zero, List.drop_zero]
        exact hr
      · simp only; omega
      · injection hp with hp
        subst hp
        exact .inr (hf x hx)
      · obtain ⟨h1, h2⟩ := ha ad ea
        rcases e with e | e | e | ⟨p, hp, e⟩ | ⟨j, hj, _, e⟩
        · have := h.bl.lt; omega
        · have := h.bw.lt; omega
        · have := h.bt.lt; omega
        · injection hp with hp
          subst hp
          exact h2 e
        · have := (h.ok j hj).lt _ e; omega
/-- A copy of the reference's. -/
theorem play_rcopy (h : Plays w wr gl gw gt s) {i : Nat} (hi : i < 4) :
    Calls Tryd.prog 38 #[.agg (s i).row.toArray] wr fun e w' => ∃ A c, e = .returned (.agg (Slot.row { s i with A := A, c := c }).toArray) ∧ Rd w' A ((s i).X.length % 64) (vb ((s i).X.drop (64 * ((s i).X.length / 64)))) ∧ Keeps (fun _ => False) wr w' ∧ ∀ ad, 0 < (s i).X.length % 64 → A = some ad → wr.heap.size ≤ ad.block := by
  have hok := h.ok i hi
  refine (rcopy_any wr (stN (s i).S (s i).X ((s i).X.length / 64)) (((s i).nb + (s i).X.length / 64 : Nat) : Int) (s i).A ((s i).X.length % 64) (s i).c _ hok.rd (by omega)).mono fun e w' ⟨A, c, he, ho, hk, hg⟩ => ⟨A, c, he, Rd.of_own ho, hk, fun ad h0 ea => ?_⟩
  obtain ⟨g5, cap5, e5, _⟩ := ho.form h0
  injection e5 with e5
  rw [ea] at e5
  injection e5 with e5
  subst ea e5
  exact hg _ rfl
/-- Behind a Reset and the store of New. -/
theorem Plays.reset {w3 : World} (h : Plays w wr gl gw gt s) {i : Nat} (hi : i < 4) (hk : Keeps (s i).foot wr w3) (hat : ∀ p, (s i).q = some p → HashAt w3 p (.slice none 0 0) first 0 []) :
    Blk w3 gw 68 (rows s) ∧ Plays w (w3.setRow gw (Go.Aff.splice (rows s) (i * 10) (hcells first 0 (.slice none 0 0))).toArray) gl gw gt (up s i ⟨(s i).q, .slice none 0 0, first, 0, [], none, 0⟩) := by
  obtain ⟨o1, o2, o3⟩ := h.offs hi
  have hb := hk.blk h.bw o2
  have hrow : Slot.row ⟨(s i).q, .slice none 0 0, first, 0, [], none, 0⟩ = hcells first 0 (.slice none 0 0) := by simp [Slot.row, stN]
  have hF : Keeps (fun x => x = gw) w3 (w3.setRow gw (Go.Aff.splice (rows s) (i * 10) (hcells first 0 (.slice none 0 0))).toArray) := (Keeps.refl (fun x => x = gw) w3).setRow (.inl rfl) _
  have hft : ∀ x, Slot.foot ⟨(s i).q, .slice none 0 0, first, 0, [], none, 0⟩ x → (s i).foot x := fun x ⟨p, hp, hx⟩ => hx.elim (fun e => ⟨p, hp, .inl e⟩) (fun e => by cases e)
  refine ⟨hb, h.put hi ((hk.mono (G := fun x => x = gl ∨ x = gw ∨ x = gt ∨ (s i).foot x) (fun _ _ e => .inr (.inr (.inr e)))).trans hF (fun _ _ e => .inr (.inl e))) ?_ ?_ ?_ ⟨fun p hp => ?_, ⟨by simp [vb], fun h => absurd h (by simp)⟩, (fun x hx => by cases hx), by simp⟩ (fun x hx => .inl (hft x hx)) (fun ad h0 => by simp at h0)⟩
  · have := (hk.blk h.bl o1).setRow_far h.n1 (Go.Aff.splice (rows s) (i * 10) (hcells first 0 (.slice none 0 0))).toArray
    rwa [← four_same s Slot.ptr hi (x := Slot.ptr ⟨(s i).q, .slice none 0 0, first, 0, [], none, 0⟩) rfl] at this
  · rw [hrow]
    exact hb.setRow _
  · have := (hk.blk h.bt o3).setRow_far h.n3.symm (Go.Aff.splice (rows s) (i * 10) (hcells first 0 (.slice none 0 0))).toArray
    rwa [← four_same s Slot.there hi (x := Slot.there ⟨(s i).q, .slice none 0 0, first, 0, [], none, 0⟩) rfl] at this
  · refine (hat p hp).keep hF (fun x hx e => ?_)
    have e' : x = gw := e
    subst e'
    exact o2 (hft _ ⟨p, hp, hx⟩)
/-- A Reset. -/
theorem play_reset (hG : Glob w) (h : Plays w wr gl gw gt s) {i : Nat} (hi : i < 4) :
    Calls Tryd.prog 32 #[(s i).ptr] wr fun e w' => e = .returned (.tuple #[]) ∧ Keeps (s i).foot wr w' ∧ ∀ p, (s i).q = some p → HashAt w' p (.slice none 0 0) first 0 [] := by
  cases hq : (s i).q with
  | none =>
    rw [show (s i).ptr = .pointer none by unfold Slot.ptr; rw [hq]; rfl]
    exact (Reset_nil wr).mono fun e w' ⟨he, hw⟩ => ⟨he, by rw [← hw]; exact Keeps.refl _ _, fun p hp => by cases hp⟩
  | some p =>
    rw [show (s i).ptr = .pointer (some ⟨p, 0, none⟩) by unfold Slot.ptr; rw [hq]; rfl]
    refine (Reset_any wr (hG.keep h.keep (fun _ h => h.elim)) p _ _ _ _ ((h.ok i hi).at_ p hq)).mono fun e w' ⟨he, hh, hk⟩ => ⟨he, hk.mono (fun x _ e => ⟨p, hq, .inl e⟩), fun p' hp' => ?_⟩
    injection hp' with hp'
    subst hp'
    exact hh
end
/-- Nothing yet. -/
def slot0 : Slot := ⟨none, .slice none 0 0, zeroS, 0, [], none, 0⟩
theorem plays_start (w : World) : Plays w (((w.alloc (.cells (four fun _ => .pointer none).toArray 66)).alloc (.cells (rows fun _ => slot0).toArray 68)).alloc (.cells (four fun _ => .bool false).toArray 69)) w.heap.size (w.heap.size + 1) (w.heap.size + 2) (fun _ => slot0) := by
  have b1 := (Blk.new w 66 (four fun _ => .pointer none))
  have b2 := (Blk.new (w.alloc (.cells (four fun _ => .pointer none).toArray 66)) 68 (rows fun _ => slot0))
  have b3 := (Blk.new ((w.alloc (.cells (four fun _ => .pointer none).toArray 66)).alloc (.cells (rows fun _ => slot0).toArray 68)) 69 (four fun _ => .bool false))
  rw [World.size_alloc] at b2
  rw [World.size_alloc, World.size_alloc] at b3
  refine ⟨fun i _ => ⟨fun p hp => (by cases hp), ⟨by simp [vb, slot0], fun h => absurd h (by simp [slot0])⟩, (fun x hx => by cases hx), by simp [slot0]⟩, (b1.alloc _).alloc _, b2.alloc _, b3, fun x hx => ?_, fun i j _ _ _ x ⟨p, hp, _⟩ => (by cases hp), fun i _ hn => (by simp [slot0] at hn), (((Keeps.refl _ w).alloc _).alloc _).alloc _⟩
  rcases hx with e | e | e | ⟨j, _, p, hp, _⟩
  · omega
  · omega
  · omega
  · cases hp
end Go.Proofs.YtgblndddcbfdiaaDoor
