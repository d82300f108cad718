/-
  One Mac, and two of them side by side, of the call's own; rows between them stay.
-/
import Derived.Test.YtnlnbgjpbnjjfaaDoorHmacBlocksW
import Derived.Test.YtnlnbgjpbnjjfaaDoorMacAW
import Derived.Test.YtnlnbgjpbnjjfaaDoorMemK
set_option linter.unusedSimpArgs false
namespace Go.Aff
open Go Go.RowKit
section
variable {P : Program} {T e : TypeId}
theorem cut_hm (hu : P.underlying T = some (.slice e)) (hz : (P.info? e).map (·.size) = some 1) (A : Option Addr) (n c h : Nat) (hi mi : Int) (hhi : hi = h) (hmi : mi = h) (h2 : h ≤ c) (w : World) :
    (Instr.sliceAt T (.slice A n c) none (some (.int .i64 hi)) (some (.int .i64 mi))).run P w = .ok (.slice (cutA A h 0) h h) w := by
  subst hhi hmi
  have hu' : P.underlying T = some (.slice (P.elem T)) := by rw [elem_of hu]; exact hu
  rw [run_sliceAt_slice w T _ _ _ _ hu', run_slice_hm w T A n c hu' .i64 .i64 h h (by omega) (by omega) (by omega), size_one hu hz]
  simp [sliced, cutA]
end
theorem Rd.cutHM {w : World} {A : Option Addr} {n : Nat} {xs : List Value} (h : Rd w A n xs) {k : Nat} (hk : k ≤ n) : Rd w (Aff.cutA A k 0) k (xs.take k) := by
  have := (h.take hk).cutA (l := 0) (c := k) (by omega) (Nat.le_refl _)
  simpa using this
end Go.Aff
namespace Go.Proofs.YtnlnbgjpbnjjfaaDoor
open Go Go.RowKit Go.Sha Go.Aff Go.Mac

/-- A Mac's blocks. -/
def MFoot (p q : Nat) (v : Value) (i : Nat) : Prop := i = p ∨ Foot q v i
section
variable {w wD wr w' : World} {lo p q p2 q2 : Nat} {v v2 : Value} {key msg msg2 : List Int}
theorem OMac.keepF {F : Nat → Prop} (h : OMac w wr p q v key msg) (hk : Keeps F wr w') (hF : ∀ i, MFoot p q v i → ¬ F i) (hw : ∀ i, i < w.heap.size → ¬ F i) : OMac w w' p q v key msg :=
  ⟨hk.blk h.blk (hF p (.inl rfl)), ⟨h.own.1.keep hk (fun i hi => hF i (.inr hi)), h.own.2.1.trans hk (fun i hi hf => hw i hi hf), h.own.2.2⟩, h.low⟩
theorem OMac.foot_lt (h : OMac w wr p q v key msg) : ∀ i, MFoot p q v i → i < wr.heap.size := by
  rintro i (rfl | hi)
  · exact h.blk.lt
  · exact h.own.1.lt i hi
theorem OMac.foot_low (h : OMac w wr p q v key msg) : ∀ i, MFoot p q v i → w.heap.size ≤ i := by
  rintro i (rfl | hi)
  · exact h.low
  · exact h.own.2.2 i hi
/-- One Mac, its blocks older than lo or newer than wD; what lies between stays. -/
structure OneM (w wD : World) (lo : Nat) (wr : World) (p q : Nat) (v : Value) (key msg : List Int) : Prop where
  one : OMac w wr p q v key msg
  off : ∀ i, MFoot p q v i → i < lo ∨ wD.heap.size ≤ i
  kept : Keeps (fun i => w.heap.size ≤ i ∧ i < lo) wD wr
/-- Two Macs side by side. -/
structure TwoM (w wD : World) (lo : Nat) (wr : World) (p q : Nat) (v : Value) (p2 q2 : Nat) (v2 : Value) (key msg msg2 : List Int) : Prop where
  one : OneM w wD lo wr p q v key msg
  two : OneM w wD lo wr p2 q2 v2 key msg2
  apart : ∀ i, MFoot p2 q2 v2 i → ¬ MFoot p q v i
theorem OneM.read (h : OneM w wD lo wr p q v key msg) (hk : Keeps (fun _ => False) wr w') : OneM w wD lo w' p q v key msg := ⟨h.one.keep hk, h.off, h.kept.trans hk (fun _ _ h => h.elim)⟩
theorem TwoM.read (h : TwoM w wD lo wr p q v p2 q2 v2 key msg msg2) (hk : Keeps (fun _ => False) wr w') : TwoM w wD lo w' p q v p2 q2 v2 key msg msg2 := ⟨h.one.read hk, h.two.read hk, h.apart⟩
theorem TwoM.swap (h : TwoM w wD lo wr p q v p2 q2 v2 key msg msg2) : TwoM w wD lo wr p2 q2 v2 p q v key msg2 msg := ⟨h.two, h.one, fun i hi hj => h.apart i hj hi⟩
theorem OneM.copied (h : OneM w wD lo wr p q v key msg) (hc : OMac wr w' p2 q2 v2 key msg2) : TwoM w wD lo w' p q v p2 q2 v2 key msg msg2 := by
  refine ⟨h.read hc.own.2.1, ⟨hc.older h.one.own.2.1, fun i hi => .inr ?_, h.kept.trans hc.own.2.1 (fun _ _ h => h.elim)⟩, fun i hi hj => ?_⟩
  · exact Nat.le_trans h.kept.size (hc.foot_low i hi)
  · have h1 := hc.foot_low i hi
    have h2 := h.one.foot_lt i hj
    omega
theorem foot_new {v' : Value} (hv : ∀ g, v'.ownBlock = some g → v.ownBlock = some g ∨ wr.heap.size ≤ g) (i : Nat) (hi : MFoot p q v' i) : MFoot p q v i ∨ wr.heap.size ≤ i := by
  rcases hi with rfl | rfl | hi
  · exact .inl (.inl rfl)
  · exact .inl (.inr (.inl rfl))
  · rcases hv i hi with h | h
    · exact .inl (.inr (.inr h))
    · exact .inr h
theorem OneM.wrote {v' : Value} {msg' : List Int} (h : OneM w wD lo wr p q v key msg) (ho : OMac w w' p q v' key msg') (hk : Keeps (fun i => i = p ∨ Foot q v i) wr w') (hv : ∀ g, v'.ownBlock = some g → v.ownBlock = some g ∨ wr.heap.size ≤ g) : OneM w wD lo w' p q v' key msg' := by
  refine ⟨ho, fun i hi => ?_, h.kept.trans hk (fun i hi hf => ?_)⟩
  · rcases foot_new hv i hi with h1 | h1
    · exact h.off i h1
    · exact .inr (Nat.le_trans h.kept.size h1)
  · refine ⟨h.one.foot_low i hf, ?_⟩
    rcases h.off i hf with h1 | h1
    · exact h1
    · omega
theorem TwoM.wrote {v' : Value} {msg' : List Int} (h : TwoM w wD lo wr p q v p2 q2 v2 key msg msg2) (ho : OMac w w' p q v' key msg') (hk : Keeps (fun i => i = p ∨ Foot q v i) wr w') (hv : ∀ g, v'.ownBlock = some g → v.ownBlock = some g ∨ wr.heap.size ≤ g) : TwoM w wD lo w' p q v' p2 q2 v2 key msg' msg2 := by
  have h1 := h.one.wrote ho hk hv
  refine ⟨h1, ⟨h.two.one.keepF hk (fun i hi hf => h.apart i hi hf) (fun i hi hf => ?_), h.two.off, h1.kept⟩, fun i hi hj => ?_⟩
  · have := h.one.one.foot_low i hf
    omega
  · rcases foot_new hv i hj with h2 | h2
    · exact h.apart i hi h2
    · have := h.two.one.foot_lt i hi
      omega
theorem OneM.reset {q' : Nat} {v' : Value} (h : OneM w wD lo wr p q v key msg) (ho : OMac w w' p q' v' key []) (hk : Keeps (fun i => i = p) wr w') (hv : ∀ i, Foot q' v' i → wr.heap.size ≤ i) : OneM w wD lo w' p q' v' key [] := by
  refine ⟨ho, fun i hi => ?_, h.kept.trans hk (fun i hi hf => ?_)⟩
  · rcases hi with rfl | hi
    · exact h.off i (.inl rfl)
    · exact .inr (Nat.le_trans h.kept.size (hv i hi))
  · have hf' : i = p := hf
    subst hf'
    refine ⟨h.one.low, ?_⟩
    rcases h.off i (.inl rfl) with h1 | h1
    · exact h1
    · omega
theorem OneM.blk {g : Nat} {t : TypeId} {cs : List Value} (h : OneM w wD lo wr p q v key msg) (hb : Blk wD g t cs) (hg : lo ≤ g) : Blk wr g t cs := h.kept.blk hb (fun hf => by omega)
end

section
variable {w wD wr : World} {lo p q p2 q2 : Nat} {v v2 : Value} {key msg msg2 : List Int}
theorem one_copy (h : OneM w wD lo wr p q v key msg) : Calls Tryd.prog 32 #[.pointer (some ⟨p, 0, none⟩)] wr fun e w' => ∃ p3 q3 v3, e = .returned (.pointer (some ⟨p3, 0, none⟩)) ∧ TwoM w wD lo w' p q v p3 q3 v3 key msg msg :=
  (mcopy_any w wr p q v key msg h.one).mono fun _ _ ⟨p3, q3, v3, he, ho⟩ => ⟨p3, q3, v3, he, h.copied ho⟩
theorem one_write (hG : Glob w) (h : OneM w wD lo wr p q v key msg) (A : Option Addr) (n c : Nat) (bs : List Int) (hn : bs.length = n) (hr : Rd w A n (vb bs)) (hb : IsBytes bs) (hc : n ≤ c) (hm : n ≤ 140737488351232) (hfit : 64 + msg.length + n < 2305843009213693952) :
    Calls Tryd.prog 33 #[.pointer (some ⟨p, 0, none⟩), .slice A n c] wr fun e w' => e = .returned .nilIface ∧ ∃ v', OneM w wD lo w' p q v' key (msg ++ bs) :=
  (mwrite_any w hG wr p q v key msg h.one A n c bs hn (hr.keep h.one.own.2.1 (no_out _ _)) (h.one.own.out hr) hb hc hm hfit).mono fun _ _ ⟨he, v', ho, hk, hv⟩ => ⟨he, v', h.wrote ho hk hv⟩
theorem two_write (hG : Glob w) (h : TwoM w wD lo wr p q v p2 q2 v2 key msg msg2) (A : Option Addr) (n c : Nat) (bs : List Int) (hn : bs.length = n) (hr : Rd w A n (vb bs)) (hb : IsBytes bs) (hc : n ≤ c) (hm : n ≤ 140737488351232) (hfit : 64 + msg.length + n < 2305843009213693952) :
    Calls Tryd.prog 33 #[.pointer (some ⟨p, 0, none⟩), .slice A n c] wr fun e w' => e = .returned .nilIface ∧ ∃ v', TwoM w wD lo w' p q v' p2 q2 v2 key (msg ++ bs) msg2 :=
  (mwrite_any w hG wr p q v key msg h.one.one A n c bs hn (hr.keep h.one.one.own.2.1 (no_out _ _)) (h.one.one.own.out hr) hb hc hm hfit).mono fun _ _ ⟨he, v', ho, hk, hv⟩ => ⟨he, v', h.wrote ho hk hv⟩
theorem one_sum (hG : Glob w) (h : OneM w wD lo wr p q v key msg) (hkb : IsBytes key) (hfit : 64 + msg.length < 2305843009213693952) :
    Calls Tryd.prog 34 #[.pointer (some ⟨p, 0, none⟩)] wr fun e w' => e = .returned (.agg (vb (macF key msg)).toArray) ∧ Keeps (fun _ => False) wr w' := msum_any w hG wr p q v key msg h.one hkb hfit
theorem one_reset (hG : Glob w) (h : OneM w wD lo wr p q v key msg) (hkb : IsBytes key) :
    Calls Tryd.prog 36 #[.pointer (some ⟨p, 0, none⟩)] wr fun e w' => e = .returned .nilIface ∧ ∃ q' v', OneM w wD lo w' p q' v' key [] :=
  (mreset_any w hG wr p q v key msg h.one hkb).mono fun _ _ ⟨q', v', he, ho, hk, hv⟩ => ⟨he, q', v', h.reset ho hk hv⟩
end

/-- While bytes are cut: the parts so far (a row of the call's own, newer than w3; the parts lie in w). -/
structure CutR (w w3 : World) (bs : List Int) (k m : Nat) (Ap : Option Addr) (cp : Nat) (vals : List Value) (pss : List (List Int)) (wr : World) : Prop where
  row : Mine w3 wr 22 Ap k cp vals
  len : pss.length = k
  each : ∀ (i : Nat) (ps : List Int), pss[i]? = some ps → ∃ A' c', vals[i]? = some (.slice A' ps.length c') ∧ Rd w A' ps.length (vb ps) ∧ IsBytes ps ∧ ps.length ≤ c'
  flat : pss.flatten = bs.take m
theorem CutR.vlen {w w3 wr : World} {bs : List Int} {k m cp : Nat} {Ap : Option Addr} {vals : List Value} {pss : List (List Int)} (h : CutR w w3 bs k m Ap cp vals pss wr) : vals.length = k := by simpa using h.row.1.1
theorem CutR.start (w w3 : World) (bs : List Int) : CutR w w3 bs 0 0 none 0 [] [] w3 := ⟨⟨World.ownsRow_nil _ _ _ _, Keeps.refl _ _, fun g h => by cases h⟩, rfl, fun i ps h => by simp at h, by simp⟩
theorem CutR.step {w w3 wr w' : World} {bs : List Int} {k m cp q c cp' : Nat} {Ap A Ap' : Option Addr} {vals : List Value} {pss : List (List Int)} (h : CutR w w3 bs k m Ap cp vals pss wr) (hrow : Mine w3 w' 22 Ap' (k + 1) cp' (vals ++ [.slice A q c]))
    (hq : ((bs.drop m).take q).length = q) (hr : Rd w A q (vb ((bs.drop m).take q))) (hb : IsBytes bs) (hc : q ≤ c) : CutR w w3 bs (k + 1) (m + q) Ap' cp' (vals ++ [.slice A q c]) (pss ++ [(bs.drop m).take q]) w' := by
  have hvl := h.vlen
  have hpl := h.len
  refine ⟨hrow, by simp [hpl], fun i ps hi => ?_, ?_⟩
  · by_cases hik : i < k
    · rw [List.getElem?_append_left (by omega)] at hi
      obtain ⟨A', c', a, b⟩ := h.each i ps hi
      exact ⟨A', c', by rw [List.getElem?_append_left (by omega)]; exact a, b⟩
    · have hik' : i = k := by
        have := List.getElem?_eq_some_iff.mp hi |>.1
        simp [hpl] at this
        omega
      subst hik'
      rw [List.getElem?_append_right (by omega), hpl] at hi
      have e : (bs.drop m).take q = ps := by simpa using hi
      subst e
      refine ⟨A, c, by rw [List.getElem?_append_right (by omega), hvl, hq]; simp, by rw [hq]; exact hr, fun x hx => hb x (List.mem_of_mem_drop (List.mem_of_mem_take hx)), by rw [hq]; exact hc⟩
  · rw [List.flatten_append, h.flat, List.take_add]
    simp
/-- The parts, read behind. -/
theorem CutR.parts {w w3 wr : World} {bs : List Int} {n k m cp lo : Nat} {Ap : Option Addr} {vals : List Value} {pss : List (List Int)} (h : CutR w w3 bs k m Ap cp vals pss wr) (hk : Keeps (fun _ => False) w w3) (hlo : lo ≤ w3.heap.size) (hbl : bs.length = n) (hn : n ≤ 140737488351232) :
    RdPartsO (fun i => w.heap.size ≤ i ∧ i < lo) wr Ap pss := by
  have hl := h.len
  have hw : Keeps (fun _ => False) w wr := hk.trans h.row.2.1 (fun _ _ h => h)
  refine ⟨vals, by rw [hl]; exact Rd.of_own h.row.1, fun hpos ad e hf => ?_, fun i ps hi => ?_⟩
  · obtain ⟨g, e1, hg, _⟩ := h.row.form (by omega)
    rw [e1] at e
    injection e with e
    subst e
    have : g < lo := hf.2
    omega
  · obtain ⟨A', c', a, b, c, d⟩ := h.each i ps hi
    refine ⟨A', c', a, b.keep hw (no_out _ _), fun hp ad e hf => ?_, c, d, ?_⟩
    · obtain ⟨g, o, e1, hg⟩ := b.lt hp
      rw [e1] at e
      injection e with e
      subst e
      have : w.heap.size ≤ g := hf.1
      omega
    · have h1 := part_le pss i ps hi
      rw [h.flat, List.length_take] at h1
      omega
theorem clip_case (z : Int) (r : Nat) : ∃ u : Nat, u ≤ r ∧ ((z < 0 ∧ u = 0) ∨ (¬ z < 0 ∧ (r : Int) < z ∧ u = r) ∨ (¬ z < 0 ∧ ¬ (r : Int) < z ∧ z = u)) := by
  by_cases h1 : z < 0
  · exact ⟨0, by omega, .inl ⟨h1, rfl⟩⟩
  · by_cases h2 : (r : Int) < z
    · exact ⟨r, by omega, .inr (.inl ⟨h1, h2, rfl⟩)⟩
    · exact ⟨z.toNat, by omega, .inr (.inr ⟨h1, h2, by omega⟩)⟩
end Go.Proofs.YtnlnbgjpbnjjfaaDoor
