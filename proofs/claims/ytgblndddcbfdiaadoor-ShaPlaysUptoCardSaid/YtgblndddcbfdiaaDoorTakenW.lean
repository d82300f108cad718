/-
  WALKS: the statement ShaTaken.
-/
import Derived.Test.YtgblndddcbfdiaaDoorResumeW
import Derived.Test.YtgblndddcbfdiaaDoorShaRoundW
import Derived.Test.YtgblndddcbfdiaaDoorOpenK
set_option linter.unusedSimpArgs false
namespace Go.Aff
open Go Go.RowKit
theorem neq_of_eql {P : Program} {w : World} {t : TypeId} {xs ys : Array Value} {b : Bool} (h : (binOp .eql t (.agg xs) (.agg ys)).run P w = .ok (.bool b) w) : (binOp .neq t (.agg xs) (.agg ys)).run P w = .ok (.bool (!b)) w := by
  rw [run_eql_struct] at h
  rw [run_neq_struct]
  cases hr : (Op.equalIn 10000 t (.agg xs) (.agg ys)).run P w with
  | halt a b' => rw [hr] at h; cases h
  | ok b' w' =>
    rw [hr] at h
    simp only [Result.andThen_ok] at h ⊢
    injection h with h1 h2
    injection h1 with h1
    rw [h1, h2]
end Go.Aff
namespace Go.Proofs.YtgblndddcbfdiaaDoor
open Go Go.RowKit Go.Sha Go.Aff

/-- A hash of the call's own stands where another one is written to. -/
theorem Own.apart {w W W' : World} {p : Nat} {v : Value} {S : Nat → Int} {nb : Nat} {X : List Int} {F : Nat → Prop} (h : Own w W p v S nb X) (hk : Keeps F W W') (h1 : ∀ i, Foot p v i → ¬ F i) (h2 : ∀ i, F i → w.heap.size ≤ i) : Own w W' p v S nb X :=
  ⟨h.1.keep hk h1, h.2.1.trans hk (fun i hi hf => by have := h2 i hf; omega), h.2.2⟩
/-- A block that stays. -/
def BlkAt (w : World) (g : Nat) (t : TypeId) (cs : List Value) : Prop := Blk w g t cs
theorem BlkAt.blkk {w W : World} {g : Nat} {t : TypeId} {cs : List Value} (h : BlkAt w g t cs) (hk : Keeps (fun _ => False) w W) : Blk W g t cs := hk.blk h (fun h => h)
theorem hcells_8 (S : Nat → Int) (nb : Int) (v : Value) : (hcells S nb v)[8]? = some (.int .u64 nb) := rfl
theorem hcells_9 (S : Nat → Int) (nb : Int) (v : Value) : (hcells S nb v)[9]? = some v := rfl
theorem dig_eq (D E : List Int) (hD : D.length = 32) (hE : E.length = 32) (h : D = E) : (∀ W, (binOp .eql 23 (.agg (vb D).toArray) (.agg (vb E).toArray)).run Tryd.prog W = .ok (.bool true) W) ∧ (∀ W, (binOp .neq 23 (.agg (vb D).toArray) (.agg (vb E).toArray)).run Tryd.prog W = .ok (.bool false) W) := by
  have h1 : ∀ W, (binOp .eql 23 (.agg (vb D).toArray) (.agg (vb E).toArray)).run Tryd.prog W = .ok (.bool true) W := fun W => by
    rw [digest_eql W D E hD hE, decide_eq_true h]
  exact ⟨h1, fun W => neq_of_eql (h1 W)⟩

theorem Reset_own (w : World) (hG : Hid (Glob w)) (W : World) (p : Nat) (v : Value) (X : List Int) (h : Own w W p v first 0 X) :
    Calls Tryd.prog 32 #[.pointer (some ⟨p, 0, none⟩)] W fun e w' => e = .returned (.tuple #[]) ∧ Own w w' p (.slice none 0 0) first 0 [] ∧ Keeps (fun i => i = p) W w' :=
  (Reset_any W (hG.out.keep h.2.1 (fun _ h => h.elim)) p v first 0 X h.1).mono fun e w' ⟨he, hh, hk⟩ => ⟨he, ⟨hh, h.2.1.trans hk (fun i hi hf => by
    have e' : i = p := hf
    have := h.2.2 p (.inl rfl)
    omega), fun i hi => by
    rcases hi with rfl | hi
    · exact h.2.2 i (.inl rfl)
    · cases hi⟩, hk⟩

theorem rd_new {w3 : World} {A : Option Addr} {n : Nat} {xs : List Value} (h : Rd w3 A n xs) (o : Obj) (cs : Array Value) : Rd ((w3.alloc o).setRow w3.heap.size cs) A n xs := by
  refine (h.alloc o).keep ((Keeps.refl (fun i => i = w3.heap.size) _).setRow (.inl rfl) _) ?_
  intro h0 ad e hf
  obtain ⟨g, o', e1, hg⟩ := h.lt h0
  rw [e] at e1
  injection e1 with e1
  subst e1
  have hf' : g = w3.heap.size := hf
  omega

set_option maxHeartbeats 8000000 in
set_option maxRecDepth 100000 in
theorem taken_any (w : World) (hG : Glob w) (Ab Am : Option Addr) (n cb nm cm : Nat) (bs ms : List Int) (hn : bs.length = n) (hr : Rd w Ab n (vb bs)) (hb : IsBytes bs) (hc : n ≤ cb) (hm : n ≤ 140737488351232)
    (hnm : ms.length = nm) (hrm : Rd w Am nm (vb ms)) (hbm : IsBytes ms) (hcm : nm ≤ cm) (hmm : nm ≤ 140737488351232) :
    Calls Tryd.prog 9 #[.slice Ab n cb, .slice Am nm cm] w fun e w' => e = .returned (.bool true) ∧ Keeps (fun _ => False) w w' := by
  obtain ⟨k, hk⟩ : ∃ k, k = n / 64 := ⟨_, rfl⟩
  obtain ⟨st, hst⟩ : ∃ st, st = stN first bs k := ⟨_, rfl⟩
  obtain ⟨Xr, hXr⟩ : ∃ Xr, Xr = bs.drop (64 * k) := ⟨_, rfl⟩
  obtain ⟨r, hrr⟩ : ∃ r, r = n % 64 := ⟨_, rfl⟩
  have hXl : Xr.length = r := by rw [hXr, List.length_drop, hn]; omega
  have hXb : IsBytes Xr := by rw [hXr]; exact bytes_drop hb _
  have hres : ∀ Z, sumF st k (Xr ++ Z) = sumF first 0 (bs ++ Z) := by
    intro Z
    have := sumF_resume first 0 bs Z
    rw [hn, ← hk, ← hst, ← hXr, Nat.zero_add] at this
    exact this
  obtain ⟨D0, hD0⟩ : ∃ D0, D0 = (vb (sumF first 0 [])).toArray := ⟨_, rfl⟩
  obtain ⟨D1, hD1⟩ : ∃ D1, D1 = (vb (sumF first 0 bs)).toArray := ⟨_, rfl⟩
  obtain ⟨D2, hD2⟩ : ∃ D2, D2 = (vb (sumF first 0 (bs ++ ms))).toArray := ⟨_, rfl⟩
  have q0 : ∀ W, (binOp .eql 23 (.agg D0) (.agg D0)).run Tryd.prog W = .ok (.bool true) W := by rw [hD0]; exact (dig_eq _ _ (sumF_length _ _ _) (sumF_length _ _ _) rfl).1
  have q1 : ∀ W, (binOp .neq 23 (.agg D1) (.agg D1)).run Tryd.prog W = .ok (.bool false) W := by rw [hD1]; exact (dig_eq _ _ (sumF_length _ _ _) (sumF_length _ _ _) rfl).2
  have q2 : ∀ W, (binOp .neq 23 (.agg D2) (.agg D2)).run Tryd.prog W = .ok (.bool false) W := by rw [hD2]; exact (dig_eq _ _ (sumF_length _ _ _) (sumF_length _ _ _) rfl).2
  have q3 : ∀ W, (binOp .eql 23 (.agg D2) (.agg D2)).run Tryd.prog W = .ok (.bool true) W := by rw [hD2]; exact (dig_eq _ _ (sumF_length _ _ _) (sumF_length _ _ _) rfl).1
  have HS0 : Hid (∀ W p v, Own w W p v first 0 [] → Calls Tryd.prog 23 #[.pointer (some ⟨p, 0, none⟩)] W fun e w' => e = .returned (.agg D0) ∧ Keeps (fun _ => False) W w') := fun W p v h => by
    rw [hD0]; exact sum_any W (hG.keep h.2.1 (fun _ h => h.elim)) p v first 0 [] h.1 (by simp)
  have HSH0 : Hid (∀ W p v, Own w W p v first 0 bs → Calls Tryd.prog 23 #[.pointer (some ⟨p, 0, none⟩)] W fun e w' => e = .returned (.agg D1) ∧ Keeps (fun _ => False) W w') := fun W p v h => by
    rw [hD1]; exact sum_any W (hG.keep h.2.1 (fun _ h => h.elim)) p v first 0 bs h.1 (by omega)
  have HSX : Hid (∀ W q u, Own w W q u st k Xr → Calls Tryd.prog 23 #[.pointer (some ⟨q, 0, none⟩)] W fun e w' => e = .returned (.agg D1) ∧ Keeps (fun _ => False) W w') := fun W q u h => by
    have := sum_any W (hG.keep h.2.1 (fun _ h => h.elim)) q u st k Xr h.1 (by omega)
    have e := hres []
    rw [List.append_nil, List.append_nil] at e
    rw [e, ← hD1] at this
    exact this
  have HSX1 : Hid (∀ W q u, Own w W q u st k (Xr ++ ms) → Calls Tryd.prog 23 #[.pointer (some ⟨q, 0, none⟩)] W fun e w' => e = .returned (.agg D2) ∧ Keeps (fun _ => False) W w') := fun W q u h => by
    have := sum_any W (hG.keep h.2.1 (fun _ h => h.elim)) q u st k (Xr ++ ms) h.1 (by rw [List.length_append]; omega)
    rw [hres ms, ← hD2] at this
    exact this
  have HL0 : Hid (∀ W p v, Own w W p v first 0 [] → Calls Tryd.prog 26 #[.pointer (some ⟨p, 0, none⟩)] W fun e w' => e = .returned (.int .u64 0) ∧ ∃ k, w' = W.drewN k) := fun W p v h => len_at W p v first 0 [] h.1 (by simp)
  have HLX0 : Hid (∀ W q u, Own w W q u st k Xr → Calls Tryd.prog 26 #[.pointer (some ⟨q, 0, none⟩)] W fun e w' => e = .returned (.int .u64 (n : Int)) ∧ ∃ k, w' = W.drewN k) := fun W q u h => by
    have := len_at W q u st k Xr h.1 (by omega)
    rw [show 64 * k + Xr.length = n by omega] at this
    exact this
  have HW1 : Hid (∀ W p v, Own w W p v first 0 [] → Calls Tryd.prog 22 #[.pointer (some ⟨p, 0, none⟩), .slice (some ⟨W.heap.size, 0, none⟩) 1 1] (W.alloc (.cells #[.slice Ab n cb] 26)) fun e w' => e = .returned .nilIface ∧ ∃ v', Own w w' p v' first 0 bs) := fun W p v h =>
    (own_write1 w hG W p v first 0 [] h Ab n cb bs hn (hr.keep h.2.1 (no_out _ _)) (h.out hr) hb hc hm (by simp; omega)).mono fun e w' ⟨he, v', a, _⟩ => ⟨he, v', a⟩
  have HW2 : Hid (∀ W q u, Own w W q u st k Xr → Calls Tryd.prog 22 #[.pointer (some ⟨q, 0, none⟩), .slice (some ⟨W.heap.size, 0, none⟩) 1 1] (W.alloc (.cells #[.slice Am nm cm] 26)) fun e w' => e = .returned .nilIface ∧ ∃ v', Own w w' q v' st k (Xr ++ ms) ∧ Keeps (Foot q u) W w' ∧ (∀ g, v'.ownBlock = some g → u.ownBlock = some g ∨ W.heap.size ≤ g)) := fun W q u h =>
    own_write1 w hG W q u st k Xr h Am nm cm ms hnm (hrm.keep h.2.1 (no_out _ _)) (h.out hrm) hbm hcm hmm (by omega)
  have HMID : Hid (∀ W p v, Own w W p v first 0 bs → Calls Tryd.prog 24 #[.pointer (some ⟨p, 0, none⟩)] W fun e w' => ∃ A c, e = .returned (.agg (hcells st (k : Int) (.slice A r c)).toArray) ∧ w'.ownsRow 0 5 1 (.slice A r c) r (vb Xr) ∧ Keeps (fun _ => False) W w' ∧ ∀ g, (Value.slice A r c).ownBlock = some g → W.heap.size ≤ g) := fun W p v h => by
    have := mid_any W p v first 0 bs h.1
    unfold Told at this
    rw [hn, ← hk, ← hst, ← hrr, ← hXr, Nat.zero_add] at this
    exact this
  have HRES : Hid (∀ W A c, Rd W A r (vb Xr) → Calls Tryd.prog 30 #[.agg (hcells st (k : Int) (.slice A r c)).toArray] W fun e w' => ∃ q u, e = .returned (.tuple #[.pointer (some ⟨q, 0, none⟩), .nilIface]) ∧ HashAt w' q u st k Xr ∧ Keeps (fun _ => False) W w' ∧ ∀ i, Foot q u i → W.heap.size ≤ i) := fun W A c h =>
    Resume_ok W st k r c A Xr hXl (by omega) (by omega) h hXb
  have HT1 : Hid (∀ W, Keeps (fun _ => False) w W → Calls Tryd.prog 20 #[.slice (some ⟨W.heap.size, 0, none⟩) 1 1] (W.alloc (.cells #[.slice Ab n cb] 26)) fun e w' => e = .returned (.agg D1) ∧ Keeps (fun _ => False) W w') := fun W h => by
    rw [hD1]; exact sums_one W (hG.keep h (fun _ h => h.elim)) Ab n cb bs hn (hr.keep h (no_out _ _)) hb hc hm
  have HT2 : Hid (∀ W, Keeps (fun _ => False) w W → Calls Tryd.prog 20 #[.slice (some ⟨W.heap.size, 0, none⟩) 2 2] (W.alloc (.cells #[.slice Ab n cb, .slice Am nm cm] 26)) fun e w' => e = .returned (.agg D2) ∧ Keeps (fun _ => False) W w') := fun W h => by
    have hp := (parts_two (fun _ => False) W 26 Ab Am n cb nm cm bs ms (fun _ h => h.elim) hn (hr.keep h (no_out _ _)) (no_out _ _) hb hc hm hnm (hrm.keep h (no_out _ _)) (no_out _ _) hbm hcm hmm).plain
    have := sums_big _ (hG.keep (h.alloc (.cells #[.slice Ab n cb, .slice Am nm cm] 26)) (fun _ h => h.elim)) _ 2 [bs, ms] hp (by simp) (by simp; omega) (by intro x hx; simp at hx; rcases hx with rfl | rfl <;> omega)
    have e1 : [bs, ms].flatten = bs ++ ms := by simp
    rw [e1, ← hD2] at this
    exact this.mono fun e w' ⟨he, hk⟩ => ⟨he, ((Keeps.refl _ W).alloc _).trans hk (fun _ _ h => h)⟩
  have HT0 : Hid (∀ W, Keeps (fun _ => False) w W → Calls Tryd.prog 20 #[.slice none 0 0] W fun e w' => e = .returned (.agg D0) ∧ Keeps (fun _ => False) W w') := fun W h => by
    rw [hD0]
    exact sums_big W (hG.keep h (fun _ h => h.elim)) none 0 [] ⟨[], Rd.nil W none, fun i bs hi => by simp at hi⟩ (by simp) (by simp) (by intro x hx; cases hx)
  have HWK : Hid (∀ W, Keeps (fun _ => False) w W → Calls Tryd.prog 15 #[] W fun e w' => e = .returned (.bool true) ∧ Keeps (fun _ => False) W w') := fun W h => works_any W (hG.keep h (fun _ h => h.elim))
  have HNEW : Hid (Calls Tryd.prog 21 #[] w fun e w' => e = .returned (.pointer (some ⟨w.heap.size, 0, none⟩)) ∧ Own w w' w.heap.size (.slice none 0 0) first 0 []) := (new_any w hG).mono fun e w' ⟨he, hw⟩ => ⟨he, by rw [hw]; exact own_new w⟩
  have hcut := cut_l (P := Tryd.prog) Tryd.underlying26 (by kernel_rfl) Ab n cb (64 * k) ((64 * k : Nat) : Int) rfl (by omega)
  have HRC : Hid (Rd w (cutA Ab cb (64 * k)) (n - 64 * k) (vb Xr)) := Lib.hid (by
    have := hr.cutA (l := 64 * k) (c := cb) (by omega) hc
    rw [hXr]
    simpa [vb, List.map_drop] using this)
  have HXB := Lib.hid hXb
  have HKN : Hid (k = n / 64) := Lib.hid hk
  have hk64 : 64 * k ≤ n := by omega
  have HRST := Lib.hid hst
  obtain ⟨A1, hA1⟩ : ∃ A1, A1 = cutA Ab cb (64 * k) := ⟨_, rfl⟩
  rw [← hA1] at hcut HRC
  obtain ⟨K64, hK64⟩ : ∃ K64, K64 = 64 * k := ⟨_, rfl⟩
  rw [← hK64] at hcut HRC hk64
  have t1 : Int.tdiv (n : Int) 64 = (k : Int) := by rw [hk, Int.tdiv_eq_ediv_of_nonneg (by omega)]; omega
  have t2 : IntKind.i64.wrap (k : Int) = (k : Int) := by rw [IntKind.wrap_i64]; omega
  have t3 : IntKind.u64.wrap (k : Int) = (k : Int) := by rw [IntKind.wrap_u64]; omega
  have t4 : IntKind.i64.wrap ((k : Int) * 64) = (K64 : Int) := by rw [IntKind.wrap_i64]; omega
  have t5 : IntKind.u64.wrap (n : Int) = (n : Int) := by rw [IntKind.wrap_u64]; omega
  have T1 := Lib.hid t1
  have T2 := Lib.hid t2
  have T3 := Lib.hid t3
  have T4 := Lib.hid t4
  have T5 := Lib.hid t5
  have HCUT := Lib.hid hcut
  have Q0 := Lib.hid q0
  have Q1 := Lib.hid q1
  have Q2 := Lib.hid q2
  have Q3 := Lib.hid q3
  have HG := Lib.hid hG
  clear hcut q0 q1 q2 q3 t1 t2 t3 t4 t5 hG hr hb hrm hbm hn hnm hk hst hXr hrr hXl hXb hres hD0 hD1 hD2 hA1 hK64
  go_enter Tryd.func9, Tryd.ntmps9
  go_wp2_with fail
  refine HNEW.out.mono ?_
  rintro e w1 ⟨rfl, ho1⟩
  have HO1 := Lib.hid ho1
  clear ho1
  go_wp2_with fail
  refine (HW1.out _ _ _ HO1.out).mono ?_
  rintro e w2 ⟨rfl, v, ho2⟩
  obtain ⟨p, hp⟩ : ∃ p, p = w.heap.size := ⟨_, rfl⟩
  rw [← hp] at ho2 ⊢
  clear hp
  have HO2 := Lib.hid ho2
  clear ho2 HO1
  go_wp2_with fail
  refine (HMID.out _ _ _ HO2.out).mono ?_
  rintro e w3 ⟨A3, c3, rfl, ho3, hk3, hf3⟩
  have HR3 := Lib.hid (Rd.of_own ho3)
  have HO3 := Lib.hid (HO2.out.keep hk3)
  clear ho3 hk3 hf3 HO2
  obtain ⟨mcs, hmcs⟩ : ∃ mcs, mcs = hcells st (k : Int) (.slice A3 r c3) := ⟨_, rfl⟩
  have HMB0 : Hid (BlkAt ((w3.alloc (.cells (hcells (fun _ => 0) 0 (.slice none 0 0)).toArray 49)).setRow w3.heap.size mcs.toArray) w3.heap.size 49 mcs) := (Blk.new w3 49 _).setRow mcs
  have hmi : (Tryd.prog.info? 49).map (·.size) = some mcs.length := by rw [hmcs, show (hcells st (k : Int) (.slice A3 r c3)).length = 10 by simp [hcells, wl]]; kernel_rfl
  have HML := Lib.hid (show (hcells (fun _ => 0) 0 (.slice none 0 0)).length = mcs.length by rw [hmcs]; simp [hcells, wl])
  have hm1 : ∀ u ∈ mcs, u.oneCell' = true := by rw [hmcs]; exact hcells_one _ _ _ _ _
  rw [← hmcs]
  have HMI := Lib.hid hmi
  have HM1 := Lib.hid hm1
  have HMC := Lib.hid hmcs
  clear hmi hm1 hmcs
  go_wp2_with (first
    | ((with_reducible show wpList _ _ _ (⟨none, Op.store 49 _ _, _, _, _, _⟩ :: _) _ _); refine wpList_store_whole rfl 49 _ _ rfl mcs rfl rfl (Blk.new w3 49 (hcells (fun _ => 0) 0 (.slice none 0 0))) HML.out HMI.out HM1.out ?_)
    | ((with_reducible show wpList _ _ _ (⟨some _, Op.load 49 _, _, _, _, _⟩ :: _) _ _); refine wpList_load_whole rfl 49 _ rfl _ rfl HMB0.out Tryd.underlying49 rfl HMI.out ?_))
  have hk3n : Keeps (fun _ => False) w3 ((w3.alloc (.cells (hcells (fun _ => 0) 0 (.slice none 0 0)).toArray 49)).setRow w3.heap.size mcs.toArray) := ((Keeps.refl _ w3).alloc _).setRow (.inr (Nat.le_refl _)) _
  have hrd3 := rd_new HR3.out (.cells (hcells (fun _ => 0) 0 (.slice none 0 0)).toArray 49) mcs.toArray
  have hpq : Hid (∀ i, Foot p v i → i < w3.heap.size) := HO3.out.1.lt
  have hsz3 : Hid (w3.heap.size + 1 = ((w3.alloc (.cells (hcells (fun _ => 0) 0 (.slice none 0 0)).toArray 49)).setRow w3.heap.size mcs.toArray).heap.size) := Lib.hid (by simp)
  have HH := Lib.hid (HO3.out.keep hk3n)
  have HCALL := HRES.out _ A3 c3 hrd3
  rw [← HMC.out] at HCALL
  refine HCALL.mono ?_
  clear HCALL hrd3
  rintro e w4 ⟨q, u, rfl, hh4, hk4, hf4⟩
  have HX4 : Hid (Own w w4 q u st k Xr) := ⟨hh4, (HH.out.2.1).trans hk4 (fun _ _ h => h), fun i hi => Nat.le_trans HH.out.2.1.size (hf4 i hi)⟩
  have HH4 := Lib.hid (HH.out.keep hk4)
  have hqf : Hid (∀ i, Foot q u i → w3.heap.size < i) := fun i hi => by have := hf4 i hi; rw [← hsz3.out] at this; omega
  have HMB : Hid (BlkAt w4 w3.heap.size 49 (hcells st (k : Int) (.slice A3 r c3))) := by
    rw [← HMC.out]
    exact hk4.blk HMB0.out (fun h => h)
  have HRX : Hid (Rd w4 A3 r (vb Xr)) := (rd_new HR3.out (.cells (hcells (fun _ => 0) 0 (.slice none 0 0)).toArray 49) mcs.toArray).keep hk4 (no_out _ _)
  have HEQB : Hid (∀ W, Keeps (fun _ => False) w4 W → Calls Tryd.prog 31 #[.slice A3 r c3, .slice A1 (n - K64) (cb - K64)] W fun e w' => e = .returned (.bool true) ∧ W = w') := fun W h => by
    have := Equal_any W A3 A1 r (n - K64) c3 (cb - K64) Xr Xr (HRX.out.keep h (no_out _ _)) ((HRC.out.keep (HX4.out.2.1.trans h (fun _ _ h => h)) (no_out _ _))) HXB.out HXB.out
    rwa [decide_eq_true rfl] at this
  obtain ⟨M, hM⟩ : ∃ M, M = w3.heap.size := ⟨_, rfl⟩
  rw [← hM] at HMB hpq hqf ⊢
  clear hM hh4 hk4 hf4 HR3 HO3 HMB0 HH hsz3 hk3n HMC HML HMI HM1
  have HSX0 : Hid (∀ W, Own w W q u st k Xr → Calls Tryd.prog 23 #[.pointer (some ⟨q, 0, none⟩)] W fun e w' => e = .returned (.agg D1) ∧ Keeps (fun _ => False) W w') := fun W h => HSX.out W q u h
  have HSH : Hid (∀ W, Own w W p v first 0 bs → Calls Tryd.prog 23 #[.pointer (some ⟨p, 0, none⟩)] W fun e w' => e = .returned (.agg D1) ∧ Keeps (fun _ => False) W w') := fun W h => HSH0.out W p v h
  have HLX : Hid (∀ W, Own w W q u st k Xr → Calls Tryd.prog 26 #[.pointer (some ⟨q, 0, none⟩)] W fun e w' => e = .returned (.int .u64 (n : Int)) ∧ ∃ k, w' = W.drewN k) := fun W h => HLX0.out W q u h
  have hqq1 := Q1.out
  have t1 := T1.out
  have t2 := T2.out
  have t3 := T3.out
  have t4 := T4.out
  have t5 := T5.out
  have hcut := HCUT.out
  go_wp2_with fail
  refine wp_region_held_drew (S := Keeps (fun _ => False) w4) (by kernel_rfl) (Keeps.refl _ _).drew (fun hHeld => ?_)
  refine wpAnyH_take (i := 0) (oi := ⟨some 22, _, _, _, _, _⟩) (v := ?_) rfl (by kernel_rfl) (by kernel_rfl) (by kernel_rfl) (fun _ _ _ h => h) (Or.inl ⟨by rfl, ?_⟩) hHeld ?_
  rotate_left
  · intro w' hSw
    go_simp
    first | done | rfl
  try simp only [Act.put, List.setIfInBounds_toArray, List.set_cons_zero, List.set_cons_succ]
  refine wpAnyH_take (i := 1) (oi := ⟨some 23, _, _, _, _, _⟩) (v := ?_) rfl (by kernel_rfl) (by kernel_rfl) (by kernel_rfl) (fun _ _ _ h => h) (Or.inl ⟨by rfl, ?_⟩) hHeld ?_
  rotate_left
  · intro w' hSw
    go_simp
    first | done | rfl
  try simp only [Act.put, List.setIfInBounds_toArray, List.set_cons_zero, List.set_cons_succ]
  refine wpAnyH_take (i := 2) (oi := ⟨some 24, _, _, _, _, _⟩) (v := ?_) rfl (by kernel_rfl) (by kernel_rfl) (by kernel_rfl) (fun _ _ _ h => h) (Or.inl ⟨by rfl, ?_⟩) hHeld ?_
  rotate_left
  · intro w' hSw
    go_simp
    first | done | rfl
  try simp only [Act.put, List.setIfInBounds_toArray, List.set_cons_zero, List.set_cons_succ]
  refine wpAnyH_take (i := 3) (oi := ⟨some 25, _, _, _, _, _⟩) (v := ?_) rfl (by kernel_rfl) (by kernel_rfl) (by kernel_rfl) (fun _ _ _ h => h) (Or.inl ⟨by rfl, ?_⟩) hHeld ?_
  rotate_left
  · intro w' hSw
    go_simp
    first | done | rfl
  try simp only [Act.put, List.setIfInBounds_toArray, List.set_cons_zero, List.set_cons_succ]
  refine wpAnyH_take (i := 4) (oi := ⟨some 26, _, _, _, _, _⟩) (v := ?_) rfl (by kernel_rfl) (by kernel_rfl) (by kernel_rfl) (fun _ _ _ h => h) (Or.inl ⟨by rfl, ?_⟩) hHeld ?_
  rotate_left
  · intro w' hSw
    go_simp
    first | done | rfl
  try simp only [Act.put, List.setIfInBounds_toArray, List.set_cons_zero, List.set_cons_succ]
  refine wpAnyH_take (i := 5) (oi := ⟨some 27, _, _, _, _, _⟩) (v := ?_) rfl (by kernel_rfl) (by kernel_rfl) (by kernel_rfl) (fun _ _ _ h => h) (Or.inl ⟨by rfl, ?_⟩) hHeld ?_
  rotate_left
  · intro w' hSw
    go_simp
    first | done | rfl
  try simp only [Act.put, List.setIfInBounds_toArray, List.set_cons_zero, List.set_cons_succ]
  refine wpAnyH_take (i := 6) (oi := ⟨some 28, _, _, _, _, _⟩) (v := ?_) rfl (by kernel_rfl) (by kernel_rfl) (by kernel_rfl) (fun _ _ _ h => h) (Or.inl ⟨by rfl, ?_⟩) hHeld ?_
  rotate_left
  · intro w' hSw
    go_simp
    first | done | rfl
  try simp only [Act.put, List.setIfInBounds_toArray, List.set_cons_zero, List.set_cons_succ]
  refine wpAnyH_take (i := 7) (oi := ⟨some 29, _, _, _, _, _⟩) (v := ?_) rfl (by kernel_rfl) (by kernel_rfl) (by kernel_rfl) (fun _ _ _ h => h) (Or.inl ⟨by rfl, ?_⟩) hHeld ?_
  rotate_left
  · intro w' hSw
    go_simp
    first | done | rfl
  try simp only [Act.put, List.setIfInBounds_toArray, List.set_cons_zero, List.set_cons_succ]
  refine wpAnyH_take (i := 9) (oi := ⟨some 31, _, _, _, _, _⟩) (v := ?_) rfl (by kernel_rfl) (by kernel_rfl) (by kernel_rfl) (fun _ _ _ h => h) (Or.inl ⟨by rfl, ?_⟩) hHeld ?_
  rotate_left
  · intro w' hSw
    go_simp
    first | done | rfl
  try simp only [Act.put, List.setIfInBounds_toArray, List.set_cons_zero, List.set_cons_succ]
  refine wpAnyH_ready (rs := [8]) (by kernel_rfl) (by simp) ?_
  refine AllReadyH.cons (o := ⟨some 30, _, _, _, _, _⟩) rfl (fun K hK => ?_) AllReadyH.nil
  go_simp
  refine (HSX0.out _ (HX4.out.keep hHeld)).mono ?_
  rintro e wa ⟨rfl, hka⟩
  have hqwa := hHeld.trans hka (fun _ _ h => h)
  clear hka
  show K _ wa
  refine hK.out _ _ hqwa (fun hHeld => ?_)
  clear hK K
  try simp only [Act.put, List.setIfInBounds_toArray, List.set_cons_zero, List.set_cons_succ]
  refine wpAnyH_ready (rs := [10]) (by kernel_rfl) (by simp) ?_
  refine AllReadyH.cons (o := ⟨some 32, _, _, _, _, _⟩) rfl (fun K hK => ?_) AllReadyH.nil
  go_simp
  refine (HSH.out _ (HH4.out.keep hHeld)).mono ?_
  rintro e wb ⟨rfl, hkb⟩
  have hqwb := hHeld.trans hkb (fun _ _ h => h)
  clear hkb
  show K _ wb
  refine hK.out _ _ hqwb (fun hHeld => ?_)
  clear hK K
  try simp only [Act.put, List.setIfInBounds_toArray, List.set_cons_zero, List.set_cons_succ]
  refine wpAnyH_take (i := 11) (oi := ⟨some 33, _, _, _, _, _⟩) (v := ?_) rfl (by kernel_rfl) (by kernel_rfl) (by kernel_rfl) (fun _ _ _ h => h) (Or.inl ⟨by rfl, ?_⟩) hHeld ?_
  rotate_left
  · intro w' hSw
    go_simp
    first | done | rfl
  try simp only [Act.put, List.setIfInBounds_toArray, List.set_cons_zero, List.set_cons_succ]
  refine wpAnyH_take (i := 12) (oi := ⟨some 34, _, _, _, _, _⟩) (v := ?_) rfl (by kernel_rfl) (by kernel_rfl) (by kernel_rfl) (fun _ _ _ h => h) (Or.inl ⟨by rfl, ?_⟩) hHeld ?_
  rotate_left
  · intro w' hSw
    go_simp
    first | done | rfl
  try simp only [Act.put, List.setIfInBounds_toArray, List.set_cons_zero, List.set_cons_succ]
  refine wpAnyH_take (i := 13) (oi := ⟨some 35, _, _, _, _, _⟩) (v := ?_) rfl (by kernel_rfl) (by kernel_rfl) (by kernel_rfl) (fun _ _ _ h => h) (Or.inl ⟨by rfl, ?_⟩) hHeld ?_
  rotate_left
  · intro w' hSw
    go_simp
    first | done | rfl
  try simp only [Act.put, List.setIfInBounds_toArray, List.set_cons_zero, List.set_cons_succ]
  refine wpAnyH_take (i := 14) (oi := ⟨some 36, _, _, _, _, _⟩) (v := ?_) rfl (by kernel_rfl) (by kernel_rfl) (by kernel_rfl) (fun _ _ _ h => h) (Or.inl ⟨by rfl, ?_⟩) hHeld ?_
  rotate_left
  · intro w' hSw
    go_simp
    first | done | rfl
  try simp only [Act.put, List.setIfInBounds_toArray, List.set_cons_zero, List.set_cons_succ]
  refine wpAnyH_take (i := 16) (oi := ⟨some 38, _, _, _, _, _⟩) (v := ?_) rfl (by kernel_rfl) (by kernel_rfl) (by kernel_rfl) (fun _ _ _ h => h) (Or.inl ⟨by rfl, ?_⟩) hHeld ?_
  rotate_left
  · intro w' hSw
    go_simp
    first | done | rfl
  try simp only [Act.put, List.setIfInBounds_toArray, List.set_cons_zero, List.set_cons_succ]
  refine wpAnyH_take (i := 17) (oi := ⟨some 39, _, _, _, _, _⟩) (v := ?_) rfl (by kernel_rfl) (by kernel_rfl) (by kernel_rfl) (fun _ _ _ h => h) (Or.inl ⟨by rfl, ?_⟩) hHeld ?_
  rotate_left
  · intro w' hSw
    go_simp
    first | done | rfl
  try simp only [Act.put, List.setIfInBounds_toArray, List.set_cons_zero, List.set_cons_succ]
  refine wpAnyH_take (i := 18) (oi := ⟨some 40, _, _, _, _, _⟩) (v := ?_) rfl (by kernel_rfl) (by kernel_rfl) (by kernel_rfl) (fun _ _ _ h => h) (Or.inl ⟨by rfl, ?_⟩) hHeld ?_
  rotate_left
  · intro w' hSw
    go_simp
    first | done | rfl
  try simp only [Act.put, List.setIfInBounds_toArray, List.set_cons_zero, List.set_cons_succ]
  refine wpAnyH_ready (rs := [15]) (by kernel_rfl) (by simp) ?_
  refine AllReadyH.cons (o := ⟨some 37, _, _, _, _, _⟩) rfl (fun K hK => ?_) AllReadyH.nil
  go_simp
  refine (HLX.out _ (HX4.out.keep hHeld)).mono ?_
  rintro e wl ⟨rfl, kl, rfl⟩
  show K _ (wb.drewN kl)
  refine hK.out _ _ (hHeld.drewN kl) (fun hHeld => ?_)
  clear hK K
  try simp only [Act.put, List.setIfInBounds_toArray, List.set_cons_zero, List.set_cons_succ]
  refine wpAnyH_take (i := 19) (oi := ⟨some 41, _, _, _, _, _⟩) (v := ?_) rfl (by kernel_rfl) (by kernel_rfl) (by kernel_rfl) (fun _ _ _ h => h) (Or.inl ⟨by rfl, ?_⟩) hHeld ?_
  rotate_left
  · intro w' hSw
    go_simp
    first | done | rfl
  try simp only [Act.put, List.setIfInBounds_toArray, List.set_cons_zero, List.set_cons_succ]
  refine wpAnyH_take (i := 20) (oi := ⟨some 42, _, _, _, _, _⟩) (v := ?_) rfl (by kernel_rfl) (by kernel_rfl) (by kernel_rfl) (fun _ _ _ h => h) (Or.inl ⟨by rfl, ?_⟩) hHeld ?_
  rotate_left
  · intro w' hSw
    go_simp
    first | done | rfl
  try simp only [Act.put, List.setIfInBounds_toArray, List.set_cons_zero, List.set_cons_succ]
  refine wpAnyH_take (i := 21) (oi := ⟨some 43, _, _, _, _, _⟩) (v := ?_) rfl (by kernel_rfl) (by kernel_rfl) (by kernel_rfl) (fun _ _ _ h => h) (Or.inl ⟨by rfl, ?_⟩) hHeld ?_
  rotate_left
  · intro w' hSw
    go_simp
    first | done | rfl
  try simp only [Act.put, List.setIfInBounds_toArray, List.set_cons_zero, List.set_cons_succ]
  refine wpAnyH_take (i := 22) (oi := ⟨some 44, _, _, _, _, _⟩) (v := ?_) rfl (by kernel_rfl) (by kernel_rfl) (by kernel_rfl) (fun _ _ _ h => h) (Or.inl ⟨by rfl, ?_⟩) hHeld ?_
  rotate_left
  · intro w' hSw
    go_simp
    first | done | rfl
  try simp only [Act.put, List.setIfInBounds_toArray, List.set_cons_zero, List.set_cons_succ]
  refine wpAnyH_take (i := 23) (oi := ⟨some 45, _, _, _, _, _⟩) (v := ?_) rfl (by kernel_rfl) (by kernel_rfl) (by kernel_rfl) (fun _ _ _ h => h) (Or.inl ⟨by rfl, ?_⟩) hHeld ?_
  rotate_left
  · intro w' hSw
    have k8 := ((HMB.out.blkk hSw).cell 8)
    rw [hcells_8] at k8
    go_simp
    first | done | rfl
  try simp only [Act.put, List.setIfInBounds_toArray, List.set_cons_zero, List.set_cons_succ]
  refine wpAnyH_take (i := 24) (oi := ⟨some 46, _, _, _, _, _⟩) (v := ?_) rfl (by kernel_rfl) (by kernel_rfl) (by kernel_rfl) (fun _ _ _ h => h) (Or.inl ⟨by rfl, ?_⟩) hHeld ?_
  rotate_left
  · intro w' hSw
    go_simp
    first | done | rfl
  try simp only [Act.put, List.setIfInBounds_toArray, List.set_cons_zero, List.set_cons_succ]
  refine wpAnyH_take (i := 25) (oi := ⟨some 47, _, _, _, _, _⟩) (v := ?_) rfl (by kernel_rfl) (by kernel_rfl) (by kernel_rfl) (fun _ _ _ h => h) (Or.inl ⟨by rfl, ?_⟩) hHeld ?_
  rotate_left
  · intro w' hSw
    go_simp
    first | done | rfl
  try simp only [Act.put, List.setIfInBounds_toArray, List.set_cons_zero, List.set_cons_succ]
  refine wpAnyH_take (i := 26) (oi := ⟨some 48, _, _, _, _, _⟩) (v := ?_) rfl (by kernel_rfl) (by kernel_rfl) (by kernel_rfl) (fun _ _ _ h => h) (Or.inl ⟨by rfl, ?_⟩) hHeld ?_
  rotate_left
  · intro w' hSw
    go_simp
    first | done | rfl
  try simp only [Act.put, List.setIfInBounds_toArray, List.set_cons_zero, List.set_cons_succ]
  refine wpAnyH_take (i := 27) (oi := ⟨some 49, _, _, _, _, _⟩) (v := ?_) rfl (by kernel_rfl) (by kernel_rfl) (by kernel_rfl) (fun _ _ _ h => h) (Or.inl ⟨by rfl, ?_⟩) hHeld ?_
  rotate_left
  · intro w' hSw
    go_simp
    first | done | rfl
  try simp only [Act.put, List.setIfInBounds_toArray, List.set_cons_zero, List.set_cons_succ]
  refine wpAnyH_take (i := 28) (oi := ⟨some 50, _, _, _, _, _⟩) (v := ?_) rfl (by kernel_rfl) (by kernel_rfl) (by kernel_rfl) (fun _ _ _ h => h) (Or.inl ⟨by rfl, ?_⟩) hHeld ?_
  rotate_left
  · intro w' hSw
    go_simp
    first | done | rfl
  try simp only [Act.put, List.setIfInBounds_toArray, List.set_cons_zero, List.set_cons_succ]
  refine wpAnyH_take (i := 29) (oi := ⟨some 51, _, _, _, _, _⟩) (v := ?_) rfl (by kernel_rfl) (by kernel_rfl) (by kernel_rfl) (fun _ _ _ h => h) (Or.inl ⟨by rfl, ?_⟩) hHeld ?_
  rotate_left
  · intro w' hSw
    go_simp
    first | done | rfl
  try simp only [Act.put, List.setIfInBounds_toArray, List.set_cons_zero, List.set_cons_succ]
  refine wpAnyH_take (i := 30) (oi := ⟨some 52, _, _, _, _, _⟩) (v := ?_) rfl (by kernel_rfl) (by kernel_rfl) (by kernel_rfl) (fun _ _ _ h => h) (Or.inl ⟨by rfl, ?_⟩) hHeld ?_
  rotate_left
  · intro w' hSw
    go_simp
    first | done | rfl
  try simp only [Act.put, List.setIfInBounds_toArray, List.set_cons_zero, List.set_cons_succ]
  refine wpAnyH_take (i := 31) (oi := ⟨some 53, _, _, _, _, _⟩) (v := ?_) rfl (by kernel_rfl) (by kernel_rfl) (by kernel_rfl) (fun _ _ _ h => h) (Or.inl ⟨by rfl, ?_⟩) hHeld ?_
  rotate_left
  · intro w' hSw
    go_simp
    first | done | rfl
  try simp only [Act.put, List.setIfInBounds_toArray, List.set_cons_zero, List.set_cons_succ]
  refine wpAnyH_take (i := 32) (oi := ⟨some 54, _, _, _, _, _⟩) (v := ?_) rfl (by kernel_rfl) (by kernel_rfl) (by kernel_rfl) (fun _ _ _ h => h) (Or.inl ⟨by rfl, ?_⟩) hHeld ?_
  rotate_left
  · intro w' hSw
    have k9 := ((HMB.out.blkk hSw).cell 9)
    rw [hcells_9] at k9
    go_simp
    first | done | rfl
  try simp only [Act.put, List.setIfInBounds_toArray, List.set_cons_zero, List.set_cons_succ]
  refine wpAnyH_take (i := 33) (oi := ⟨some 55, _, _, _, _, _⟩) (v := ?_) rfl (by kernel_rfl) (by kernel_rfl) (by kernel_rfl) (fun _ _ _ h => h) (Or.inl ⟨by rfl, ?_⟩) hHeld ?_
  rotate_left
  · intro w' hSw
    go_simp
    first | done | rfl
  try simp only [Act.put, List.setIfInBounds_toArray, List.set_cons_zero, List.set_cons_succ]
  refine wpAnyH_take (i := 34) (oi := ⟨some 56, _, _, _, _, _⟩) (v := ?_) rfl (by kernel_rfl) (by kernel_rfl) (by kernel_rfl) (fun _ _ _ h => h) (Or.inl ⟨by rfl, ?_⟩) hHeld ?_
  rotate_left
  · intro w' hSw
    go_simp
    first | done | rfl
  try simp only [Act.put, List.setIfInBounds_toArray, List.set_cons_zero, List.set_cons_succ]
  refine wpAnyH_take (i := 35) (oi := ⟨some 57, _, _, _, _, _⟩) (v := ?_) rfl (by kernel_rfl) (by kernel_rfl) (by kernel_rfl) (fun _ _ _ h => h) (Or.inl ⟨by rfl, ?_⟩) hHeld ?_
  rotate_left
  · intro w' hSw
    go_simp
    first | done | rfl
  try simp only [Act.put, List.setIfInBounds_toArray, List.set_cons_zero, List.set_cons_succ]
  refine wpAnyH_take (i := 36) (oi := ⟨some 58, _, _, _, _, _⟩) (v := ?_) rfl (by kernel_rfl) (by kernel_rfl) (by kernel_rfl) (fun _ _ _ h => h) (Or.inl ⟨by rfl, ?_⟩) hHeld ?_
  rotate_left
  · intro w' hSw
    go_simp
    first | done | rfl
  try simp only [Act.put, List.setIfInBounds_toArray, List.set_cons_zero, List.set_cons_succ]
  refine wpAnyH_take (i := 37) (oi := ⟨some 59, _, _, _, _, _⟩) (v := ?_) rfl (by kernel_rfl) (by kernel_rfl) (by kernel_rfl) (fun _ _ _ h => h) (Or.inl ⟨by rfl, ?_⟩) hHeld ?_
  rotate_left
  · intro w' hSw
    go_simp
    first | done | rfl
  try simp only [Act.put, List.setIfInBounds_toArray, List.set_cons_zero, List.set_cons_succ]
  refine wpAnyH_take (i := 38) (oi := ⟨some 60, _, _, _, _, _⟩) (v := ?_) rfl (by kernel_rfl) (by kernel_rfl) (by kernel_rfl) (fun _ _ _ h => h) (Or.inl ⟨by rfl, ?_⟩) hHeld ?_
  rotate_left
  · intro w' hSw
    go_simp
    first | done | rfl
  try simp only [Act.put, List.setIfInBounds_toArray, List.set_cons_zero, List.set_cons_succ]
  refine wpAnyH_ready (rs := [39]) (by kernel_rfl) (by simp) ?_
  refine AllReadyH.cons (o := ⟨some 61, _, _, _, _, _⟩) rfl (fun K hK => ?_) AllReadyH.nil
  go_simp
  refine (HEQB.out _ hHeld).mono ?_
  rintro e wc ⟨rfl, rfl⟩
  show K _ _
  refine hK.out _ _ hHeld (fun hHeld => ?_)
  clear hK K
  try simp only [Act.put, List.setIfInBounds_toArray, List.set_cons_zero, List.set_cons_succ]
  refine wpAnyH_take (i := 40) (oi := ⟨some 62, _, _, _, _, _⟩) (v := ?_) rfl (by kernel_rfl) (by kernel_rfl) (by kernel_rfl) (fun _ _ _ h => h) (Or.inl ⟨by rfl, ?_⟩) hHeld ?_
  rotate_left
  · intro w' hSw
    go_simp
    first | done | rfl
  try simp only [Act.put, List.setIfInBounds_toArray, List.set_cons_zero, List.set_cons_succ]
  refine wpAnyH_take (i := 41) (oi := ⟨some 63, _, _, _, _, _⟩) (v := ?_) rfl (by kernel_rfl) (by kernel_rfl) (by kernel_rfl) (fun _ _ _ h => h) (Or.inl ⟨by rfl, ?_⟩) hHeld ?_
  rotate_left
  · intro w' hSw
    go_simp
    first | done | rfl
  try simp only [Act.put, List.setIfInBounds_toArray, List.set_cons_zero, List.set_cons_succ]
  refine wpAnyH_done (by kernel_rfl) ?_ _
  clear hqq1 t1 t2 t3 t4 t5 hcut
  obtain ⟨w6, hw6⟩ : ∃ w6, w6 = wb.drewN kl := ⟨_, rfl⟩
  rw [← hw6] at hHeld ⊢
  have HX6 := Lib.hid (HX4.out.keep hHeld)
  have HH6 := Lib.hid (HH4.out.keep hHeld)
  clear hw6 hHeld hqwa hqwb HMB HRX HEQB HSX0 HSH HLX HX4 HH4
  go_wp2_with fail
  refine (HW2.out _ _ _ HX6.out).mono ?_
  rintro e w7 ⟨rfl, u7, hx7, hk7, hf7⟩
  have HX7 := Lib.hid hx7
  have HH7 := Lib.hid (HH6.out.apart hk7 (fun i hi hq => by have := hpq.out i hi; have := hqf.out i hq; omega) HX6.out.2.2)
  have hqf7 : Hid (∀ i, Foot q u7 i → ¬ i = p) := fun i hi e => by
    have h1 := HH6.out.1.lt p (.inl rfl)
    rcases foot_later hf7 hi with h | h
    · have := hqf.out i h
      have := hpq.out p (.inl rfl)
      omega
    · omega
  clear hx7 hk7 hf7 HX6 HH6 hqf hpq
  have hqq2 := Q2.out
  have hqq1 := Q1.out
  go_wp2_with fail
  refine (HSX1.out _ _ _ HX7.out).mono ?_
  rintro e w8 ⟨rfl, hk8⟩
  have HX8 := Lib.hid (HX7.out.keep hk8)
  have HH8 := Lib.hid (HH7.out.keep hk8)
  clear hk8 HX7 HH7
  go_wp2_with fail
  refine (HT2.out _ HX8.out.2.1).mono ?_
  rintro e w9 ⟨rfl, hk9⟩
  have HX9 := Lib.hid (HX8.out.keep hk9)
  have HH9 := Lib.hid (HH8.out.keep hk9)
  clear hk9 HX8 HH8
  go_wp2_with fail
  refine (HSH0.out _ _ _ HH9.out).mono ?_
  rintro e wA ⟨rfl, hkA⟩
  have HXA := Lib.hid (HX9.out.keep hkA)
  have HHA := Lib.hid (HH9.out.keep hkA)
  clear hkA HX9 HH9
  go_wp2_with fail
  refine (HT1.out _ HXA.out.2.1).mono ?_
  rintro e wB ⟨rfl, hkB⟩
  have HXB' := Lib.hid (HXA.out.keep hkB)
  have HHB := Lib.hid (HHA.out.keep hkB)
  clear hkB HXA HHA
  go_wp2_with fail
  refine (Reset_own w HG wB p v bs HHB.out).mono ?_
  rintro e wC ⟨rfl, hhC, hkC⟩
  have HXC := Lib.hid (HXB'.out.apart hkC hqf7.out (fun i hi => by have e' : i = p := hi; rw [e']; exact HHB.out.2.2 p (.inl rfl)))
  have HHC := Lib.hid hhC
  clear hhC hkC HXB' HHB
  have hqq0 := Q0.out
  have hqq3 := Q3.out
  go_wp2_with fail
  refine (HL0.out _ _ _ HHC.out).mono ?_
  rintro e wD ⟨rfl, kd, rfl⟩
  have HXD := Lib.hid (HXC.out.keep ((Keeps.refl (fun _ => False) wC).drewN kd))
  have HHD := Lib.hid (HHC.out.keep ((Keeps.refl (fun _ => False) wC).drewN kd))
  obtain ⟨wE, hwE⟩ : ∃ wE, wE = wC.drewN kd := ⟨_, rfl⟩
  rw [← hwE] at HXD HHD ⊢
  clear hwE HXC HHC
  go_wp2_with fail
  refine (HS0.out _ _ _ HHD.out).mono ?_
  rintro e wF ⟨rfl, hkF⟩
  have HXF := Lib.hid (HXD.out.keep hkF)
  clear hkF HXD HHD
  go_wp2_with fail
  refine (HT0.out _ HXF.out.2.1).mono ?_
  rintro e wG ⟨rfl, hkG⟩
  have HXG := Lib.hid (HXF.out.keep hkG)
  clear hkG HXF
  go_wp2_with fail
  refine (HSX1.out _ _ _ HXG.out).mono ?_
  rintro e wH ⟨rfl, hkH⟩
  have HXH := Lib.hid (HXG.out.keep hkH)
  clear hkH HXG
  go_wp2_with fail
  refine (HT2.out _ HXH.out.2.1).mono ?_
  rintro e wI ⟨rfl, hkI⟩
  have HXI := Lib.hid (HXH.out.keep hkI)
  clear hkI HXH
  go_wp2_with fail
  refine (HWK.out _ HXI.out.2.1).mono ?_
  rintro e wJ ⟨rfl, hkJ⟩
  have HXJ := Lib.hid (HXI.out.keep hkJ)
  clear hkJ HXI
  go_wp2
  go_ret
  exact ⟨rfl, HXJ.out.2.1⟩
end Go.Proofs.YtgblndddcbfdiaaDoor
