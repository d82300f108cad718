/-
  WALKS: the method Sum.
-/
import Derived.Test.YtnlnbgjpbnjjfaaDoorWriteW
namespace Go.Aff
open Go Go.RowKit
theorem run_index_row {P : Program} (w : World) (t e : TypeId) (n : Nat) (cs : Array Value) (k : IntKind) (i : Nat) (v : Value) (d : TypeDesc) (h : P.underlying t = some (.array n e)) (hd : P.underlying e = some d) (ha : (match d with | .struct _ | .array _ _ => false | _ => true) = true)
    (hs : (P.info? e).map (·.size) = some 1) (hi : i < n) (hv : cs[i]? = some v) : (Instr.index t (.agg cs) (.int k i)).run P w = .ok v w := by
  obtain ⟨inf, hinf, hsz⟩ := Option.map_eq_some_iff.1 hs
  have hi0 : (0 : Int) ≤ i ∧ (i : Int) < n := by omega
  have hsz' : (sizeOf e).run P w = .ok 1 w := by simp [sizeOf, typeInfo, hinf, hsz]
  have hagg : (isAgg e).run P w = .ok false w := by cases d <;> simp [isAgg, run_underlying hd] at ha ⊢
  simp [Instr.index, asIntOf, run_underlying h, hi0, hsz', part, hagg, hv]
  intro h; omega
end Go.Aff
namespace Go.Sha
open Go Go.Aff
/-- Byte j of a digest. -/
def dg (T : Nat → Int) (j : Nat) : Int := T (j / 4) / 2 ^ (24 - 8 * (j % 4)) % 256
def digB (T : Nat → Int) : List Int := (List.range 32).map (dg T)
/-- The digest, the first n bytes of it made. -/
def digL (T : Nat → Int) (n : Nat) : List Value := (List.range 32).map fun j => Value.int .u8 (if j < n then dg T j else 0)
theorem digL_zero (T : Nat → Int) : digL T 0 = List.replicate 32 (Value.int .u8 0) := by simp [digL, List.range_succ]
theorem digL_all (T : Nat → Int) : digL T 32 = vb (digB T) := by
  unfold digL vb digB
  rw [List.map_map]
  apply List.map_congr_left
  intro j hj
  rw [List.mem_range] at hj
  simp [hj]
theorem digL_set (T : Nat → Int) (n : Nat) : (digL T n).set n (.int .u8 (dg T n)) = digL T (n + 1) := by
  apply List.ext_getElem?
  intro j
  simp only [digL, List.getElem?_set, List.length_map, List.length_range, List.getElem?_map]
  by_cases hj : j < 32
  · by_cases h : n = j
    · subst h; simp [hj]
    · simp only [h, if_false]
      have : (j < n + 1) = (j < n) := by apply propext; omega
      simp [hj, this]
  · by_cases h : n = j
    · subst h; simp [hj]
    · simp [hj, h]
/-- The digest of X, behind state S and nb blocks. -/
def sumF (S : Nat → Int) (nb : Nat) (X : List Int) : List Int :=
  digB (stN S (X ++ padF (64 * nb + X.length)) ((X.length + padLen (64 * nb + X.length)) / 64))
theorem sumF_length (S : Nat → Int) (nb : Nat) (X : List Int) : (sumF S nb X).length = 32 := by simp [sumF, digB]
theorem dg_bytes (T : Nat → Int) : IsBytes (digB T) := by
  intro x hx
  obtain ⟨j, _, rfl⟩ := List.mem_map.1 hx
  unfold dg; omega
end Go.Sha
namespace Go.Proofs.YtnlnbgjpbnjjfaaDoor
open Go Go.RowKit Go.Sha Go.Aff

/-- While the digest (block M) is laid out; N: the result's block. -/
def SumRel (w : World) (N M : Nat) (T : Nat → Int) (n : Nat) (wr : World) : Prop :=
  Blk wr M 41 (digL T n) ∧ Blk wr N 41 (List.replicate 32 (Value.int .u8 0)) ∧ Keeps (fun _ => False) w wr ∧ w.heap.size ≤ N ∧ w.heap.size ≤ M ∧ N ≠ M

set_option maxHeartbeats 4000000 in
set_option maxRecDepth 100000 in
theorem sum_any (w : World) (hG : Glob w) (p : Nat) (v : Value) (S : Nat → Int) (nb : Nat) (X : List Int) (h : HashAt w p v S nb X) (hbig : 64 * nb + X.length < 2305843009213693952) :
    Calls Tryd.prog 47 #[.pointer (some ⟨p, 0, none⟩)] w fun e w' => e = .returned (.agg (vb (sumF S nb X)).toArray) ∧ Keeps (fun _ => False) w w' := by
  obtain ⟨A0, c0, rfl⟩ := own_shape h.2.1
  have hn2 := hG.lt
  have HG := Lib.hid hG
  have HV := Lib.hid h
  clear hG h
  obtain ⟨PL, hPL⟩ : ∃ PL, PL = padLen (64 * nb + X.length) := ⟨_, rfl⟩
  obtain ⟨PF, hPF⟩ : ∃ PF, PF = padF (64 * nb + X.length) := ⟨_, rfl⟩
  have HPL := Lib.hid hPL
  have HPF := Lib.hid hPF
  have hPLb : PL ≤ 72 := by rw [hPL]; exact (padLen_ge _).2
  have HPFL : Hid (PF.length = PL) := by rw [hPF, hPL]; exact padK_length _ 8 (by omega)
  clear hPL hPF
  have HCO : Hid (∀ W, Keeps (fun _ => False) w W → Calls Tryd.prog 52 #[.pointer (some ⟨p, 0, none⟩)] W (Copied W S nb X)) :=
    fun W hk => copy_any W p _ S nb X (HV.out.keep hk (fun _ _ h => h))
  have HLE : Hid (∀ W, Keeps (fun _ => False) w W → Calls Tryd.prog 58 #[.pointer (some ⟨p, 0, none⟩)] W fun e w' => e = .returned (.int .u64 ((64 * nb + X.length : Nat) : Int)) ∧ ∃ k, w' = W.drewN k) := by
    intro W hk
    have hb := (HV.out.keep hk (fun _ _ h => h)).1
    refine (len_any W p _ _ A0 _ c0 hb (by omega) (by omega) (by omega)).mono fun e w' hh => ⟨?_, hh.2⟩
    rw [hh.1]
    congr 3
    omega
  have HPA : Hid (∀ W, Calls Tryd.prog 57 #[.int .u64 ((64 * nb + X.length : Nat) : Int)] W fun e w' => e = .returned (.slice (some ⟨W.heap.size, 0, none⟩) PL PL) ∧ Blk w' W.heap.size 5 (vb PF) ∧ Keeps (fun _ => False) W w') := by
    intro W
    have := pad_any W (64 * nb + X.length) hbig
    rw [← HPL.out, ← HPF.out] at this
    exact this
  have HWR : Hid (∀ (wb w1 : World) (n2 : Nat) (w3 : World), Glob wb → ∀ (q : Nat) (u : Value), Keeps (fun _ => False) wb w1 → (∀ i, Foot q u i → wb.heap.size ≤ i) → HashAt w1 q u S nb X → Blk w3 (w1.drewN n2).heap.size 5 (vb PF) → Keeps (fun _ => False) (w1.drewN n2) w3 →
      Calls Tryd.prog 46 #[.pointer (some ⟨q, 0, none⟩), .slice (some ⟨w1.heap.size, 0, none⟩) PL PL] w3 fun e w4 => e = .returned (.tuple #[]) ∧
        (∃ v', Blk w4 q 99 (hcells (stN S (X ++ PF) ((X.length + PL) / 64)) ((nb + (X.length + PL) / 64 : Nat) : Int) v')) ∧ Keeps (fun _ => False) wb w4) := by
    intro wb w1 n2 w3 hg q u hk1 hf1 hh1 hb3 hk3
    have hh2 : HashAt (w1.drewN n2) q u S nb X := hh1
    have hh3 := hh2.keep hk3 (fun _ _ h => h)
    have hb2 := hg.lt
    have hk13 : Keeps (fun _ => False) wb w3 := (hk1.drewN n2).trans hk3 (fun _ _ h => h)
    have hr : Rd w3 (some ⟨w1.heap.size, 0, none⟩) PF.length (vb PF) := Rd.of_blk hb3 (by simp [vb])
    have ho : Out (Foot q u) (some ⟨w1.heap.size, 0, none⟩) PF.length := by
      intro _ ad e hf
      injection e with e
      subst e
      exact Nat.lt_irrefl _ (hh1.lt _ hf)
    have hl := HPFL.out
    have := write_any w3 (hg.keep hk13 (fun _ h => h.elim)) q u S nb X hh3 (fun i hi => by have := hf1 i hi; omega) (some ⟨w1.heap.size, 0, none⟩) PL PF hr ho (by rw [HPF.out]; exact padF_bytes _) (by omega) (by omega) (by omega)
    rw [hl] at this
    refine this.mono fun e w4 ⟨he, v', hh, hk, _⟩ => ⟨he, ⟨v', ?_⟩, hk13.trans hk (fun i hi hf => by have := hf1 i hf; omega)⟩
    have := hh.1
    rw [List.length_append, hl] at this
    exact this
  obtain ⟨L, hL⟩ : ∃ L : Int, L = ((64 * nb + X.length : Nat) : Int) := ⟨_, rfl⟩
  rw [← hL] at HLE HPA
  clear hL
  go_enter Tryd.func47, Tryd.ntmps47
  go_wp2_with (first
    | (go_at_call 52; refine (HCO.out _ ((Keeps.refl _ _).alloc _)).mono ?_; rintro e w1 ⟨q, u, rfl, hh1, hk1, hf1⟩; have HH1 := Lib.hid hh1; have HK1 := Lib.hid hk1; have HF1 := Lib.hid hf1; clear hh1 hk1 hf1)
    | (go_at_call 58; refine (HLE.out _ (((Keeps.refl (fun _ => False) w).alloc _).trans HK1.out (fun _ _ h => h))).mono ?_; rintro e w2 ⟨rfl, n2, rfl⟩)
    | (go_at_call 57; refine (HPA.out _).mono ?_; rintro e w3 ⟨rfl, hb3, hk3⟩; have HB3 := Lib.hid hb3; have HK3 := Lib.hid hk3; clear hb3 hk3)
    | (go_at_call 46; refine (HWR.out _ _ _ _ (HG.out.keep ((Keeps.refl (fun _ => False) w).alloc _) (fun _ h => h.elim)) _ _ HK1.out HF1.out HH1.out HB3.out HK3.out).mono ?_; rintro e w4 ⟨rfl, ⟨v4, hb4⟩, hk4⟩; have HB4 := Lib.hid hb4; have HK4 := Lib.hid hk4; clear hb4 hk4; have HL4 := Lib.hid (Lies.of_blk (vs := wl (stN S (X ++ PF) ((X.length + PL) / 64))) (o := 0) (HB4.out.alloc (.cells (List.replicate 32 (Value.int .u8 0)).toArray 41)) (by simp [hcells, wl])))
    | ((with_reducible show wpList _ _ _ (⟨some _, Op.load 96 _, _, _, _, _⟩ :: _) _ _); refine wpList_load_lies rfl 96 _ rfl 0 (wl (stN S (X ++ PF) ((X.length + PL) / 64))) _ rfl HL4.out Tryd.underlying96 rfl info8 ?_))
  have R0 : SumRel w w.heap.size w4.heap.size (stN S (X ++ PF) ((X.length + PL) / 64)) 0 (w4.alloc (.cells (List.replicate 32 (Value.int .u8 0)).toArray 41)) := by
    have hk4 := HK4.out
    have hz := hk4.blk (Blk.new w 41 (List.replicate 32 (Value.int .u8 0))) (fun h => h)
    refine ⟨by rw [digL_zero]; exact Blk.new _ _ _, hz.alloc _, (((Keeps.refl (fun _ => False) w).alloc _).trans hk4 (fun _ _ h => h)).alloc _, Nat.le_refl _, ?_, by have := hz.lt; omega⟩
    have := hz.lt; omega
  obtain ⟨T, hT⟩ : ∃ T, T = stN S (X ++ PF) ((X.length + PL) / 64) := ⟨_, rfl⟩
  rw [← hT] at R0 ⊢
  have HT := Lib.hid hT
  clear hT
  go_loopw [5, 6, 7, 22] (fun _ _ _ i wr => ∃ t : Nat, t ≤ 8 ∧ i = .int .i64 t ∧ SumRel w w.heap.size w4.heap.size T (4 * t) wr) (fun _ _ _ i _ => 8 - (intOf i).toNat)
  case atStart => exact ⟨0, by omega, rfl, R0⟩
  case round =>
    clear R0
    obtain ⟨t, ht, rfl, hr⟩ := hrel
    by_cases hlt : t < 8
    · have hix := fun wx => run_index_row (P := Tryd.prog) wx 96 95 8 (wl T).toArray .i64 t (.int .u32 (T t)) _ Tryd.underlying96 Tryd.underlying95 rfl (by kernel_rfl) hlt (by simp [wl, hlt])
      go_wp2
      go_loopw [7, 26] (fun _ i wr => ∃ k : Nat, k ≤ 4 ∧ i = .int .i64 k ∧ SumRel w w.heap.size w4.heap.size T (4 * t + k) wr) (fun _ i _ => 4 - (intOf i).toNat)
      case atStart => exact ⟨0, by omega, rfl, hr⟩
      case round =>
        clear hr
        obtain ⟨k, hk, rfl, hr⟩ := hrel
        by_cases hlk : k < 4
        · have hc : wr.cell? ⟨w4.heap.size, 4 * t + k, none⟩ = some (.int .u8 0) := by
            rw [hr.1.cell]; simp [digL, show 4 * t + k < 32 by omega]
          have hf := hr.1.frozen (4 * t + k)
          have hR := Lib.hid hr
          clear hr
          go_wp2
          go_roundw
          case rel =>
            obtain ⟨h1, h2, h3, h4, h5, h6⟩ := hR.out
            have e : T t / 2 ^ (24 - 8 * k) % 256 = dg T (4 * t + k) := by
              unfold dg
              rw [show (4 * t + k) / 4 = t by omega, show (4 * t + k) % 4 = k by omega]
            rw [e]
            refine ⟨k + 1, by omega, by go_num, ?_⟩
            have h7 := h1.set_ (4 * t + k) (.int .u8 (dg T (4 * t + k)))
            rw [digL_set] at h7
            exact ⟨h7, h2.far h6 _, h3.setCell (.inr h5) _, h4, h5, h6⟩
          case measure => simp [intOf]; omega
        · obtain rfl : k = 4 := by omega
          go_wp2
          go_roundw
          case rel => exact ⟨t + 1, by omega, by go_num, hr⟩
          case measure => simp [intOf]; omega
    · obtain rfl : t = 8 := by omega
      obtain ⟨h1, h2, h3, h4, h5, h6⟩ := hr
      go_wp2_with (first | ((with_reducible show wpList _ _ _ (⟨some _, Op.load 41 _, _, _, _, _⟩ :: _) _ _); refine wpList_load_whole rfl 41 _ rfl _ rfl h1 Tryd.underlying41 rfl (by kernel_rfl) ?_) | ((with_reducible show wpList _ _ _ (⟨none, Op.store 41 _ _, _, _, _, _⟩ :: _) _ _); refine wpList_store_whole rfl 41 _ _ rfl (digL T 32) rfl rfl h2 (by simp [digL]) (by kernel_rfl) (by intro v hv; obtain ⟨i, _, rfl⟩ := List.mem_map.1 hv; rfl) ?_))
      refine bodyPost_ret (results_blk rfl _ _ rfl (h2.setRow (digL T 32)) Tryd.underlying41 rfl (by kernel_rfl)) rfl ⟨?_, h3.setRow (.inr h4) _⟩
      rw [digL_all]
      unfold sumF
      rw [HT.out, HPF.out, HPL.out]
end Go.Proofs.YtnlnbgjpbnjjfaaDoor
