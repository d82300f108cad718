/-
  Digests as keys of a map; WALK: the reference's Excuse: false alone where rows with one digest are alike.
-/
import Derived.Test.YtknecjjdegngfaaDoorUpW
import Derived.Maps.Views
import Derived.Maps.Own
import Derived.Maps.OwnSet
import Derived.DeepKeys4
import Derived.Deep.QuietTactic
import Derived.BigQuiet
set_option linter.unusedSimpArgs false
namespace Go.Proofs.YtknecjjdegngfaaDoor
open Go Go.RowKit Go.Sha Go.Aff Go.Book
theorem key_wide : (match Tryd.prog.underlying 23 with | some (.array _ _) | some (.struct _) => true | _ => false) = true := by kernel_rfl
theorem key_deep : Tryd.prog.keyTypeAt 2 23 = true := by kernel_rfl
theorem key_deep2 : Tryd.prog.keyType 23 = true := by kernel_rfl
theorem laidOutK : laidOutB Tryd.prog = true := by kernel_rfl
theorem key_row : decide (23 < Tryd.prog.types.size) = true := by kernel_rfl
set_option maxRecDepth 100000 in
theorem key_law : Maps.Keyed Tryd.prog 23 := Maps.Keyed.of_law (deep_law_laid laidOutK (m := 2) (by omega) (of_decide_eq_true key_row) key_deep key_wide)
theorem mapM_some {α β : Type} (f : α → Option β) : ∀ l : List α, (∀ x ∈ l, ∃ y, f x = some y) → ∃ r, l.mapM f = some r
  | [], _ => ⟨[], rfl⟩
  | x :: l, h => by
    obtain ⟨y, hy⟩ := h x (by simp)
    obtain ⟨r, hr⟩ := mapM_some f l (fun z hz => h z (by simp [hz]))
    exact ⟨y :: r, by simp [hy, hr]⟩
theorem cells_dig : Tryd.prog.cellsOf 23 = 32 := by kernel_rfl
theorem cells_u8 : Tryd.prog.cellsOf 5 = 1 := by kernel_rfl
set_option maxRecDepth 100000 in
theorem key_dig (d : List Int) (hd : IsDig d) : ∃ kl, keyOf Tryd.prog 23 (.agg (vb d).toArray) = some kl := by
  have hl : (vb d).length = 32 := by rw [vb_length]; exact hd.1
  have hf : (Value.agg (vb d).toArray).formed Tryd.prog 23 = true := by
    simp only [Value.formed, Tryd.underlying23, cells_dig, List.size_toArray, hl]
    rfl
  obtain ⟨T, hT⟩ : ∃ T, Tryd.prog.types.size = T + 1 := ⟨Tryd.prog.types.size - 1, by have := of_decide_eq_true key_row; omega⟩
  have hk : ∃ ls, Tryd.prog.keyLits (Tryd.prog.types.size + 1) 23 (vb d) = some ls := by
    rw [hT]
    unfold Program.keyLits
    simp only [Tryd.underlying23, cells_dig, cells_u8, hl, if_true]
    obtain ⟨r, hr⟩ := mapM_some (fun i => Tryd.prog.keyLits (T + 1) 5 (((vb d).drop (i * 1)).take 1)) (List.range 32) (fun i hi => by
      have hi' : i < d.length := by rw [hd.1]; simpa using hi
      obtain ⟨x, hx⟩ : ∃ x, d[i]? = some x := ⟨_, List.getElem?_eq_getElem hi'⟩
      have hb := hd.2 x (List.mem_of_getElem? hx)
      have e1 : ((vb d).drop (i * 1)).take 1 = [.int .u8 x] := by
        rw [Nat.mul_one]
        apply List.ext_getElem?
        intro j
        rw [List.getElem?_take]
        by_cases hj : j < 1
        · obtain rfl : j = 0 := by omega
          simp [List.getElem?_drop, vb, hx]
        · rw [if_neg hj]
          simp [List.getElem?_eq_none (show ([Value.int .u8 x]).length ≤ j by simp; omega)]
      refine ⟨[.int .u8 x], ?_⟩
      simp only [e1]
      unfold Program.keyLits
      simp only [Tryd.underlying5]
      have hwf : (Lit.int .u8 x).wf = true := by have m1 : IntKind.u8.min = 0 := rfl; have m2 : IntKind.u8.max = 255 := rfl; simp [Lit.wf, m1, m2]; omega
      rw [if_pos ⟨trivial, hwf⟩])
    rw [hr]
    exact ⟨_, rfl⟩
  obtain ⟨ls, hls⟩ := hk
  refine ⟨.string (keyBytes ls), ?_⟩
  unfold keyOf
  simp only [Tryd.underlying23, key_deep2, hf, Bool.and_self, if_true]
  show (Tryd.prog.keyLits (Tryd.prog.types.size + 1) 23 (Value.agg (vb d).toArray).cells.toList).map _ = _
  have e2 : (Value.agg (vb d).toArray).cells.toList = vb d := by simp [Value.cells]
  rw [e2, hls]
  rfl
/-- A digest's key. -/
noncomputable def kOf (d : List Int) : Lit := (keyOf Tryd.prog 23 (.agg (vb d).toArray)).getD .nil
theorem kOf_eq {d : List Int} (hd : IsDig d) : keyOf Tryd.prog 23 (.agg (vb d).toArray) = some (kOf d) := by
  obtain ⟨kl, h⟩ := key_dig d hd
  unfold kOf
  rw [h]
  rfl
theorem vb_inj {a b : List Int} (h : vb a = vb b) : a = b := by
  have : (a.map (Value.int .u8)) = (b.map (Value.int .u8)) := h
  exact (List.map_inj_right (fun x y hxy => by injection hxy)).1 this
set_option maxRecDepth 100000 in
theorem kOf_inj {a b : List Int} (ha : IsDig a) (hb : IsDig b) (h : kOf a = kOf b) : a = b := by
  have h1 := kOf_eq ha
  have h2 := kOf_eq hb
  rw [h] at h1
  have h3 := key_law.inj h1 h2
  injection h3 with h3
  exact vb_inj (by simpa using h3)
theorem zero_int (w : World) : (zeroValue 3).run Tryd.prog w = .ok (.int .i64 0) w := by kernel_rfl
/-- What the reference's map holds behind i rows. -/
def Seen (rs : List (List Int)) (i : Nat) (D : DataW Unit) : Prop :=
  Maps.IsMap D ∧ ∀ d, IsDig d → ∀ c, D.atKey (kOf d) (.lit (.int .i64 0)) = .lit (.int .i64 c) → (c = 0 → ∀ j r, j < i → rs[j]? = some r → sumF first 0 r ≠ d) ∧ 0 ≤ c ∧ (0 < c → ∃ (j : Nat) (r : List Int), c = (j : Int) + 1 ∧ j < i ∧ rs[j]? = some r ∧ sumF first 0 r = d)
def Alike (rs : List (List Int)) (i : Nat) : Prop := ∀ j k r s, j < i → k < i → rs[j]? = some r → rs[k]? = some s → sumF first 0 r = sumF first 0 s → r = s
theorem Seen.zero (rs : List (List Int)) : Seen rs 0 (.map []) := by
  refine ⟨⟨[], rfl⟩, fun d hd c h => ?_⟩
  have e : (DataW.map ([] : List (Lit × DataW Unit))).atKey (kOf d) (.lit (.int .i64 0)) = .lit (.int .i64 0) := rfl
  rw [e] at h
  injection h with h
  injection h with _ h
  subst h
  exact ⟨fun _ j r hj => by omega, by omega, fun h => by omega⟩
theorem dig_sum (r : List Int) : IsDig (sumF first 0 r) := ⟨sumF_length _ _ _, dg_bytes _⟩
set_option maxRecDepth 100000 in
theorem Seen.step {rs : List (List Int)} {i : Nat} {D : DataW Unit} {r : List Int} (h : Seen rs i D) (hr : rs[i]? = some r) : Seen rs (i + 1) (D.put (kOf (sumF first 0 r)) (.lit (.int .i64 ((i : Int) + 1)))) := by
  have hkl : WideAt.IsKeyLit (kOf (sumF first 0 r)) := key_law.key (kOf_eq (dig_sum r))
  refine ⟨?_, fun d hd c hc => ?_⟩
  · obtain ⟨es, rfl⟩ := h.1
    exact ⟨_, rfl⟩
  · by_cases he : d = sumF first 0 r
    · subst he
      rw [Maps.atKey_put_same h.1 hkl] at hc
      injection hc with hc
      injection hc with _ hc
      subst hc
      exact ⟨fun h => by omega, by omega, fun _ => ⟨i, r, rfl, by omega, hr, rfl⟩⟩
    · rw [Maps.atKey_put_other (fun e => he (kOf_inj hd (dig_sum r) e))] at hc
      obtain ⟨h1, h2, h3⟩ := h.2 d hd c hc
      refine ⟨fun h0 j s hj hs => ?_, h2, fun h0 => ?_⟩
      · rcases Nat.lt_or_ge j i with hlt | hge
        · exact h1 h0 j s hlt hs
        · obtain rfl : j = i := by omega
          rw [hr] at hs
          injection hs with hs
          subst hs
          exact fun e => he e.symm
      · obtain ⟨j, s, e1, e2, e3⟩ := h3 h0
        exact ⟨j, s, e1, by omega, e3⟩
theorem Alike.step {rs : List (List Int)} {i : Nat} {r : List Int} (h : Alike rs i) (hr : rs[i]? = some r) (hn : ∀ j s, j < i → rs[j]? = some s → sumF first 0 s = sumF first 0 r → s = r) : Alike rs (i + 1) := by
  intro j k a b hj hk ha hb e
  rcases Nat.lt_or_ge j i with h1 | h1
  · rcases Nat.lt_or_ge k i with h2 | h2
    · exact h j k a b h1 h2 ha hb e
    · obtain rfl : k = i := by omega
      rw [hr] at hb
      injection hb with hb
      subst hb
      exact hn j a h1 ha e
  · obtain rfl : j = i := by omega
    rw [hr] at ha
    injection ha with ha
    subst ha
    rcases Nat.lt_or_ge k j with h2 | h2
    · exact (hn k b h2 hb e.symm).symm
    · obtain rfl : k = j := by omega
      rw [hr] at hb
      injection hb
end Go.Proofs.YtknecjjdegngfaaDoor

namespace Go.Aff
open Go Go.RowKit
theorem Keeps.map {H : Type} {P : Program} {k : TypeId} {R : Value → Option (DataW H × List MemPlace)} {F : Nat → Prop} {w w' : World} {b n : Nat} {D : DataW H} (hk : Keeps F w w') (h : w.ownsMap P k R b n D) (hF : ¬ F b) : w'.ownsMap P k R b n D := by
  obtain ⟨es, clock, hb, h2⟩ := h
  exact ⟨es, clock, (hk.block b (Array.getElem?_eq_some_iff.1 hb).1 hF).trans hb, h2⟩
theorem str_neq {P : Program} (w : World) (t : TypeId) {xs ys : List Int} (hx : IsBytes xs) (hy : IsBytes ys) : (binOp .neq t (.string (strOfNums xs)) (.string (strOfNums ys))).run P w = .ok (.bool (decide (xs ≠ ys))) w := by
  rw [binOp_string_neq, Sem.run_pure]
  congr 2
  rw [Bool.eq_iff_iff]
  simp only [Bool.not_eq_true', beq_eq_false_iff_ne, ne_eq, decide_eq_true_iff]
  exact ⟨fun h e => h (by rw [e]), fun h e => h (str_inj hx hy (toList_inj e))⟩
end Go.Aff
namespace Go.Proofs.YtknecjjdegngfaaDoor
open Go Go.RowKit Go.Sha Go.Aff Go.Book
theorem int_reads (x : Int) (h : IntKind.i64.min ≤ x ∧ x ≤ IntKind.i64.max) : plainElem (H := Unit) Tryd.prog 3 (.int .i64 x) = some (.lit (.int .i64 x), []) := plainElem_int Tryd.underlying3 (by simp [Lit.wf]; exact h)
set_option maxRecDepth 100000 in
set_option maxHeartbeats 4000000 in
theorem excuse_any (w : World) (A : Option Addr) (N c : Nat) (rs : List (List Int)) (hl : rs.length = N) (hp : RdPartsO (fun _ => False) w A rs) (hN : N ≤ 100000) :
    Calls Tryd.prog 28 #[.slice A N c] w fun e w' => ∃ b : Bool, e = .returned (.bool b) ∧ Keeps (fun _ => False) w w' ∧ (b = false → Alike rs N) := by
  have HC : Hid (∀ wr, Keeps (fun _ => False) w wr → ∀ k, k < N → ∃ g o A' m c' r, A = some ⟨g, o, none⟩ ∧ wr.cell? ⟨g, o + k, none⟩ = some (.slice A' m c') ∧ rs[k]? = some r ∧ IsBytes r ∧ r.length = m ∧ m < 2305843009213693952 ∧ Rd wr A' m (vb r)) := Lib.hid fun wr hk k hkn => by
    obtain ⟨vals, hv, _, hparts⟩ := hp.keep hk (fun _ h => h)
    obtain ⟨g, o, e, hc⟩ := hv.2 (by omega)
    obtain ⟨r, hr⟩ : ∃ r, rs[k]? = some r := ⟨_, List.getElem?_eq_getElem (by omega)⟩
    obtain ⟨A', c', h1, h2, _, h4, h5, h6⟩ := hparts k r hr
    exact ⟨g, o, A', r.length, c', r, e, (hc k (by omega)).trans h1, hr, h4, rfl, by omega, h2⟩
  have hmade := World.ownsMap_made (H := Unit) w Tryd.prog 23 (plainElem Tryd.prog 3)
  have hk1 : Keeps (fun _ => False) w (w.alloc (.map #[] 0)) := (Keeps.refl _ w).alloc _
  have HST : Hid (∃ D : DataW Unit, (w.alloc (.map #[] 0)).ownsMap Tryd.prog 23 (plainElem Tryd.prog 3) w.heap.size 0 D ∧ Seen rs 0 D ∧ Alike rs 0 ∧ Keeps (fun _ => False) w (w.alloc (.map #[] 0))) := Lib.hid ⟨_, hmade, Seen.zero rs, fun j k r s hj => by omega, hk1⟩
  clear hmade hk1 hp hl
  go_enter Tryd.func28, Tryd.ntmps28
  have hmm := @run_makeMap Tryd.prog
  go_wp2
  clear hmm
  go_loopw [4] (fun i wr => ∃ k : Nat, k ≤ N ∧ i = .int .i64 k ∧ Hid (∃ D : DataW Unit, wr.ownsMap Tryd.prog 23 (plainElem Tryd.prog 3) w.heap.size k D ∧ Seen rs k D ∧ Alike rs k ∧ Keeps (fun _ => False) w wr)) (fun i _ => N - (intOf i).toNat)
  case atStart => exact ⟨0, by omega, rfl, HST⟩
  case round =>
    obtain ⟨k, hk, rfl, HD⟩ := hrel
    by_cases hlt : k < N
    · obtain ⟨D, hmap, hseen, halike, hkp⟩ := HD.out
      obtain ⟨g, o, A', m, c', r, rfl, hcell, hr, hrb, hrl, hm, hrd⟩ := HC.out wr hkp k hlt
      have hdd : IsDig (sumF first 0 r) := dig_sum r
      obtain ⟨DV, hDV⟩ : ∃ DV, DV = vb (sumF first 0 r) := ⟨_, rfl⟩
      have hof := rof_any wr A' m c' r hrl hrd hrb hm
      rw [← hDV] at hof
      have HOF := Lib.hid hof
      have HDL : Hid (DV.length = 32) := Lib.hid (by rw [hDV, vb_length]; exact hdd.1)
      have HD1 : Hid (∀ u ∈ DV, u.oneCell' = true) := Lib.hid (by rw [hDV]; exact vb_one _)
      have HIN : Hid ((Tryd.prog.info? 23).map (·.size) = some DV.length) := Lib.hid (by rw [HDL.out]; kernel_rfl)
      have HDV := Lib.hid hDV
      have HML : Hid (k < maxLen) := Lib.hid (Nat.lt_of_lt_of_le (show k < 100001 by omega) (by decide))
      have HMAP := Lib.hid hmap
      have HKP := Lib.hid hkp
      have HR := Lib.hid hr
      have HSE := Lib.hid hseen
      have HAL := Lib.hid halike
      have HRB := Lib.hid hrb
      clear hof hmap hseen halike hkp hr hrb hrl hm hrd hdd hDV HD
      go_upto_region 6 with (first
        | (go_at_call 43; refine HOF.out.mono ?_; rintro e w5 ⟨rfl, hk5⟩; have HK5 := Lib.hid hk5; have HZ := Lib.hid (Blk.new w5 23 (List.replicate 32 (Value.int .u8 0))); clear hk5)
        | ((with_reducible show wpList _ _ _ (⟨none, Op.store 23 _ _, _, _, _, _⟩ :: _) _ _); refine wpList_store_whole rfl 23 _ _ rfl DV rfl rfl HZ.out (by rw [HDL.out]; simp) HIN.out HD1.out ?_; refine gen_world (fun W => Blk W w5.heap.size 23 DV ∧ Keeps (fun _ => False) wr W) ⟨HZ.out.setRow _, (HK5.out.alloc _).setRow (.inr HK5.out.size) _⟩ ?_; rintro w6 ⟨hb6, hk6⟩; have HB6 := Lib.hid hb6; have HK6 := Lib.hid hk6; clear hb6 hk6))
      have hkw : Keeps (fun _ => False) w w6 := HKP.out.trans HK6.out (fun _ _ h => h)
      have hmap6 := HK6.out.map HMAP.out (fun h => h)
      have hkey : keyOf Tryd.prog 23 (.agg DV.toArray) = some (kOf (sumF first 0 r)) := by rw [HDV.out]; exact kOf_eq (dig_sum r)
      obtain ⟨c0, hrun, hat, hwf⟩ := hmap6.lookup_int key_law Tryd.underlying91 Tryd.underlying3 (zero_int w6) hkey
      obtain ⟨hs1, hs2, hs3⟩ := HSE.out.2 _ (dig_sum r) c0 hat
      have HM6 := Lib.hid hmap6
      have HKEY := Lib.hid hkey
      have HKW := Lib.hid hkw
      have HNS := Lib.hid (HSE.out.step HR.out)
      have HIR : Hid (plainElem (H := Unit) Tryd.prog 3 (.int .i64 ((k : Int) + 1)) = some (.lit (.int .i64 ((k : Int) + 1)), [])) := Lib.hid (by exact int_reads _ ⟨by have : IntKind.i64.min = -9223372036854775808 := rfl; omega, by have : IntKind.i64.max = 9223372036854775807 := rfl; omega⟩)
      clear hmap6 hkey hkw hat hwf
      simp only [Act.put]
      by_cases hc0 : 0 < c0
      · obtain ⟨j, r', hcj, hj, hr', hsum⟩ := hs3 hc0
        subst hcj
        obtain ⟨g2, o2, A2, m2, c2, r2, e2, hcell2, hr2, hrb2, _, _, hrd2⟩ := HC.out w6 HKW.out j (by omega)
        injection e2 with e2
        injection e2 with e2 e3
        subst e2 e3
        rw [hr'] at hr2
        injection hr2 with hr2
        subst hr2
        obtain ⟨g3, o3, A3, m3, c3, r3, e4, hcell3, hr3, hrb3, _, _, hrd3⟩ := HC.out w6 HKW.out k hlt
        injection e4 with e4
        injection e4 with e4 e5
        subst e4 e5
        rw [HR.out] at hr3
        injection hr3 with hr3
        subst hr3
        have cv2 := fun nn => convert_rd (w6.drewN nn) (P := Tryd.prog) Tryd.underlying22 Tryd.underlying5 Tryd.underlying9 c2 (hrd2.drewN nn)
        have cv3 := fun nn => convert_rd (w6.drewN nn) (P := Tryd.prog) Tryd.underlying22 Tryd.underlying5 Tryd.underlying9 c3 (hrd3.drewN nn)
        have nqf := fun nn => str_neq (P := Tryd.prog) (w6.drewN nn) 9 hrb2 hrb3
        have HS2 := Lib.hid hs2
        have w1 : IntKind.i64.wrap ((j : Int) + 1 - 1) = (j : Int) := by rw [IntWalk.i64_in _ (by omega)]; omega
        have hjN : (j : Int) < (N : Int) := by omega
        clear hs1 hs2 hs3 hrd2 hrd3 hcell
        clear nqf
        by_cases hre : r' = r
        · skip
          have HNA : Hid (Alike rs (k + 1)) := Lib.hid (HAL.out.step HR.out fun j1 s1 hj1 hs1 he => by
            have h9 := HAL.out j1 j s1 r' hj1 hj hs1 hr' (he.trans hsum.symm)
            rw [h9, hre])
          clear hr' hsum HC
          subst hre
          go_wp2_with (first | ((with_reducible show wpList _ _ _ (⟨_, Op.load 23 _, _, _, _, _⟩ :: _) _ _); refine wpList_load_whole rfl 23 _ rfl _ rfl HB6.out Tryd.underlying23 rfl HIN.out ?_) | (at_mapUpdate; refine wpList_mapUpdate_own _ rfl _ _ _ 91 rfl 23 3 key_law Tryd.underlying91 _ w.heap.size k D rfl (HM6.out) HML.out _ _ _ rfl rfl HKEY.out (.lit (.int .i64 ((k : Int) + 1))) [] (HIR.out) ?_; intro w7 hown7 hg7; have HO7 := Lib.hid hown7; have HK7 := Lib.hid (Keeps.of_grown hg7); clear hown7 hg7))
          go_quiet (fail)
          clear cv2 cv3 w1 hcell2 hcell3 hrun hjN
          go_wp2_with (first | ((with_reducible show wpList _ _ _ (⟨_, Op.load 23 _, _, _, _, _⟩ :: _) _ _); refine wpList_load_whole rfl 23 _ rfl _ rfl HB6.out Tryd.underlying23 rfl HIN.out ?_) | (at_mapUpdate; refine wpList_mapUpdate_own _ rfl _ _ _ 91 rfl 23 3 key_law Tryd.underlying91 _ w.heap.size k D rfl (HM6.out) HML.out _ _ _ rfl rfl HKEY.out (.lit (.int .i64 ((k : Int) + 1))) [] (HIR.out) ?_; intro w7 hown7 hg7; have HO7 := Lib.hid hown7; have HK7 := Lib.hid (Keeps.of_grown hg7); clear hown7 hg7))
          go_round
          case rel =>
            refine ⟨k + 1, by omega, by go_num, Lib.hid ⟨_, HO7.out, HNS.out, HNA.out, ?_⟩⟩
            exact (HKW.out.drewN _).trans HK7.out (fun i hi e => by injection e with e; omega)
          case measure => simp [intOf]; omega
        · have hneq : ((strOfNums r').toList == (strOfNums r).toList) = false := by
            rw [beq_eq_false_iff_ne]
            exact fun he => hre (str_inj hrb2 hrb3 (toList_inj he))
          clear hre hr' hsum HC
          go_wp2_with (first | ((with_reducible show wpList _ _ _ (⟨_, Op.load 23 _, _, _, _, _⟩ :: _) _ _); refine wpList_load_whole rfl 23 _ rfl _ rfl HB6.out Tryd.underlying23 rfl HIN.out ?_) | (at_mapUpdate; refine wpList_mapUpdate_own _ rfl _ _ _ 91 rfl 23 3 key_law Tryd.underlying91 _ w.heap.size k D rfl (HM6.out) HML.out _ _ _ rfl rfl HKEY.out (.lit (.int .i64 ((k : Int) + 1))) [] (HIR.out) ?_; intro w7 hown7 hg7; have HO7 := Lib.hid hown7; have HK7 := Lib.hid (Keeps.of_grown hg7); clear hown7 hg7))
          go_quiet (fail)
          clear cv2 cv3 w1 hcell2 hcell3 hrun hjN
          go_wp2_with (first | ((with_reducible show wpList _ _ _ (⟨_, Op.load 23 _, _, _, _, _⟩ :: _) _ _); refine wpList_load_whole rfl 23 _ rfl _ rfl HB6.out Tryd.underlying23 rfl HIN.out ?_) | (at_mapUpdate; refine wpList_mapUpdate_own _ rfl _ _ _ 91 rfl 23 3 key_law Tryd.underlying91 _ w.heap.size k D rfl (HM6.out) HML.out _ _ _ rfl rfl HKEY.out (.lit (.int .i64 ((k : Int) + 1))) [] (HIR.out) ?_; intro w7 hown7 hg7; have HO7 := Lib.hid hown7; have HK7 := Lib.hid (Keeps.of_grown hg7); clear hown7 hg7))
          go_ret
          exact ⟨true, rfl, HKW.out.drewN _, fun h => by cases h⟩
      · obtain rfl : c0 = 0 := by omega
        have HNA : Hid (Alike rs (k + 1)) := Lib.hid (HAL.out.step HR.out fun j1 s1 hj1 hs1' he => absurd he (hs1 rfl j1 s1 hj1 hs1'))
        clear hs1 hs2 hs3 HC
        go_wp2_with (first | ((with_reducible show wpList _ _ _ (⟨_, Op.load 23 _, _, _, _, _⟩ :: _) _ _); refine wpList_load_whole rfl 23 _ rfl _ rfl HB6.out Tryd.underlying23 rfl HIN.out ?_) | (at_mapUpdate; refine wpList_mapUpdate_own _ rfl _ _ _ 91 rfl 23 3 key_law Tryd.underlying91 _ w.heap.size k D rfl (HM6.out) HML.out _ _ _ rfl rfl HKEY.out (.lit (.int .i64 ((k : Int) + 1))) [] (HIR.out) ?_; intro w7 hown7 hg7; have HO7 := Lib.hid hown7; have HK7 := Lib.hid (Keeps.of_grown hg7); clear hown7 hg7))
        go_quiet (fail)
        go_wp2_with (first | ((with_reducible show wpList _ _ _ (⟨_, Op.load 23 _, _, _, _, _⟩ :: _) _ _); refine wpList_load_whole rfl 23 _ rfl _ rfl HB6.out Tryd.underlying23 rfl HIN.out ?_) | (at_mapUpdate; refine wpList_mapUpdate_own _ rfl _ _ _ 91 rfl 23 3 key_law Tryd.underlying91 _ w.heap.size k D rfl (HM6.out) HML.out _ _ _ rfl rfl HKEY.out (.lit (.int .i64 ((k : Int) + 1))) [] (HIR.out) ?_; intro w7 hown7 hg7; have HO7 := Lib.hid hown7; have HK7 := Lib.hid (Keeps.of_grown hg7); clear hown7 hg7))
        go_round
        case rel =>
          refine ⟨k + 1, by omega, by go_num, Lib.hid ⟨_, HO7.out, HNS.out, HNA.out, ?_⟩⟩
          exact (HKW.out.drewN _).trans HK7.out (fun i hi e => by injection e with e; omega)
        case measure => simp [intOf]; omega
    · obtain rfl : k = N := by omega
      go_wp2
      go_ret
      obtain ⟨D, h1, h2, h3, h4⟩ := HD.out
      exact ⟨false, rfl, h4, fun _ => h3⟩
end Go.Proofs.YtknecjjdegngfaaDoor

