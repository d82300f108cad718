/- Texts. -/
import Derived.Test.YtplleficmkfniaaGreatDoorQ19
import Derived.Test.YtplleficmkfniaaGreatDoorQ15
set_option linter.unusedSimpArgs false
set_option maxRecDepth 100000
set_option maxHeartbeats 4000000
namespace Go.Json
section
variable {ks : List ByteArray} {L : List JV}
end
end Go.Json
namespace Go.Proofs.YtplleficmkfniaaGreatDoor
open Go Go.RowKit Go.Aff Go.Json
theorem textAt {w : World} {A : Option Addr} {n : Nat} {ks : List ByteArray} (h : Rd w A n (ks.map .string)) {j : Nat} (hj : j < n) : ∃ g o s, A = some ⟨g, o, none⟩ ∧ ks[j]? = some s ∧ w.cell? ⟨g, o + j, none⟩ = some (.string s) := by
 obtain ⟨g, o, e, q⟩ := h.2 (by omega)
 have hl : ks.length = n := by simpa using h.1
 obtain ⟨s, hs⟩ : ∃ s, ks[j]? = some s := ⟨_, List.getElem?_eq_getElem (by omega)⟩
 refine ⟨g, o, s, e, hs, ?_⟩
 rw [q j hj, List.getElem?_map, hs]; rfl
end Go.Proofs.YtplleficmkfniaaGreatDoor
namespace Go.Proofs.YtplleficmkfniaaGreatDoor
open Go Go.RowKit Go.Aff Go.Json Go.Rng Go.Shelf
attribute [local go_sem] Oper.semAt_some
def keyAt (j : JV) (i : Nat) : ByteArray := j.keys.getD i ⟨#[]⟩
theorem refkey_any {D : Nat → Prop} (w : World) (v : Value) (j : JV) (hj : JAt D w v j) (i : Nat) (hi : i ≤ 1099511627776) :
  Calls Tryz.prog 96 #[.agg #[v], .int .i64 i] w fun e w' => e = .returned (.tuple #[.string (keyAt j i), .bool (decide (i < j.keys.length))]) ∧ Keeps (fun _ => False) w w' := by
 obtain ⟨A, c, hr, _, hc⟩ := keys_inv hj
 obtain ⟨T, y, hv⟩ := hj.iface
 subst hv
 obtain ⟨n, hn⟩ : ∃ n, n = j.keys.length := ⟨_, rfl⟩
 rw [← hn] at hr hc ⊢
 have c0 := (Blk.new w 95 [.iface T y]).cell 0
 have hkw : Keeps (fun _ => False) w (w.alloc (.cells #[.iface T y] 95)) := (Keeps.refl (fun _ => False) w).alloc _
 have HKW := H_ hkw
 have HC := H_ (hc _ hkw)
 have HR := H_ hr
 have HN := H_ hn
 clear hj hr hc hkw hn
 have d1 : decide ((i : Int) < 0) = false := decide_eq_false (by omega)
 by_cases hlt : i < n
 ·obtain ⟨g, o, s, hA, hs, _⟩ := textAt HR.out hlt
  have HKA : Hid (keyAt j i = s) := H_ (by unfold keyAt; rw [List.getD_eq_getElem?_getD, hs]; rfl)
  have HCK : Hid (∀ W, Keeps (fun _ => False) w W → W.cell? ⟨g, o + i, none⟩ = some (.string s)) := H_ fun W hW => by
   obtain ⟨g', o', s', e1, e2, e3⟩ := textAt (HR.out.keep hW (fun _ _ _ h => h)) hlt
   rw [hA] at e1
   injection e1 with e1
   injection e1 with e1 e4
   rw [hs] at e2
   injection e2 with e2
   subst e1 e4 e2
   exact e3
  have hdt : decide (i < n) = true := decide_eq_true hlt
  have hge : decide (n ≤ i) = false := decide_eq_false (by omega)
  rw [HKA.out, hdt]
  clear hdt
  subst hA
  clear hs
  go_enter Tryz.func96, Tryz.ntmps96
  go_wp2_with (go_at_call 83; refine HC.out.mono ?_; rintro e w2 ⟨rfl, hk2⟩; have ck := HCK.out _ (HKW.out.trans hk2 (fun _ _ h => h)); have HK2 := H_ hk2; clear hk2)
  go_ret2
  exact ⟨rfl, HKW.out.trans HK2.out (fun _ _ h => h)⟩
 ·have HKA : Hid (keyAt j i = ⟨#[]⟩) := H_ (by unfold keyAt; rw [List.getD_eq_getElem?_getD, List.getElem?_eq_none (by have := HN.out; omega)]; rfl)
  have hdt : decide (i < n) = false := decide_eq_false hlt
  rw [HKA.out, hdt]
  have hge : decide (n ≤ i) = true := decide_eq_true (by omega)
  clear hdt
  go_enter Tryz.func96, Tryz.ntmps96
  go_wp2_with (go_at_call 83; refine HC.out.mono ?_; rintro e w2 ⟨rfl, hk2⟩; have HK2 := H_ hk2; clear hk2)
  go_ret2
  exact ⟨rfl, HKW.out.trans HK2.out (fun _ _ h => h)⟩
theorem refall_any (w : World) (T : TypeId) (y : Value) : Calls Tryz.prog 95 #[.agg #[.iface T y]] w fun e w' => e = .returned (.func (.func 160) #[] #[.pointer (some ⟨w.heap.size, 0, none⟩)]) ∧ w' = w.alloc (.cells #[.iface T y] 95) := by
 go_enter Tryz.func95, Tryz.ntmps95
 go_wp2
 go_ret
 exact ⟨rfl, rfl⟩
def encA (j : JV) (vs : List Value) (i : Nat) : Array Value := #[.string (keyAt j i), .agg #[vs.getD i .nilIface]]
theorem keeps_put {F : Nat → Prop} (W : World) (l : Nat) (o : Obj) (hl : F l) : Keeps F W (W.putObj l o) :=
 ⟨rfl, rfl, rfl, by simp, fun i hi hn => World.putObj_heap_other (fun e => hn (by rw [e]; exact hl))⟩
theorem all_next (n : Nat) (F : Nat → Prop) {D : Nat → Prop} (w : World) (bx : Nat) (v : Value) (j : JV) (hb : Blk w bx 95 [v]) (hbF : ¬ F bx) (hj : JAt D w v j) (hD : ∀ i, D i → ¬ F i) (hF : ∀ i, w.heap.size ≤ i → F i) (hm : j.items.length ≤ 1099511627776) :
  ∃ A vs, Items D w j A vs ∧ SeqNext (α := Fin j.items.length) (fun pre i => i.val = pre.length) Fence.wide n Tryz.prog 160 #[.pointer (some ⟨bx, 0, none⟩)] (fun i => encA j vs i.val) (Keeps F) (fun xs => xs.map (·.val) = List.range j.items.length) (fun _ => True) w := by
 obtain ⟨A, c, vs, hit, hic⟩ := items_inv hj
 refine ⟨A, vs, hit, fun l J Jx W hW hJ hJx hY h0 => ?_⟩
 have hWk : Keeps (fun _ => False) w W := Keeps.of_below hW
 have hjW := hj.stay hWk
 obtain ⟨m, hmm⟩ : ∃ m, m = j.items.length := ⟨_, rfl⟩
 rw [← hmm] at hic hm
 have HIC := H_ hic
 have HIT := H_ hit
 have HW := H_ hWk
 have HJ := H_ hj
 have HDF := H_ (And.intro hD hF)
 have HM := H_ hmm
 have cb := (hWk.blk hb (fun h => h)).cell 0
 have HBB := H_ (And.intro hb hbF)
 have HY := H_ hY
 have HJJ := H_ (And.intro hJ hJx)
 have H0 := H_ h0
 have hdd : ∀ k : Nat, (Fence.wide.depth.isSome = true → 1 ≤ k) := fun k h => by cases h
 obtain ⟨T, y, hv⟩ := hj.iface
 subst hv
 clear hic hit hWk hj hjW hD hF hb hbF hY hJ hJx h0 hmm hW
 refine callsIn_of_wp Tryz.func160 rfl trivial ?_
 simp only [Tryz.ntmps160, List.size_toArray, List.length_cons, List.length_nil, Nat.reduceAdd, Nat.reduceSub, Array.replicate_succ, Array.replicate_zero, List.push_toArray, List.append_toArray, List.nil_append, List.cons_append]
 gi_wp2_with ((try refine ⟨trivial, ?_⟩); (try refine ⟨hdd _, ?_⟩); gi_at_call 84; refine (callsIn_wide.2 (HIC.out _ HW.out)).mono ?_; rintro e W1 ⟨rfl, hk1⟩; have HK1 := H_ hk1; clear hk1)
 gi_loopw [10] (fun i wr => ∃ (k : Nat) (pre : List (Fin j.items.length)), k ≤ m ∧ i = .int .i64 k ∧ Hid (pre.map (·.val) = List.range k ∧ J pre wr ∧ Keeps F W wr)) (fun i _ => m - (intOf i).toNat)
 case atStart => exact ⟨0, [], by omega, rfl, H_ ⟨rfl, HJJ.out.1 _ _ _ none H0.out (grown_keep HK1.out) (fun r e => by cases e), HK1.out.mono (fun _ _ h => h.elim)⟩⟩
 case round =>
  obtain ⟨k, pre, hkm, rfl, HP⟩ := hrel
  by_cases hlt : k < m
  ·have HKW : Hid (Keeps F w wr) := H_ ((HW.out.mono (fun _ _ h => h.elim)).trans HP.out.2.2 (fun _ _ h => h))
   obtain ⟨g, o, hA, hcl⟩ := (HIT.out.rd.keep HKW.out (HIT.out.inb.out HDF.out.1)).2 (by have := HM.out; omega)
   subst hA
   obtain ⟨u, hu⟩ : ∃ u, vs[k]? = some u := ⟨_, List.getElem?_eq_getElem (by have := HIT.out.rd.1; have := HM.out; omega)⟩
   obtain ⟨x, hx⟩ : ∃ x, j.items[k]? = some x := ⟨_, List.getElem?_eq_getElem (by have := HM.out; omega)⟩
   have ck : wr.cell? ⟨g, o + k, none⟩ = some u := by rw [hcl k (by have := HM.out; omega), hu]
   obtain ⟨T2, y2, hu2⟩ := (HIT.out.at_ k u x hu hx).iface
   subst hu2
   have hgd : vs.getD k .nilIface = .iface T2 y2 := by rw [List.getD_eq_getElem?_getD, hu]; rfl
   obtain ⟨KI, hKI⟩ : ∃ KI : Fin j.items.length, KI.val = k := ⟨⟨k, by have := HM.out; omega⟩, rfl⟩
   have HKI := H_ hKI
   have HKEY : Hid (∀ W2, Keeps (fun _ => False) wr W2 → Calls Tryz.prog 96 #[.agg #[.iface T y], .int .i64 k] W2 fun e w' => e = .returned (.tuple #[.string (keyAt j k), .bool (decide (k < j.keys.length))]) ∧ Hid (Keeps (fun _ => False) W2 w')) := H_ fun W2 hW2 =>
    (refkey_any W2 _ j ((HJ.out.keep HKW.out HDF.out.1).stay hW2) k (by omega)).mono fun e w' h => ⟨h.1, H_ h.2⟩
   have HYN : Hid (∀ W2, Keeps (fun _ => False) wr W2 → YieldAt Fence.wide (n - 1) Tryz.prog l #[.string (keyAt j k), .agg #[.iface T2 y2]] W2 fun e W' => (e = .returned (.bool true) ∧ Hid (J (pre ++ [KI]) W' ∧ Keeps F W2 W')) ∨ (e = .returned (.bool false) ∧ Hid (Jx (pre ++ [KI]) W'))) := H_ fun W2 hW2 => by
    have h1 := HY.out pre KI W2 (HJJ.out.1 _ _ _ none HP.out.2.1 (grown_keep hW2) (fun r e => by cases e)) (by
     have := congrArg List.length HP.out.1
     rw [List.length_map, List.length_range] at this
     rw [hKI]; exact this.symm)
    unfold encA at h1
    rw [hKI, hgd] at h1
    exact h1.mono fun e W' h => h.imp (fun h => ⟨h.1, H_ h.2⟩) (fun h => ⟨h.1, H_ h.2⟩)
   have cbr : ∀ W2, Keeps (fun _ => False) wr W2 → W2.cell? ⟨bx, 0, none⟩ = some (.iface T y) := fun W2 hW2 => (hW2.blk (HKW.out.blk HBB.out.1 HBB.out.2) (fun h => h)).cell 0
   have cb1 := cbr wr (Keeps.refl _ _)
   have HCB := H_ cbr
   obtain ⟨ky, hky⟩ : ∃ ky, ky = keyAt j k := ⟨_, rfl⟩
   obtain ⟨kb, hkb⟩ : ∃ kb, kb = decide (k < j.keys.length) := ⟨_, rfl⟩
   rw [← hky] at HYN HKEY
   rw [← hkb] at HKEY
   have hk0 : (0 : Int) ≤ (k : Int) := by omega
   have hkN : (k : Int) < (m : Int) := by omega
   clear hcl hu hx hgd cbr hky hkb cb hKI
   gi_wp2_with (first
    | ((try refine ⟨trivial, ?_⟩); (try refine ⟨hdd _, ?_⟩); gi_at_call 96; refine (callsIn_wide.2 (HKEY.out _ (Keeps.refl _ _))).mono ?_; rintro e W3 ⟨rfl, HK3⟩; have hyy := HYN.out W3 HK3.out; obtain ⟨fn, tmps, assign, body, hy, hR⟩ := hyy)
    | ((try refine ⟨hdd _, ?_⟩); refine hR.mono ?_; clear hR; rintro e W4 (⟨rfl, HJ4⟩ | ⟨rfl, HJ4⟩)))
   ·go_roundw
    case rel => exact ⟨k + 1, pre ++ [KI], by omega, by go_num, H_ ⟨by rw [List.map_append, HP.out.1, List.range_succ]; simp [HKI.out], HJ4.out.1, (HP.out.2.2.trans HK3.out (fun _ _ h => h.elim)).trans HJ4.out.2 (fun _ _ h => h)⟩⟩
    case measure => simp [intOf]; omega
   ·skip
    refine bodyPost_ret (results_none rfl _ _ _) rfl ?_
    exact ⟨⟨_, rfl⟩, .inr ⟨_, trivial, HJ4.out⟩⟩
  ·obtain rfl : k = m := by omega
   gi_wp2
   go_end0
   exact ⟨⟨_, rfl⟩, .inl ⟨pre, by rw [HP.out.1, HM.out], HP.out.2.1⟩⟩
end Go.Proofs.YtplleficmkfniaaGreatDoor
namespace Go.Proofs.YtplleficmkfniaaGreatDoor
open Go Go.RowKit Go.Aff Go.Json
theorem root_any (w : World) (q : Nat) (T : TypeId) (x : Value) (hb : Blk w q 135 [.iface T x]) :
  Calls Tryz.prog 40 #[.pointer (some ⟨q, 0, none⟩)] w fun e w' => e = .returned (.agg #[.iface T x]) ∧ Keeps (fun _ => False) w w' := by
 have hb1 := hb.alloc (.cells #[.nilIface] 95)
 have c0 := hb1.cell 0
 have f0 := (Blk.new w 95 [.nilIface]).frozen 0
 have HR := H_ (Blk.new w 95 [.iface T x])
 have HK := H_ ((Keeps.refl (fun _ => False) w).alloc (.cells #[.iface T x] 95))
 clear hb hb1
 go_enter Tryz.func40, Tryz.ntmps40
 go_wp2
 exact bodyPost_ret (results_blk rfl _ _ rfl HR.out Tryz.underlying95 rfl (by kernel_rfl)) rfl ⟨rfl, HK.out⟩
end Go.Proofs.YtplleficmkfniaaGreatDoor
namespace Go.Proofs.YtplleficmkfniaaGreatDoor
open Go Go.RowKit Go.Aff Go.Utf
def formV (f : Int × Int × Int) : List Value := [.int .i64 f.1, .int .u8 f.2.1, .int .u8 f.2.2]
theorem form_any (w : World) (c : Int) : Calls Tryz.prog 239 #[.int .u8 c] w fun e w' => e = .returned (.agg (formV (formF c)).toArray) ∧ Kp (fun _ => False) w w' := by
 have hb := Blk.new w 376 [.int .i64 0, .int .u8 0, .int .u8 0]
 have f0 := hb.frozen 0
 have f1 := hb.frozen 1
 have f2 := hb.frozen 2
 have HK := H_ fun vs => (Kp.refl (fun _ => False) w).alloc (.cells vs 376)
 have HR := H_ fun x y z => Blk.new w 376 [.int .i64 x, .int .u8 y, .int .u8 z]
 clear hb
 by_cases h0 : c < 128
 ·have HF : Hid (formF c = (1, 0, 0)) := H_ (by simp [formF, h0])
  go_enter Tryz.func239, Tryz.ntmps239
  go_wp2
  rw [HF.out]
  exact bodyPost_ret (results_blk rfl _ _ rfl (HR.out 1 0 0) Tryz.underlying376 rfl (by kernel_rfl)) rfl ⟨rfl, HK.out _⟩
 ·skip
  by_cases h1 : c < 194
  ·have HF : Hid (formF c = (0, 0, 0)) := H_ (by simp [formF, h0, h1])
   go_enter Tryz.func239, Tryz.ntmps239
   go_wp2
   rw [HF.out]
   exact bodyPost_ret (results_blk rfl _ _ rfl (HR.out 0 0 0) Tryz.underlying376 rfl (by kernel_rfl)) rfl ⟨rfl, HK.out _⟩
  ·skip
   by_cases h2 : c < 224
   ·have HF : Hid (formF c = (2, 128, 191)) := H_ (by simp [formF, h0, h1, h2])
    go_enter Tryz.func239, Tryz.ntmps239
    go_wp2
    rw [HF.out]
    exact bodyPost_ret (results_blk rfl _ _ rfl (HR.out 2 128 191) Tryz.underlying376 rfl (by kernel_rfl)) rfl ⟨rfl, HK.out _⟩
   ·skip
    by_cases h3 : c = 224
    ·subst h3
     have HF : Hid (formF 224 = (3, 160, 191)) := H_ (by decide)
     go_enter Tryz.func239, Tryz.ntmps239
     go_wp2
     rw [HF.out]
     exact bodyPost_ret (results_blk rfl _ _ rfl (HR.out 3 160 191) Tryz.underlying376 rfl (by kernel_rfl)) rfl ⟨rfl, HK.out _⟩
    ·have e3 : (c == 224) = false := by simp [h3]
     by_cases h4 : c = 237
     ·subst h4
      have HF : Hid (formF 237 = (3, 128, 159)) := H_ (by decide)
      go_enter Tryz.func239, Tryz.ntmps239
      go_wp2
      rw [HF.out]
      exact bodyPost_ret (results_blk rfl _ _ rfl (HR.out 3 128 159) Tryz.underlying376 rfl (by kernel_rfl)) rfl ⟨rfl, HK.out _⟩
     ·have e4 : (c == 237) = false := by simp [h4]
      by_cases h5 : c < 240
      ·have HF : Hid (formF c = (3, 128, 191)) := H_ (by simp [formF, h0, h1, h2, h3, h4, h5])
       go_enter Tryz.func239, Tryz.ntmps239
       go_wp2
       rw [HF.out]
       exact bodyPost_ret (results_blk rfl _ _ rfl (HR.out 3 128 191) Tryz.underlying376 rfl (by kernel_rfl)) rfl ⟨rfl, HK.out _⟩
      ·skip
       by_cases h6 : c = 240
       ·subst h6
        have HF : Hid (formF 240 = (4, 144, 191)) := H_ (by decide)
        go_enter Tryz.func239, Tryz.ntmps239
        go_wp2
        rw [HF.out]
        exact bodyPost_ret (results_blk rfl _ _ rfl (HR.out 4 144 191) Tryz.underlying376 rfl (by kernel_rfl)) rfl ⟨rfl, HK.out _⟩
       ·have e6 : (c == 240) = false := by simp [h6]
        by_cases h7 : c < 244
        ·have HF : Hid (formF c = (4, 128, 191)) := H_ (by simp [formF, h0, h1, h2, h3, h4, h5, h6, h7])
         go_enter Tryz.func239, Tryz.ntmps239
         go_wp2
         rw [HF.out]
         exact bodyPost_ret (results_blk rfl _ _ rfl (HR.out 4 128 191) Tryz.underlying376 rfl (by kernel_rfl)) rfl ⟨rfl, HK.out _⟩
        ·skip
         by_cases h8 : c = 244
         ·subst h8
          have HF : Hid (formF 244 = (4, 128, 143)) := H_ (by decide)
          go_enter Tryz.func239, Tryz.ntmps239
          go_wp2
          rw [HF.out]
          exact bodyPost_ret (results_blk rfl _ _ rfl (HR.out 4 128 143) Tryz.underlying376 rfl (by kernel_rfl)) rfl ⟨rfl, HK.out _⟩
         ·have e8 : (c == 244) = false := by simp [h8]
          have HF : Hid (formF c = (0, 0, 0)) := H_ (by simp [formF, h0, h1, h2, h3, h4, h5, h6, h7, h8])
          go_enter Tryz.func239, Tryz.ntmps239
          go_wp2
          rw [HF.out]
          exact bodyPost_ret (results_blk rfl _ _ rfl (HR.out 0 0 0) Tryz.underlying376 rfl (by kernel_rfl)) rfl ⟨rfl, HK.out _⟩
theorem may_any (w : World) (f : Int × Int × Int) (i c : Int) : Calls Tryz.prog 240 #[.agg (formV f).toArray, .int .i64 i, .int .u8 c] w fun e w' => e = .returned (.bool (mayF f i c)) ∧ Kp (fun _ => False) w w' := by
 obtain ⟨n, lo, hi⟩ := f
 have hb := Blk.new w 376 [.int .i64 n, .int .u8 lo, .int .u8 hi]
 have c1 := hb.cell 1
 have c2 := hb.cell 2
 have HK := H_ ((Kp.refl (fun _ => False) w).alloc (.cells #[.int .i64 n, .int .u8 lo, .int .u8 hi] 376))
 clear hb
 show Calls _ _ #[.agg #[.int .i64 n, .int .u8 lo, .int .u8 hi], .int .i64 i, .int .u8 c] w _
 by_cases h0 : i = 1
 ·subst h0
  by_cases h1 : lo ≤ c
  ·have h1d : decide (lo ≤ c) = true := by simp [h1]
   by_cases h2 : c ≤ hi
   ·have h2d : decide (c ≤ hi) = true := by simp [h2]
    have HF : Hid (mayF (n, lo, hi) 1 c = true) := H_ (by simp [mayF, if_true, h1, h2])
    go_enter Tryz.func240, Tryz.ntmps240
    go_wp2
    go_ret
    exact ⟨by rw [HF.out]; rfl, HK.out⟩
   ·have h2d : decide (c ≤ hi) = false := by simp [h2]
    have HF : Hid (mayF (n, lo, hi) 1 c = false) := H_ (by simp [mayF, if_true, h2])
    go_enter Tryz.func240, Tryz.ntmps240
    go_wp2
    go_ret
    exact ⟨by rw [HF.out]; rfl, HK.out⟩
  ·have h1d : decide (lo ≤ c) = false := by simp [h1]
   have HF : Hid (mayF (n, lo, hi) 1 c = false) := H_ (by simp [mayF, if_true, h1])
   go_enter Tryz.func240, Tryz.ntmps240
   go_wp2
   go_ret
   exact ⟨by rw [HF.out]; rfl, HK.out⟩
 ·have e0 : (i == 1) = false := by simp [h0]
  by_cases h1 : 128 ≤ c
  ·have h1d : decide (128 ≤ c) = true := by simp [h1]
   by_cases h2 : c ≤ 191
   ·have h2d : decide (c ≤ 191) = true := by simp [h2]
    have HF : Hid (mayF (n, lo, hi) i c = true) := H_ (by simp [mayF, h0, h1, h2])
    go_enter Tryz.func240, Tryz.ntmps240
    go_wp2
    go_ret
    exact ⟨by rw [HF.out]; rfl, HK.out⟩
   ·have h2d : decide (c ≤ 191) = false := by simp [h2]
    have HF : Hid (mayF (n, lo, hi) i c = false) := H_ (by simp [mayF, h0, h2])
    go_enter Tryz.func240, Tryz.ntmps240
    go_wp2
    go_ret
    exact ⟨by rw [HF.out]; rfl, HK.out⟩
  ·have h1d : decide (128 ≤ c) = false := by simp [h1]
   have HF : Hid (mayF (n, lo, hi) i c = false) := H_ (by simp [mayF, h0, h1])
   go_enter Tryz.func240, Tryz.ntmps240
   go_wp2
   go_ret
   exact ⟨by rw [HF.out]; rfl, HK.out⟩
end Go.Proofs.YtplleficmkfniaaGreatDoor
