/- Texts. -/
import Derived.Test.YtdmcioghdindfaaGreatDoorL25
set_option linter.unusedSimpArgs false
set_option maxRecDepth 100000
set_option maxHeartbeats 4000000
namespace Go.Proofs.YtdmcioghdindfaaGreatDoor
open Go Go.RowKit Go.Aff Go.Json Go.Rng Go.Shelf
attribute [local go_sem] Oper.semAt_some
def keyAt (j : JV) (i : Nat) : ByteArray := j.keys.getD i ⟨#[]⟩
theorem refkey_any {D : Nat → Prop} (w : World) (v : Value) (j : JV) (hj : JAt D w v j) (i : Nat) (hi : i ≤ 1099511627776) :
  Calls Tryz.prog 108 #[.agg #[v], .int .i64 i] w fun e w' => e = .returned (.tuple #[.string (keyAt j i), .bool (decide (i < j.keys.length))]) ∧ Keeps (fun _ => False) w w' := by
 obtain ⟨A, c, hr, _, hc⟩ := keys_inv hj
 obtain ⟨T, y, hv⟩ := hj.iface
 subst hv
 obtain ⟨n, hn⟩ : ∃ n, n = j.keys.length := ⟨_, rfl⟩
 rw [← hn] at hr hc ⊢
 have c0 := (Blk.new w 81 [.iface T y]).cell 0
 have hkw : Keeps (fun _ => False) w (w.alloc (.cells #[.iface T y] 81)) := (Keeps.refl (fun _ => False) w).alloc _
 have HKW := H_ hkw
 have HC := H_ (hc _ hkw)
 have HR := H_ hr
 have HN := H_ hn
 clear hj hr hc hkw hn
 have d1 : decide ((i : Int) < 0) = false := decide_eq_false (by omega)
 by_cases hlt : i < n
 ·obtain ⟨g, o, s, hA, hs, _⟩ := textAt HR.out hlt
  have HKA : Hid (keyAt j i = s) := H_ (by unfold keyAt; rw [List.getD_eq_getElem?_getD, hs]; rfl)
  have HCK : Hid (∀ W, Keeps (fun _ => False) w W → W.cell? ⟨g, o + i, none⟩ = some (.string s)) := H_ fun W hW => by
   obtain ⟨g', o', s', e1, e2, e3⟩ := textAt (HR.out.keep hW (fun _ _ _ h => h)) hlt
   rw [hA] at e1
   injection e1 with e1
   injection e1 with e1 e4
   rw [hs] at e2
   injection e2 with e2
   subst e1 e4 e2
   exact e3
  have hdt : decide (i < n) = true := decide_eq_true hlt
  have hge : decide (n ≤ i) = false := decide_eq_false (by omega)
  rw [HKA.out, hdt]
  clear hdt
  subst hA
  clear hs
  go_enter Tryz.func108, Tryz.ntmps108
  go_wp2_with (go_at_call 73; refine HC.out.mono ?_; rintro e w2 ⟨rfl, hk2⟩; have ck := HCK.out _ (HKW.out.trans hk2 (fun _ _ h => h)); have HK2 := H_ hk2; clear hk2)
  go_ret2
  exact ⟨rfl, HKW.out.trans HK2.out (fun _ _ h => h)⟩
 have HKA : Hid (keyAt j i = ⟨#[]⟩) := H_ (by unfold keyAt; rw [List.getD_eq_getElem?_getD, List.getElem?_eq_none (by have := HN.out; omega)]; rfl)
 have hdt : decide (i < n) = false := decide_eq_false hlt
 rw [HKA.out, hdt]
 have hge : decide (n ≤ i) = true := decide_eq_true (by omega)
 clear hdt
 go_enter Tryz.func108, Tryz.ntmps108
 go_wp2_with (go_at_call 73; refine HC.out.mono ?_; rintro e w2 ⟨rfl, hk2⟩; have HK2 := H_ hk2; clear hk2)
 go_ret2
 exact ⟨rfl, HKW.out.trans HK2.out (fun _ _ h => h)⟩
theorem refall_any (w : World) (T : TypeId) (y : Value) : Calls Tryz.prog 67 #[.agg #[.iface T y]] w fun e w' => e = .returned (.func (.func 107) #[] #[.pointer (some ⟨w.heap.size, 0, none⟩)]) ∧ w' = w.alloc (.cells #[.iface T y] 81) := by
 go_enter Tryz.func67, Tryz.ntmps67
 go_wp2
 go_ret
 exact ⟨rfl, rfl⟩
def encA (j : JV) (vs : List Value) (i : Nat) : Array Value := #[.string (keyAt j i), .agg #[vs.getD i .nilIface]]
theorem keeps_put {F : Nat → Prop} (W : World) (l : Nat) (o : Obj) (hl : F l) : Keeps F W (W.putObj l o) :=
 ⟨rfl, rfl, rfl, by simp, fun i hi hn => World.putObj_heap_other (fun e => hn (by rw [e]; exact hl))⟩
theorem all_next (n : Nat) (F : Nat → Prop) {D : Nat → Prop} (w : World) (bx : Nat) (v : Value) (j : JV) (hb : Blk w bx 81 [v]) (hbF : ¬ F bx) (hj : JAt D w v j) (hD : ∀ i, D i → ¬ F i) (hF : ∀ i, w.heap.size ≤ i → F i) (hm : j.items.length ≤ 1099511627776) :
  ∃ A vs, Items D w j A vs ∧ SeqNext (α := Fin j.items.length) (fun pre i => i.val = pre.length) Fence.wide n Tryz.prog 107 #[.pointer (some ⟨bx, 0, none⟩)] (fun i => encA j vs i.val) (Keeps F) (fun xs => xs.map (·.val) = List.range j.items.length) (fun _ => True) w := by
 obtain ⟨A, c, vs, hit, hic⟩ := items_inv hj
 refine ⟨A, vs, hit, fun l J Jx W hW hJ hJx hY h0 => ?_⟩
 have hWk : Keeps (fun _ => False) w W := Keeps.of_below hW
 have hjW := hj.stay hWk
 obtain ⟨m, hmm⟩ : ∃ m, m = j.items.length := ⟨_, rfl⟩
 rw [← hmm] at hic hm
 have HIC := H_ hic
 have HIT := H_ hit
 have HW := H_ hWk
 have HJ := H_ hj
 have HDF := H_ (And.intro hD hF)
 have HM := H_ hmm
 have cb := (hWk.blk hb (fun h => h)).cell 0
 have HBB := H_ (And.intro hb hbF)
 have HY := H_ hY
 have HJJ := H_ (And.intro hJ hJx)
 have H0 := H_ h0
 have hdd : ∀ k : Nat, (Fence.wide.depth.isSome = true → 1 ≤ k) := fun k h => by cases h
 obtain ⟨T, y, hv⟩ := hj.iface
 subst hv
 clear hic hit hWk hj hjW hD hF hb hbF hY hJ hJx h0 hmm hW
 refine callsIn_of_wp Tryz.func107 rfl trivial ?_
 simp only [Tryz.ntmps107, List.size_toArray, List.length_cons, List.length_nil, Nat.reduceAdd, Nat.reduceSub, Array.replicate_succ, Array.replicate_zero, List.push_toArray, List.append_toArray, List.nil_append, List.cons_append]
 gi_wp2_with ((try refine ⟨trivial, ?_⟩); (try refine ⟨hdd _, ?_⟩); gi_at_call 74; refine (callsIn_wide.2 (HIC.out _ HW.out)).mono ?_; rintro e W1 ⟨rfl, hk1⟩; have HK1 := H_ hk1; clear hk1)
 gi_loopw [10] (fun i wr => ∃ (k : Nat) (pre : List (Fin j.items.length)), k ≤ m ∧ i = .int .i64 k ∧ Hid (pre.map (·.val) = List.range k ∧ J pre wr ∧ Keeps F W wr)) (fun i _ => m - (intOf i).toNat)
 case atStart => exact ⟨0, [], by omega, rfl, H_ ⟨rfl, HJJ.out.1 _ _ _ none H0.out (grown_keep HK1.out) (fun r e => by cases e), HK1.out.mono (fun _ _ h => h.elim)⟩⟩
 case round =>
  obtain ⟨k, pre, hkm, rfl, HP⟩ := hrel
  by_cases hlt : k < m
  ·have HKW : Hid (Keeps F w wr) := H_ ((HW.out.mono (fun _ _ h => h.elim)).trans HP.out.2.2 (fun _ _ h => h))
   obtain ⟨g, o, hA, hcl⟩ := (HIT.out.rd.keep HKW.out (HIT.out.inb.out HDF.out.1)).2 (by have := HM.out; omega)
   subst hA
   obtain ⟨u, hu⟩ : ∃ u, vs[k]? = some u := ⟨_, List.getElem?_eq_getElem (by have := HIT.out.rd.1; have := HM.out; omega)⟩
   obtain ⟨x, hx⟩ : ∃ x, j.items[k]? = some x := ⟨_, List.getElem?_eq_getElem (by have := HM.out; omega)⟩
   have ck : wr.cell? ⟨g, o + k, none⟩ = some u := by rw [hcl k (by have := HM.out; omega), hu]
   obtain ⟨T2, y2, hu2⟩ := (HIT.out.at_ k u x hu hx).iface
   subst hu2
   have hgd : vs.getD k .nilIface = .iface T2 y2 := by rw [List.getD_eq_getElem?_getD, hu]; rfl
   obtain ⟨KI, hKI⟩ : ∃ KI : Fin j.items.length, KI.val = k := ⟨⟨k, by have := HM.out; omega⟩, rfl⟩
   have HKI := H_ hKI
   have HKEY : Hid (∀ W2, Keeps (fun _ => False) wr W2 → Calls Tryz.prog 108 #[.agg #[.iface T y], .int .i64 k] W2 fun e w' => e = .returned (.tuple #[.string (keyAt j k), .bool (decide (k < j.keys.length))]) ∧ Hid (Keeps (fun _ => False) W2 w')) := H_ fun W2 hW2 =>
    (refkey_any W2 _ j ((HJ.out.keep HKW.out HDF.out.1).stay hW2) k (by omega)).mono fun e w' h => ⟨h.1, H_ h.2⟩
   have HYN : Hid (∀ W2, Keeps (fun _ => False) wr W2 → YieldAt Fence.wide (n - 1) Tryz.prog l #[.string (keyAt j k), .agg #[.iface T2 y2]] W2 fun e W' => (e = .returned (.bool true) ∧ Hid (J (pre ++ [KI]) W' ∧ Keeps F W2 W')) ∨ (e = .returned (.bool false) ∧ Hid (Jx (pre ++ [KI]) W'))) := H_ fun W2 hW2 => by
    have h1 := HY.out pre KI W2 (HJJ.out.1 _ _ _ none HP.out.2.1 (grown_keep hW2) (fun r e => by cases e)) (by
     have := congrArg List.length HP.out.1
     rw [List.length_map, List.length_range] at this
     rw [hKI]; exact this.symm)
    unfold encA at h1
    rw [hKI, hgd] at h1
    exact h1.mono fun e W' h => h.imp (fun h => ⟨h.1, H_ h.2⟩) (fun h => ⟨h.1, H_ h.2⟩)
   have cbr : ∀ W2, Keeps (fun _ => False) wr W2 → W2.cell? ⟨bx, 0, none⟩ = some (.iface T y) := fun W2 hW2 => (hW2.blk (HKW.out.blk HBB.out.1 HBB.out.2) (fun h => h)).cell 0
   have cb1 := cbr wr (Keeps.refl _ _)
   have HCB := H_ cbr
   obtain ⟨ky, hky⟩ : ∃ ky, ky = keyAt j k := ⟨_, rfl⟩
   obtain ⟨kb, hkb⟩ : ∃ kb, kb = decide (k < j.keys.length) := ⟨_, rfl⟩
   rw [← hky] at HYN HKEY
   rw [← hkb] at HKEY
   have hk0 : (0 : Int) ≤ (k : Int) := by omega
   have hkN : (k : Int) < (m : Int) := by omega
   clear hcl hu hx hgd cbr hky hkb cb hKI
   gi_wp2_with (first
    | ((try refine ⟨trivial, ?_⟩); (try refine ⟨hdd _, ?_⟩); gi_at_call 108; refine (callsIn_wide.2 (HKEY.out _ (Keeps.refl _ _))).mono ?_; rintro e W3 ⟨rfl, HK3⟩; have hyy := HYN.out W3 HK3.out; obtain ⟨fn, tmps, assign, body, hy, hR⟩ := hyy)
    | ((try refine ⟨hdd _, ?_⟩); refine hR.mono ?_; clear hR; rintro e W4 (⟨rfl, HJ4⟩ | ⟨rfl, HJ4⟩)))
   ·go_roundw
    case rel => exact ⟨k + 1, pre ++ [KI], by omega, by go_num, H_ ⟨by rw [List.map_append, HP.out.1, List.range_succ]; simp [HKI.out], HJ4.out.1, (HP.out.2.2.trans HK3.out (fun _ _ h => h.elim)).trans HJ4.out.2 (fun _ _ h => h)⟩⟩
    case measure => simp [intOf]; omega
   skip
   refine bodyPost_ret (results_none rfl _ _ _) rfl ?_
   exact ⟨⟨_, rfl⟩, .inr ⟨_, trivial, HJ4.out⟩⟩
  obtain rfl : k = m := by omega
  gi_wp2
  go_end0
  exact ⟨⟨_, rfl⟩, .inl ⟨pre, by rw [HP.out.1, HM.out], HP.out.2.1⟩⟩
end Go.Proofs.YtdmcioghdindfaaGreatDoor
namespace Go.Proofs.YtdmcioghdindfaaGreatDoor
open Go Go.RowKit Go.Aff Go.Json Go.Rng
def DC (D : Nat → Prop) (w : World) (i : Nat) : Prop := D i ∧ ∃ c t fr, w.heap[i]? = some (Obj.cells c t fr)
theorem cells_of_cell {w : World} {p : Addr} {v : Value} (h : w.cell? p = some v) : ∃ c t fr, w.heap[p.block]? = some (Obj.cells c t fr) := by
 unfold World.cell? at h
 split at h
 ·rename_i c t fr he; exact ⟨_, _, _, he⟩
 cases h
theorem inB_dc {D : Nat → Prop} {w : World} {A : Option Addr} {n : Nat} {xs : List Value} (h : InB D A n) (hr : Rd w A n xs) : InB (DC D w) A n := fun hn a e => by
 refine ⟨h hn a e, ?_⟩
 obtain ⟨g, o, e2, hc⟩ := hr.2 hn
 rw [e] at e2
 injection e2 with e2
 subst e2
 have h1 := hc 0 hn
 rw [List.getElem?_eq_getElem (by rw [hr.1]; exact hn)] at h1
 exact cells_of_cell h1
theorem blk_dc {D : Nat → Prop} {w : World} {b : Nat} {T : TypeId} {cs : List Value} (hD : D b) (hb : Blk w b T cs) : DC D w b := ⟨hD, _, _, _, hb⟩
theorem JAt.dc {D : Nat → Prop} {w : World} {v : Value} {j : JV} (h : JAt D w v j) : JAt (DC D w) w v j := by
 induction h with
 | null => exact .null
 | flag b => exact .flag b
 | num b h1 h2 h3 => exact .num b h1 h2 h3
 | text s => exact .text s
 | list hD hb hr ho _ ih => exact .list (blk_dc hD hb) hb hr (inB_dc ho hr) ih
 | obj hD hb hk hok hr ho _ ih => exact .obj (blk_dc hD hb) hb hk (inB_dc hok hk) hr (inB_dc ho hr) ih
theorem ck_keepC {m : Nat} {w w' : World} (h : CK m w w') : Keeps (fun i => ¬ ∃ c t fr, w.heap[i]? = some (Obj.cells c t fr)) w w' :=
 ⟨h.os, h.tape, h.output, h.size, fun i _ hn => by
  obtain ⟨c, t, fr, he⟩ := Classical.not_not.1 hn
  rw [he]
  exact h.cells i c t fr he⟩
theorem JAt.ck {D : Nat → Prop} {m : Nat} {w w' : World} {v : Value} {j : JV} (h : JAt D w v j) (k : CK m w w') : JAt D w' v j :=
 (h.dc.keep (ck_keepC k) fun _ hi hn => hn hi.2).mono fun _ hi _ => hi.1
inductive TAt (D : Nat → Prop) (w : World) : Value → JV → Prop
 | whole {it : Value} {j : JV} (h : JAt D w it j) (hs : j.sort ≠ 6) : TAt D w (.iface 150 (.agg #[it])) j
 | obj {b : Nat} {A B : Option Addr} {c d : Nat} {vs : List Value} {ks : List ByteArray} {l : List JV} {rf : Value} (hD : D b) (hb : Blk w b 84 [rf, .slice B ks.length d, .slice A l.length c]) (hrf : rf = .nilIface ∨ JAt D w rf (.obj ks l))
   (hk : Rd w B ks.length (ks.map .string)) (hok : InB D B ks.length) (hr : Rd w A l.length vs) (ho : InB D A l.length)
   (hl : ∀ (i : Nat) (v : Value) (j : JV), vs[i]? = some v → l[i]? = some j → TAt D w v j) : TAt D w (.iface 73 (.pointer (some ⟨b, 0, none⟩))) (.obj ks l)
theorem TAt.keep {D F : Nat → Prop} {w w' : World} {v : Value} {j : JV} (h : TAt D w v j) (hk : Keeps F w w') (hF : ∀ i, D i → ¬ F i) : TAt D w' v j := by
 induction h with
 | whole h hs => exact .whole (h.keep hk hF) hs
 | obj hD hb hrf hk2 hok hr ho _ ih => exact .obj hD (hk.blk hb (hF _ hD)) (hrf.imp id fun h => h.keep hk hF) (hk2.keep hk (hok.out hF)) hok (hr.keep hk (ho.out hF)) ho ih
theorem TAt.stay {D : Nat → Prop} {w w' : World} {v : Value} {j : JV} (h : TAt D w v j) (hk : Keeps (fun _ => False) w w') : TAt D w' v j := h.keep hk (fun _ _ h => h)
theorem TAt.mono {D C : Nat → Prop} {w : World} {v : Value} {j : JV} (h : TAt D w v j) (hC : ∀ i, D i → i < w.heap.size → C i) : TAt C w v j := by
 induction h with
 | whole h hs => exact .whole (h.mono hC) hs
 | obj hD hb hrf hk2 hok hr ho _ ih => exact .obj (hC _ hD hb.lt) hb (hrf.imp id fun h => h.mono hC) hk2 (Rd.inB hk2 hok hC) hr (Rd.inB hr ho hC) ih
theorem TAt.dc {D : Nat → Prop} {w : World} {v : Value} {j : JV} (h : TAt D w v j) : TAt (DC D w) w v j := by
 induction h with
 | whole h hs => exact .whole h.dc hs
 | obj hD hb hrf hk2 hok hr ho _ ih => exact .obj (blk_dc hD hb) hb (hrf.imp id fun h => h.dc) hk2 (inB_dc hok hk2) hr (inB_dc ho hr) ih
theorem TAt.ck {D : Nat → Prop} {m : Nat} {w w' : World} {v : Value} {j : JV} (h : TAt D w v j) (k : CK m w w') : TAt D w' v j :=
 (h.dc.keep (ck_keepC k) fun _ hi hn => hn hi.2).mono fun _ hi _ => hi.1
theorem TAt.one {D : Nat → Prop} {w : World} {v : Value} {j : JV} (h : TAt D w v j) : v.oneCell' = true := by cases h <;> rfl
theorem TAt.iface {D : Nat → Prop} {w : World} {v : Value} {j : JV} (h : TAt D w v j) : ∃ T y, v = .iface T y := by cases h <;> exact ⟨_, _, rfl⟩
inductive TAtR (D : Nat → Prop) (w : World) : Value → JV → Prop
 | whole {it : Value} {j : JV} (h : JAt D w it j) (hs : j.sort ≠ 6) : TAtR D w (.iface 150 (.agg #[it])) j
 | obj {b : Nat} {A B : Option Addr} {c d : Nat} {vs : List Value} {ks : List ByteArray} {l : List JV} {rf : Value} (hD : D b) (hb : Blk w b 84 [rf, .slice B ks.length d, .slice A l.length c]) (hrf : JAt D w rf (.obj ks l))
   (hk : Rd w B ks.length (ks.map .string)) (hok : InB D B ks.length) (hr : Rd w A l.length vs) (ho : InB D A l.length)
   (hl : ∀ (i : Nat) (v : Value) (j : JV), vs[i]? = some v → l[i]? = some j → TAtR D w v j) : TAtR D w (.iface 73 (.pointer (some ⟨b, 0, none⟩))) (.obj ks l)
theorem TAtR.keep {D F : Nat → Prop} {w w' : World} {v : Value} {j : JV} (h : TAtR D w v j) (hk : Keeps F w w') (hF : ∀ i, D i → ¬ F i) : TAtR D w' v j := by
 induction h with
 | whole h hs => exact .whole (h.keep hk hF) hs
 | obj hD hb hrf hk2 hok hr ho _ ih => exact .obj hD (hk.blk hb (hF _ hD)) (hrf.keep hk hF) (hk2.keep hk (hok.out hF)) hok (hr.keep hk (ho.out hF)) ho ih
theorem TAtR.stay {D : Nat → Prop} {w w' : World} {v : Value} {j : JV} (h : TAtR D w v j) (hk : Keeps (fun _ => False) w w') : TAtR D w' v j := h.keep hk (fun _ _ h => h)
theorem TAtR.mono {D C : Nat → Prop} {w : World} {v : Value} {j : JV} (h : TAtR D w v j) (hC : ∀ i, D i → i < w.heap.size → C i) : TAtR C w v j := by
 induction h with
 | whole h hs => exact .whole (h.mono hC) hs
 | obj hD hb hrf hk2 hok hr ho _ ih => exact .obj (hC _ hD hb.lt) hb (hrf.mono hC) hk2 (Rd.inB hk2 hok hC) hr (Rd.inB hr ho hC) ih
theorem TAtR.dc {D : Nat → Prop} {w : World} {v : Value} {j : JV} (h : TAtR D w v j) : TAtR (DC D w) w v j := by
 induction h with
 | whole h hs => exact .whole h.dc hs
 | obj hD hb hrf hk2 hok hr ho _ ih => exact .obj (blk_dc hD hb) hb hrf.dc hk2 (inB_dc hok hk2) hr (inB_dc ho hr) ih
theorem TAtR.ck {D : Nat → Prop} {m : Nat} {w w' : World} {v : Value} {j : JV} (h : TAtR D w v j) (k : CK m w w') : TAtR D w' v j :=
 (h.dc.keep (ck_keepC k) fun _ hi hn => hn hi.2).mono fun _ hi _ => hi.1
theorem TAtR.loose {D : Nat → Prop} {w : World} {v : Value} {j : JV} (h : TAtR D w v j) : TAt D w v j := by
 induction h with
 | whole h hs => exact .whole h hs
 | obj hD hb hrf hk2 hok hr ho _ ih => exact .obj hD hb (.inr hrf) hk2 hok hr ho ih
theorem TAtR.iface {D : Nat → Prop} {w : World} {v : Value} {j : JV} (h : TAtR D w v j) : ∃ T y, v = .iface T y := by cases h <;> exact ⟨_, _, rfl⟩
theorem TAtR.ref {D : Nat → Prop} {w : World} {v : Value} {j : JV} (h : TAtR D w v j) : (∃ it, v = .iface 150 (.agg #[it]) ∧ JAt D w it j) ∨ ∃ b rf a1 a2, v = .iface 73 (.pointer (some ⟨b, 0, none⟩)) ∧ Blk w b 84 [rf, a1, a2] ∧ JAt D w rf j := by
 cases h with
 | whole h hs => exact .inl ⟨_, rfl, h⟩
 | obj hD hb hrf hk2 hok hr ho _ => exact .inr ⟨_, _, _, _, rfl, hb, hrf⟩
theorem mineS_ck {s m : Nat} {w W W' : World} {e : TypeId} {A : Option Addr} {n c : Nat} {xs : List Value} (h : MineS s w W e A n c xs) (k : CK m W W') (hm : w.heap.size ≤ m) : MineS s w W' e A n c xs :=
 ⟨k.own h.1, k.keeps h.2.1 hm, h.2.2⟩
theorem boxTwo_ck {w W W' : World} {b m0 : Nat} {T e f : TypeId} {cs : List Value} {s t : Nat} {A B : Option Addr} {n c m d : Nat} {xs ys : List Value} (h : BoxTwo w W b T cs e s A n c xs f t B m d ys) (k : CK m0 W W') (hm : w.heap.size ≤ m0) : BoxTwo w W' b T cs e s A n c xs f t B m d ys :=
 ⟨⟨mineS_ck h.two.a k hm, mineS_ck h.two.b k hm, h.two.ap⟩, k.blk h.blk, h.lo, h.na, h.nb⟩
theorem infoThing : (Tryz.prog.info? 71).map (fun i => (i.zero, i.size, i.bytes)) = some (some .nilIface, 1, 16) := by kernel_rfl
end Go.Proofs.YtdmcioghdindfaaGreatDoor
namespace Go
section
variable {P : Program} {ops : Array Oper} {Q : Exit → Act → World → Prop} {md : Region.Mode} {S R : World → Prop} {z : Nat}
def wpAnyV (P : Program) (md : Region.Mode) (ops : Array Oper) (Q : Exit → Act → World → Prop) (S R : World → Prop) (z : Nat) (fuel : Nat) : Array Bool → Act → World → Prop :=
 match fuel with
 | 0 => fun l a w => Region.ready md ops l = [] ∧ Q .normal a w
 | f + 1 => fun l a w => (Region.ready md ops l = [] → Q .normal a w) ∧ ∀ k, k ∈ Region.ready md ops l → wpOp P ops Q k (fun a' w' => ((z ≤ k ∨ (S w → S w')) ∧ (R w → R w')) ∧ wpAnyV P md ops Q S R z f (l.setIfInBounds k true) a' w') a w
theorem wpAny_of_V (f : Nat) : ∀ (l : Array Bool) (a : Act) (w : World), wpAnyV P md ops Q S R z f l a w → wpAny P md ops Q f l a w := by
 induction f with
 | zero => exact fun _ _ _ h => h
 | succ f ih => exact fun l a w h => ⟨h.1, fun k hk => wpOp_mono (fun a' w' h' => ih _ a' w' h'.2) (h.2 k hk)⟩
theorem wpAnyV_first {i : Nat} {U : List Nat} {oi : Oper} {v : Value} (hi : ops[i]? = some oi) (hsel : ∀ (j : Nat) (o : Oper) cs b, ops[j]? = some o → o.op ≠ .select cs b) (hc : covers md ops z i U = true)
  (hQ : ∀ c a w, Q (.panic c) (a.put oi.dst v) w → Q (.panic c) a w) (f : Nat) :
  ∀ (l : Array Bool) (a : Act) (w : World), (∀ j oj, ops[j]? = some oj → j ≠ i → l.getD j true = false → (∀ e ∈ oj.after, Region.binds md e = true → e.on ≠ i) → oi.apart ops oj = true) →
   i ∈ Region.ready md ops l → undone l U = true → YieldsIf P ops S oi v a → S w → wpAnyV P md ops Q S R z f (l.setIfInBounds i true) (a.put oi.dst v) w → wpAnyV P md ops Q S R z (f + 1) l a w := by
 induction f with
 | zero =>
  intro l a w _ hr hu hy hS H
  refine ⟨fun h => (by rw [h] at hr; cases hr), fun j hj => ?_⟩
  by_cases hji : j = i
  ·subst hji; exact hy.wpOp hi hS ⟨⟨.inr id, id⟩, H⟩
  have := ready_mono hj hji
  rw [H.1] at this
  cases this
 | succ f ih =>
  intro l a w hfree hr hu hy hS H
  refine ⟨fun h => (by rw [h] at hr; cases hr), fun j hj => ?_⟩
  by_cases hji : j = i
  ·subst hji; exact hy.wpOp hi hS ⟨⟨.inr id, id⟩, H⟩
  have h1 := H.2 j (ready_mono hj hji)
  obtain ⟨hjun, oj, hoj, _⟩ := mem_ready.1 hj
  obtain ⟨hjU, hjz⟩ := covers_not hc hu hj hji
  have hu' : undone (l.setIfInBounds j true) U = true := List.all_eq_true.2 fun q hq => by
   have hjq : j ≠ q := fun e => hjU (by rw [e]; exact hq)
   rw [getD_set_ne true hjq, undone_at hu hq]
   rfl
  have hnot : ∀ e ∈ oj.after, Region.binds md e = true → e.on ≠ i := fun e he hb heq =>
   waits_not_ready (j := j) (by unfold Region.waitsFor; rw [hoj]; simp only [Array.any_eq_true']; exact ⟨e, he, by rw [hb, heq]; simp⟩) hr hj
  have h2 := wpOp_putIf hoj (hfree j oj hoj hji hjun hnot) (fun cs b => hsel i oi cs b hi) (fun cs b => hsel j oj cs b hoj) hQ hy h1
  refine wpOp_mono (fun a' w' h3 => ?_) h2
  have hSw := h3.2.1.1.resolve_left hjz hS
  refine ⟨⟨.inr fun _ => hSw, h3.2.1.2⟩, ih (l.setIfInBounds j true) a' w' (fun k ok hk hki hun hno => hfree k ok hk hki ?_ hno) (ready_mono hr (Ne.symm hji)) hu' h3.1 hSw ?_⟩
  ·by_cases hjk : j = k
   ·subst hjk; exact hjun
   rw [getD_set_ne true hjk] at hun; exact hun
  rw [Array.setIfInBounds_comm _ _ hji]
  exact h3.2.2
theorem wpAnyV_pure0 {i : Nat} {oi : Oper} {v : Value} (hi : ops[i]? = some oi) (hsel : ∀ (j : Nat) (o : Oper) cs b, ops[j]? = some o → o.op ≠ .select cs b)
  (hQ : ∀ c a w, Q (.panic c) (a.put oi.dst v) w → Q (.panic c) a w) (f : Nat) :
  ∀ (l : Array Bool) (a : Act) (w : World), (∀ j oj, ops[j]? = some oj → j ≠ i → l.getD j true = false → (∀ e ∈ oj.after, Region.binds md e = true → e.on ≠ i) → oi.apart ops oj = true) →
   i ∈ Region.ready md ops l → YieldsIf P ops (fun _ => True) oi v a → wpAnyV P md ops Q S R z f (l.setIfInBounds i true) (a.put oi.dst v) w → wpAnyV P md ops Q S R z (f + 1) l a w := by
 induction f with
 | zero =>
  intro l a w _ hr hy H
  refine ⟨fun h => (by rw [h] at hr; cases hr), fun j hj => ?_⟩
  by_cases hji : j = i
  ·subst hji; exact hy.wpOp hi trivial ⟨⟨.inr id, id⟩, H⟩
  have := ready_mono hj hji
  rw [H.1] at this
  cases this
 | succ f ih =>
  intro l a w hfree hr hy H
  refine ⟨fun h => (by rw [h] at hr; cases hr), fun j hj => ?_⟩
  by_cases hji : j = i
  ·subst hji; exact hy.wpOp hi trivial ⟨⟨.inr id, id⟩, H⟩
  have h1 := H.2 j (ready_mono hj hji)
  obtain ⟨hjun, oj, hoj, _⟩ := mem_ready.1 hj
  have hnot : ∀ e ∈ oj.after, Region.binds md e = true → e.on ≠ i := fun e he hb heq =>
   waits_not_ready (j := j) (by unfold Region.waitsFor; rw [hoj]; simp only [Array.any_eq_true']; exact ⟨e, he, by rw [hb, heq]; simp⟩) hr hj
  have h2 := wpOp_putIf hoj (hfree j oj hoj hji hjun hnot) (fun cs b => hsel i oi cs b hi) (fun cs b => hsel j oj cs b hoj) hQ hy h1
  refine wpOp_mono (fun a' w' h3 => ?_) h2
  refine ⟨h3.2.1, ih (l.setIfInBounds j true) a' w' (fun k ok hk hki hun hno => hfree k ok hk hki ?_ hno) (ready_mono hr (Ne.symm hji)) h3.1 ?_⟩
  ·by_cases hjk : j = k
   ·subst hjk; exact hjun
   rw [getD_set_ne true hjk] at hun; exact hun
  rw [Array.setIfInBounds_comm _ _ hji]
  exact h3.2.2
theorem wpAnyV_first0R {i : Nat} {oi : Oper} {v : Value} (hi : ops[i]? = some oi) (hsel : ∀ (j : Nat) (o : Oper) cs b, ops[j]? = some o → o.op ≠ .select cs b)
  (hQ : ∀ c a w, Q (.panic c) (a.put oi.dst v) w → Q (.panic c) a w) (f : Nat) :
  ∀ (l : Array Bool) (a : Act) (w : World), (∀ j oj, ops[j]? = some oj → j ≠ i → l.getD j true = false → (∀ e ∈ oj.after, Region.binds md e = true → e.on ≠ i) → oi.apart ops oj = true) →
   i ∈ Region.ready md ops l → YieldsIf P ops R oi v a → R w → wpAnyV P md ops Q S R z f (l.setIfInBounds i true) (a.put oi.dst v) w → wpAnyV P md ops Q S R z (f + 1) l a w := by
 induction f with
 | zero =>
  intro l a w _ hr hy hR H
  refine ⟨fun h => (by rw [h] at hr; cases hr), fun j hj => ?_⟩
  by_cases hji : j = i
  ·subst hji; exact hy.wpOp hi hR ⟨⟨.inr id, id⟩, H⟩
  have := ready_mono hj hji
  rw [H.1] at this
  cases this
 | succ f ih =>
  intro l a w hfree hr hy hR H
  refine ⟨fun h => (by rw [h] at hr; cases hr), fun j hj => ?_⟩
  by_cases hji : j = i
  ·subst hji; exact hy.wpOp hi hR ⟨⟨.inr id, id⟩, H⟩
  have h1 := H.2 j (ready_mono hj hji)
  obtain ⟨hjun, oj, hoj, _⟩ := mem_ready.1 hj
  have hnot : ∀ e ∈ oj.after, Region.binds md e = true → e.on ≠ i := fun e he hb heq =>
   waits_not_ready (j := j) (by unfold Region.waitsFor; rw [hoj]; simp only [Array.any_eq_true']; exact ⟨e, he, by rw [hb, heq]; simp⟩) hr hj
  have h2 := wpOp_putIf hoj (hfree j oj hoj hji hjun hnot) (fun cs b => hsel i oi cs b hi) (fun cs b => hsel j oj cs b hoj) hQ hy h1
  refine wpOp_mono (fun a' w' h3 => ?_) h2
  refine ⟨h3.2.1, ih (l.setIfInBounds j true) a' w' (fun k ok hk hki hun hno => hfree k ok hk hki ?_ hno) (ready_mono hr (Ne.symm hji)) h3.1 (h3.2.1.2 hR) ?_⟩
  ·by_cases hjk : j = k
   ·subst hjk; exact hjun
   rw [getD_set_ne true hjk] at hun; exact hun
  rw [Array.setIfInBounds_comm _ _ hji]
  exact h3.2.2
theorem wpAnyV_takeR {i : Nat} {oi : Oper} {v : Value} {fuel : Nat} {l : Array Bool} {a : Act} {w : World} (hi : ops[i]? = some oi)
  (hs : Region.noSelect ops = true) (hf : Region.free md ops l i = true) (hr : (Region.ready md ops l).contains i = true)
  (hQ : ∀ c a w, Q (.panic c) (a.put oi.dst v) w → Q (.panic c) a w) (hy : YieldsIf P ops R oi v a) (hR : R w)
  (h : wpAnyV P md ops Q S R z fuel (l.setIfInBounds i true) (a.put oi.dst v) w) : wpAnyV P md ops Q S R z (fuel + 1) l a w :=
 wpAnyV_first0R hi (Region.noSelect_spec hs) hQ fuel l a w (Region.free_spec hi hf) (by simpa using hr) hy hR h
theorem wpAnyV_pure {i : Nat} {oi : Oper} {v : Value} {fuel : Nat} {l : Array Bool} {a : Act} {w : World} (hi : ops[i]? = some oi)
  (hs : Region.noSelect ops = true) (hf : Region.free md ops l i = true) (hr : (Region.ready md ops l).contains i = true)
  (hQ : ∀ c a w, Q (.panic c) (a.put oi.dst v) w → Q (.panic c) a w) (hy : YieldsIf P ops (fun _ => True) oi v a)
  (h : wpAnyV P md ops Q S R z fuel (l.setIfInBounds i true) (a.put oi.dst v) w) : wpAnyV P md ops Q S R z (fuel + 1) l a w :=
 wpAnyV_pure0 hi (Region.noSelect_spec hs) hQ fuel l a w (Region.free_spec hi hf) (by simpa using hr) hy h
theorem wpAnyV_take (U : List Nat) {i : Nat} {oi : Oper} {v : Value} {fuel : Nat} {l : Array Bool} {a : Act} {w : World} (hi : ops[i]? = some oi)
  (hs : Region.noSelect ops = true) (hz : covers md ops z i U = true) (hu : undone l U = true) (hf : Region.free md ops l i = true) (hr : (Region.ready md ops l).contains i = true)
  (hQ : ∀ c a w, Q (.panic c) (a.put oi.dst v) w → Q (.panic c) a w) (hy : YieldsIf P ops S oi v a) (hS : S w)
  (h : wpAnyV P md ops Q S R z fuel (l.setIfInBounds i true) (a.put oi.dst v) w) : wpAnyV P md ops Q S R z (fuel + 1) l a w :=
 wpAnyV_first hi (Region.noSelect_spec hs) hz hQ fuel l a w (Region.free_spec hi hf) (by simpa using hr) hu hy hS h
theorem wpAnyV_step (hSR : ∀ w, S w → R w) {i : Nat} {o : Oper} {fuel : Nat} {l : Array Bool} {a : Act} {w : World} (hr : Region.ready md ops l = [i]) (ho : ops[i]? = some o)
  (h : ∀ K : Act → World → Prop, Shut (∀ a w, S w → (S w → wpAnyV P md ops Q S R z fuel (l.setIfInBounds i true) a w) → K a w) → if Region.wanted o (yielded ops a.tmps) = true then Oper.wp P o a w K Q else K (a.put o.dst undef) w) :
  wpAnyV P md ops Q S R z (fuel + 1) l a w := by
 refine ⟨fun h0 => (by rw [hr] at h0; cases h0), fun j hj => ?_⟩
 rw [hr] at hj
 obtain rfl := List.mem_singleton.1 hj
 exact wpOp_step ho (fun K hK => h K (fun a w hS hW => hK a w ⟨⟨.inr fun _ => hS, fun _ => hSR w hS⟩, hW hS⟩))
theorem wpAnyV_tail {i : Nat} {o : Oper} {fuel : Nat} {l : Array Bool} {a : Act} {w : World} (hr : Region.ready md ops l = [i]) (hzi : Nat.ble z i = true) (ho : ops[i]? = some o)
  (h : ∀ K : Act → World → Prop, Shut (∀ a w, R w → (R w → wpAnyV P md ops Q S R z fuel (l.setIfInBounds i true) a w) → K a w) → if Region.wanted o (yielded ops a.tmps) = true then Oper.wp P o a w K Q else K (a.put o.dst undef) w) :
  wpAnyV P md ops Q S R z (fuel + 1) l a w := by
 refine ⟨fun h0 => (by rw [hr] at h0; cases h0), fun j hj => ?_⟩
 rw [hr] at hj
 obtain rfl := List.mem_singleton.1 hj
 exact wpOp_step ho (fun K hK => h K (fun a w hR hW => hK a w ⟨⟨.inl (Nat.le_of_ble_eq_true hzi), fun _ => hR⟩, hW hR⟩))
theorem wpAnyV_done {fuel : Nat} {l : Array Bool} {a : Act} {w : World} (hr : Region.ready md ops l = []) (hQ : Q .normal a w) : wpAnyV P md ops Q S R z fuel l a w := by
 cases fuel with
 | zero => exact ⟨hr, hQ⟩
 | succ f => exact ⟨fun _ => hQ, by rw [hr]; intro k hk; cases hk⟩
theorem wpIn_round_tail2 {r n : Nat} {id : Nat} {a : Act} {w : World} (z : Nat) (hQ : ¬ LetsOut Q) (hd : noDefer ops = true) (hm : P.follows .mixedOrders = true) (hS : S w.drew)
  (h : S w.drew → wpAnyV P .any ops Q S R z ops.size (Array.replicate ops.size false) a w.drew) : (Code.region id ops true).wpIn (Fence.wide.inRound r) n P Q a w :=
 wpIn_round_any hQ hd hm (wpAny_of_V _ _ _ _ (h hS))
end
end Go
