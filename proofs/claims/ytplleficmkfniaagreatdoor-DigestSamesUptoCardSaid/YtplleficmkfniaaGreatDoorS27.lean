/- Texts. -/
import Derived.RangeFuncCalls
import Derived.OwnWalkIn
import Derived.OrdersIn
import Derived.RangeFuncNested
import Derived.RangeFuncBound
import Derived.RangeFuncLeaves
import Derived.RangeFuncWrites
import Derived.Shelf.RegionOpen
import Derived.TacticsInMore
import Derived.LoopNIn
import Derived.LoopIn
import Derived.Laws.EntriesVeiled
import Derived.Test.YtplleficmkfniaaGreatDoorS11
set_option linter.unusedSimpArgs false
set_option maxRecDepth 100000
set_option maxHeartbeats 4000000
namespace Go
section
variable {P : Program} {ops : Array Oper} {Q : Exit → Act → World → Prop} {r n : Nat}
end
end Go
namespace Go.Rng
open Go Go.RowKit Go.Aff
def SeqNext {α : Type} (ok : List α → α → Prop) (F : Fence) (n : Nat) (P : Program) (g : Nat) (lb : Array Value) (encs : α → Array Value) (Kp : World → World → Prop) (S Sp : List α → Prop) (w : World) : Prop :=
 ∀ (l : Nat) (J Jx : List α → World → Prop) (W : World), Below w.heap.size w W → AbidesFrom W.heap.size J → AbidesFrom W.heap.size Jx →
  (∀ pre x W1, J pre W1 → ok pre x → YieldAt F (n - 1) P l (encs x) W1 fun e W' =>
   (e = .returned (.bool true) ∧ J (pre ++ [x]) W' ∧ Kp W1 W') ∨ (e = .returned (.bool false) ∧ Jx (pre ++ [x]) W')) →
  J [] W →
  CallsIn F n P g (#[.func (.yield l) #[] #[]] ++ lb) W fun e W' => (∃ v, e = .returned v) ∧ ((∃ xs, S xs ∧ J xs W') ∨ (∃ pre, Sp pre ∧ Jx pre W'))
theorem grown_keep {W W' : World} (h : Keeps (fun _ => False) W W') : W.grownBy W' none := ⟨h.os, h.tape, h.output, h.size, fun k hk _ => h.block k hk (fun h => h)⟩
structure Stands (W : World) (L : Nat) (r : Loop) (st : LoopState) (pe : Option Code) : Prop where
 rec_ : W.heap[L + 1]? = some (.loop { r with state := st, pending := pe })
 defs : W.heap[L]? = some (.deferred (some []))
section
variable {W W' : World} {L B : Nat} {r : Loop} {st st' : LoopState} {pe pe' : Option Code}
theorem Stands.turn (h : Stands W L r st pe) : Stands (W.putObj (L + 1) (.loop { r with state := st', pending := pe' })) L r st' pe' :=
 ⟨World.putObj_heap_same (Array.getElem?_eq_some_iff.1 h.rec_).1, (World.putObj_heap_other (by omega)).trans h.defs⟩
theorem Stands.from (h : Stands W L r st pe) (k : KeepsFrom B W W') (hB : B ≤ L) : Stands W' L r st pe := ⟨k.same _ _ (by omega) h.rec_ rfl, k.same _ _ hB h.defs rfl⟩
theorem Stands.grown {row : Option Nat} (h : Stands W L r st pe) (hg : W.grownBy W' row) (hr : ∀ k, row = some k → ∃ o : Obj, W.heap[k]? = some o ∧ o.isWalk = true) : Stands W' L r st pe :=
 ⟨(grownBy_keeps hg hr h.rec_ rfl).trans h.rec_, (grownBy_keeps hg hr h.defs rfl).trans h.defs⟩
theorem Stands.new (w : World) (r : Loop) : Stands ((w.alloc (.deferred (some []))).alloc (.loop r)) w.heap.size r r.state r.pending := by
 refine ⟨?_, (Below.heap_alloc _ _ _ (by simp)).trans (World.alloc_heap_new w _)⟩
 have h := World.alloc_heap_new (w.alloc (.deferred (some []))) (.loop r)
 rw [World.size_alloc] at h
 exact h
end
structure CK (m : Nat) (W W' : World) : Prop where
 os : W'.os = W.os
 tape : W'.tape = W.tape
 output : W'.output = W.output
 size : W.heap.size ≤ W'.heap.size
 low : ∀ k, k < m → k < W.heap.size → W'.heap[k]? = W.heap[k]?
 cells : ∀ (k : Nat) (c : Array Value) (t : TypeId) (fr : Nat × Nat), W.heap[k]? = some (Obj.cells c t fr) → W'.heap[k]? = some (Obj.cells c t fr)
theorem ownFrom_cells {β : Type} (m : Nat) (I : β → World → Prop) (h : ∀ s W W', I s W → CK m W W' → I s W') : OwnFrom m I := fun s W W' row hs hg hr =>
 h s W W' hs ⟨hg.os, hg.tape, hg.output, hg.size, fun k hk hl => hg.block k hl (fun e => by have := (hr k e.symm).1; omega),
  fun k c t fr hk => (hg.block k (Array.getElem?_eq_some_iff.1 hk).1 (fun e => by
   obtain ⟨_, o, ho, hc⟩ := hr k e.symm
   rw [hk] at ho
   injection ho with ho
   subst ho
   simp [Obj.isCells] at hc)).trans hk⟩
section
variable {m : Nat} {w W W' : World}
theorem CK.putObj {l : Nat} {o : Obj} (h : W.heap[l]? = some o) (ho : o.isCells = false) (hm : m ≤ l) (o' : Obj) : CK m W (W.putObj l o') :=
 ⟨rfl, rfl, rfl, by simp, fun k hk _ => World.putObj_heap_other (by omega), fun k c t fr hk => (World.putObj_heap_other (fun e => by
  subst e
  rw [hk] at h
  injection h with h
  subst h
  simp [Obj.isCells] at ho)).trans hk⟩
theorem CK.keeps {F : Nat → Prop} (h : CK m W W') (hk : Keeps F w W) (hm : w.heap.size ≤ m) : Keeps F w W' :=
 ⟨h.os.trans hk.os, h.tape.trans hk.tape, h.output.trans hk.output, Nat.le_trans hk.size h.size, fun i hi hn => (h.low i (by omega) (Nat.lt_of_lt_of_le hi hk.size)).trans (hk.block i hi hn)⟩
theorem CK.blk {g : Nat} {t : TypeId} {cs : List Value} (h : CK m W W') (hb : Blk W g t cs) : Blk W' g t cs := h.cells _ _ _ _ hb
theorem CK.own {base : Nat} {e : TypeId} {size n : Nat} {v : Value} {xs : List Value} (h : CK m W W') (ho : W.ownsRow base e size v n xs) : W'.ownsRow base e size v n xs := by
 refine ⟨ho.1, ?_⟩
 rcases ho.2 with hz | ⟨g, cap, cur, hv, hb, hg, rest⟩
 ·exact .inl hz
 ·exact .inr ⟨g, cap, cur, hv, hb, h.cells _ _ _ _ hg, rest⟩
theorem keepsFrom_of {F : Nat → Prop} (B : Nat) (hk : Keeps F W W') (hF : ∀ i, F i → ∃ c t fr, W.heap[i]? = some (Obj.cells c t fr)) : KeepsFrom B W W' :=
 ⟨hk.size, fun k o _ ho hc => (hk.block k (Array.getElem?_eq_some_iff.1 ho).1 (fun hf => by
  obtain ⟨c, t, fr, h⟩ := hF k hf
  rw [ho] at h
  injection h with h
  subst h
  simp [Obj.isCells] at hc)).trans ho⟩
end
theorem own_cells {W : World} {base : Nat} {e : TypeId} {size n : Nat} {v : Value} {xs : List Value} (ho : W.ownsRow base e size v n xs) : ∀ g, v.ownBlock = some g → ∃ c t fr, W.heap[g]? = some (Obj.cells c t fr) := fun g hg => by
 rcases ho.2 with ⟨hz, _⟩ | ⟨g', cap, cur, hv, hb, hh, rest⟩
 ·rw [hz] at hg; cases hg
 ·rw [hv] at hg
  injection hg with hg
  subst hg
  exact ⟨_, _, _, hh⟩
end Go.Rng
namespace Go.Proofs.YtplleficmkfniaaGreatDoor
open Go Go.RowKit Go.Aff Go.Json Go.Rng Go.Shelf
attribute [local go_sem] Oper.semAt_some
def keyAt (j : JV) (i : Nat) : ByteArray := j.keys.getD i ⟨#[]⟩
theorem refkey_any {D : Nat → Prop} (w : World) (v : Value) (j : JV) (hj : JAt D w v j) (i : Nat) (hi : i ≤ 1099511627776) :
  Calls Tryz.prog 96 #[.agg #[v], .int .i64 i] w fun e w' => e = .returned (.tuple #[.string (keyAt j i), .bool (decide (i < j.keys.length))]) ∧ Keeps (fun _ => False) w w' := by
 obtain ⟨A, c, hr, _, hc⟩ := keys_inv hj
 obtain ⟨T, y, hv⟩ := hj.iface
 subst hv
 obtain ⟨n, hn⟩ : ∃ n, n = j.keys.length := ⟨_, rfl⟩
 rw [← hn] at hr hc ⊢
 have c0 := (Blk.new w 95 [.iface T y]).cell 0
 have hkw : Keeps (fun _ => False) w (w.alloc (.cells #[.iface T y] 95)) := (Keeps.refl (fun _ => False) w).alloc _
 have HKW := H_ hkw
 have HC := H_ (hc _ hkw)
 have HR := H_ hr
 have HN := H_ hn
 clear hj hr hc hkw hn
 have d1 : decide ((i : Int) < 0) = false := decide_eq_false (by omega)
 by_cases hlt : i < n
 ·obtain ⟨g, o, s, hA, hs, _⟩ := textAt HR.out hlt
  have HKA : Hid (keyAt j i = s) := H_ (by unfold keyAt; rw [List.getD_eq_getElem?_getD, hs]; rfl)
  have HCK : Hid (∀ W, Keeps (fun _ => False) w W → W.cell? ⟨g, o + i, none⟩ = some (.string s)) := H_ fun W hW => by
   obtain ⟨g', o', s', e1, e2, e3⟩ := textAt (HR.out.keep hW (fun _ _ _ h => h)) hlt
   rw [hA] at e1
   injection e1 with e1
   injection e1 with e1 e4
   rw [hs] at e2
   injection e2 with e2
   subst e1 e4 e2
   exact e3
  have hdt : decide (i < n) = true := decide_eq_true hlt
  have hge : decide (n ≤ i) = false := decide_eq_false (by omega)
  rw [HKA.out, hdt]
  clear hdt
  subst hA
  clear hs
  go_enter Tryz.func96, Tryz.ntmps96
  go_wp2_with (go_at_call 83; refine HC.out.mono ?_; rintro e w2 ⟨rfl, hk2⟩; have ck := HCK.out _ (HKW.out.trans hk2 (fun _ _ h => h)); have HK2 := H_ hk2; clear hk2)
  go_ret2
  exact ⟨rfl, HKW.out.trans HK2.out (fun _ _ h => h)⟩
 ·have HKA : Hid (keyAt j i = ⟨#[]⟩) := H_ (by unfold keyAt; rw [List.getD_eq_getElem?_getD, List.getElem?_eq_none (by have := HN.out; omega)]; rfl)
  have hdt : decide (i < n) = false := decide_eq_false hlt
  rw [HKA.out, hdt]
  have hge : decide (n ≤ i) = true := decide_eq_true (by omega)
  clear hdt
  go_enter Tryz.func96, Tryz.ntmps96
  go_wp2_with (go_at_call 83; refine HC.out.mono ?_; rintro e w2 ⟨rfl, hk2⟩; have HK2 := H_ hk2; clear hk2)
  go_ret2
  exact ⟨rfl, HKW.out.trans HK2.out (fun _ _ h => h)⟩
theorem refall_any (w : World) (T : TypeId) (y : Value) : Calls Tryz.prog 95 #[.agg #[.iface T y]] w fun e w' => e = .returned (.func (.func 160) #[] #[.pointer (some ⟨w.heap.size, 0, none⟩)]) ∧ w' = w.alloc (.cells #[.iface T y] 95) := by
 go_enter Tryz.func95, Tryz.ntmps95
 go_wp2
 go_ret
 exact ⟨rfl, rfl⟩
def encA (j : JV) (vs : List Value) (i : Nat) : Array Value := #[.string (keyAt j i), .agg #[vs.getD i .nilIface]]
theorem keeps_put {F : Nat → Prop} (W : World) (l : Nat) (o : Obj) (hl : F l) : Keeps F W (W.putObj l o) :=
 ⟨rfl, rfl, rfl, by simp, fun i hi hn => World.putObj_heap_other (fun e => hn (by rw [e]; exact hl))⟩
theorem all_next (n : Nat) (F : Nat → Prop) {D : Nat → Prop} (w : World) (bx : Nat) (v : Value) (j : JV) (hb : Blk w bx 95 [v]) (hbF : ¬ F bx) (hj : JAt D w v j) (hD : ∀ i, D i → ¬ F i) (hF : ∀ i, w.heap.size ≤ i → F i) (hm : j.items.length ≤ 1099511627776) :
  ∃ A vs, Items D w j A vs ∧ SeqNext (α := Fin j.items.length) (fun pre i => i.val = pre.length) Fence.wide n Tryz.prog 160 #[.pointer (some ⟨bx, 0, none⟩)] (fun i => encA j vs i.val) (Keeps F) (fun xs => xs.map (·.val) = List.range j.items.length) (fun _ => True) w := by
 obtain ⟨A, c, vs, hit, hic⟩ := items_inv hj
 refine ⟨A, vs, hit, fun l J Jx W hW hJ hJx hY h0 => ?_⟩
 have hWk : Keeps (fun _ => False) w W := Keeps.of_below hW
 have hjW := hj.stay hWk
 obtain ⟨m, hmm⟩ : ∃ m, m = j.items.length := ⟨_, rfl⟩
 rw [← hmm] at hic hm
 have HIC := H_ hic
 have HIT := H_ hit
 have HW := H_ hWk
 have HJ := H_ hj
 have HDF := H_ (And.intro hD hF)
 have HM := H_ hmm
 have cb := (hWk.blk hb (fun h => h)).cell 0
 have HBB := H_ (And.intro hb hbF)
 have HY := H_ hY
 have HJJ := H_ (And.intro hJ hJx)
 have H0 := H_ h0
 have hdd : ∀ k : Nat, (Fence.wide.depth.isSome = true → 1 ≤ k) := fun k h => by cases h
 obtain ⟨T, y, hv⟩ := hj.iface
 subst hv
 clear hic hit hWk hj hjW hD hF hb hbF hY hJ hJx h0 hmm hW
 refine callsIn_of_wp Tryz.func160 rfl trivial ?_
 simp only [Tryz.ntmps160, List.size_toArray, List.length_cons, List.length_nil, Nat.reduceAdd, Nat.reduceSub, Array.replicate_succ, Array.replicate_zero, List.push_toArray, List.append_toArray, List.nil_append, List.cons_append]
 gi_wp2_with ((try refine ⟨trivial, ?_⟩); (try refine ⟨hdd _, ?_⟩); gi_at_call 84; refine (callsIn_wide.2 (HIC.out _ HW.out)).mono ?_; rintro e W1 ⟨rfl, hk1⟩; have HK1 := H_ hk1; clear hk1)
 gi_loopw [10] (fun i wr => ∃ (k : Nat) (pre : List (Fin j.items.length)), k ≤ m ∧ i = .int .i64 k ∧ Hid (pre.map (·.val) = List.range k ∧ J pre wr ∧ Keeps F W wr)) (fun i _ => m - (intOf i).toNat)
 case atStart => exact ⟨0, [], by omega, rfl, H_ ⟨rfl, HJJ.out.1 _ _ _ none H0.out (grown_keep HK1.out) (fun r e => by cases e), HK1.out.mono (fun _ _ h => h.elim)⟩⟩
 case round =>
  obtain ⟨k, pre, hkm, rfl, HP⟩ := hrel
  by_cases hlt : k < m
  ·have HKW : Hid (Keeps F w wr) := H_ ((HW.out.mono (fun _ _ h => h.elim)).trans HP.out.2.2 (fun _ _ h => h))
   obtain ⟨g, o, hA, hcl⟩ := (HIT.out.rd.keep HKW.out (HIT.out.inb.out HDF.out.1)).2 (by have := HM.out; omega)
   subst hA
   obtain ⟨u, hu⟩ : ∃ u, vs[k]? = some u := ⟨_, List.getElem?_eq_getElem (by have := HIT.out.rd.1; have := HM.out; omega)⟩
   obtain ⟨x, hx⟩ : ∃ x, j.items[k]? = some x := ⟨_, List.getElem?_eq_getElem (by have := HM.out; omega)⟩
   have ck : wr.cell? ⟨g, o + k, none⟩ = some u := by rw [hcl k (by have := HM.out; omega), hu]
   obtain ⟨T2, y2, hu2⟩ := (HIT.out.at_ k u x hu hx).iface
   subst hu2
   have hgd : vs.getD k .nilIface = .iface T2 y2 := by rw [List.getD_eq_getElem?_getD, hu]; rfl
   obtain ⟨KI, hKI⟩ : ∃ KI : Fin j.items.length, KI.val = k := ⟨⟨k, by have := HM.out; omega⟩, rfl⟩
   have HKI := H_ hKI
   have HKEY : Hid (∀ W2, Keeps (fun _ => False) wr W2 → Calls Tryz.prog 96 #[.agg #[.iface T y], .int .i64 k] W2 fun e w' => e = .returned (.tuple #[.string (keyAt j k), .bool (decide (k < j.keys.length))]) ∧ Hid (Keeps (fun _ => False) W2 w')) := H_ fun W2 hW2 =>
    (refkey_any W2 _ j ((HJ.out.keep HKW.out HDF.out.1).stay hW2) k (by omega)).mono fun e w' h => ⟨h.1, H_ h.2⟩
   have HYN : Hid (∀ W2, Keeps (fun _ => False) wr W2 → YieldAt Fence.wide (n - 1) Tryz.prog l #[.string (keyAt j k), .agg #[.iface T2 y2]] W2 fun e W' => (e = .returned (.bool true) ∧ Hid (J (pre ++ [KI]) W' ∧ Keeps F W2 W')) ∨ (e = .returned (.bool false) ∧ Hid (Jx (pre ++ [KI]) W'))) := H_ fun W2 hW2 => by
    have h1 := HY.out pre KI W2 (HJJ.out.1 _ _ _ none HP.out.2.1 (grown_keep hW2) (fun r e => by cases e)) (by
     have := congrArg List.length HP.out.1
     rw [List.length_map, List.length_range] at this
     rw [hKI]; exact this.symm)
    unfold encA at h1
    rw [hKI, hgd] at h1
    exact h1.mono fun e W' h => h.imp (fun h => ⟨h.1, H_ h.2⟩) (fun h => ⟨h.1, H_ h.2⟩)
   have cbr : ∀ W2, Keeps (fun _ => False) wr W2 → W2.cell? ⟨bx, 0, none⟩ = some (.iface T y) := fun W2 hW2 => (hW2.blk (HKW.out.blk HBB.out.1 HBB.out.2) (fun h => h)).cell 0
   have cb1 := cbr wr (Keeps.refl _ _)
   have HCB := H_ cbr
   obtain ⟨ky, hky⟩ : ∃ ky, ky = keyAt j k := ⟨_, rfl⟩
   obtain ⟨kb, hkb⟩ : ∃ kb, kb = decide (k < j.keys.length) := ⟨_, rfl⟩
   rw [← hky] at HYN HKEY
   rw [← hkb] at HKEY
   have hk0 : (0 : Int) ≤ (k : Int) := by omega
   have hkN : (k : Int) < (m : Int) := by omega
   clear hcl hu hx hgd cbr hky hkb cb hKI
   gi_wp2_with (first
    | ((try refine ⟨trivial, ?_⟩); (try refine ⟨hdd _, ?_⟩); gi_at_call 96; refine (callsIn_wide.2 (HKEY.out _ (Keeps.refl _ _))).mono ?_; rintro e W3 ⟨rfl, HK3⟩; have hyy := HYN.out W3 HK3.out; obtain ⟨fn, tmps, assign, body, hy, hR⟩ := hyy)
    | ((try refine ⟨hdd _, ?_⟩); refine hR.mono ?_; clear hR; rintro e W4 (⟨rfl, HJ4⟩ | ⟨rfl, HJ4⟩)))
   ·go_roundw
    case rel => exact ⟨k + 1, pre ++ [KI], by omega, by go_num, H_ ⟨by rw [List.map_append, HP.out.1, List.range_succ]; simp [HKI.out], HJ4.out.1, (HP.out.2.2.trans HK3.out (fun _ _ h => h.elim)).trans HJ4.out.2 (fun _ _ h => h)⟩⟩
    case measure => simp [intOf]; omega
   ·skip
    refine bodyPost_ret (results_none rfl _ _ _) rfl ?_
    exact ⟨⟨_, rfl⟩, .inr ⟨_, trivial, HJ4.out⟩⟩
  ·obtain rfl : k = m := by omega
   gi_wp2
   go_end0
   exact ⟨⟨_, rfl⟩, .inl ⟨pre, by rw [HP.out.1, HM.out], HP.out.2.1⟩⟩
end Go.Proofs.YtplleficmkfniaaGreatDoor
namespace Go.Proofs.YtplleficmkfniaaGreatDoor
open Go Go.RowKit Go.Aff Go.Json
theorem root_any (w : World) (q : Nat) (T : TypeId) (x : Value) (hb : Blk w q 135 [.iface T x]) :
  Calls Tryz.prog 40 #[.pointer (some ⟨q, 0, none⟩)] w fun e w' => e = .returned (.agg #[.iface T x]) ∧ Keeps (fun _ => False) w w' := by
 have hb1 := hb.alloc (.cells #[.nilIface] 95)
 have c0 := hb1.cell 0
 have f0 := (Blk.new w 95 [.nilIface]).frozen 0
 have HR := H_ (Blk.new w 95 [.iface T x])
 have HK := H_ ((Keeps.refl (fun _ => False) w).alloc (.cells #[.iface T x] 95))
 clear hb hb1
 go_enter Tryz.func40, Tryz.ntmps40
 go_wp2
 exact bodyPost_ret (results_blk rfl _ _ rfl HR.out Tryz.underlying95 rfl (by kernel_rfl)) rfl ⟨rfl, HK.out⟩
end Go.Proofs.YtplleficmkfniaaGreatDoor
namespace Go.Aff
open Go Go.RowKit
theorem wpList_make_S {P : Program} (w0 w : World) {ops : Array Oper} {rest : List Oper} {o : Oper} {a : Act} {Q : Exit → Act → World → Prop} (hg : o.guard = none) (l c : Operand) (t : TypeId) (hop : o.op = Op.makeSlice t l c)
  (e : TypeId) (z : Value) (s bytes : Nat) (ht : P.underlying t = some (.slice e)) (hinfo : (P.info? e).map (fun i => (i.zero, i.size, i.bytes)) = some (some z, s, bytes))
  (kl kc : IntKind) (C : Int) (n : Nat) (hl : a.eval l = .int kl 0) (hc : a.eval c = .int kc C) (hC : C = (n : Int)) (b2 : bytes * n ≤ 281474976710656) (b3 : n ≤ maxLen) (hk : Keeps (fun _ => False) w0 w)
  (hK : ∀ A' w', MineS s w0 w' e A' 0 n [] → wpList P ops Q rest (a.put o.dst (.slice A' 0 n)) w') :
  wpList P ops Q (o :: rest) a w := by
 obtain ⟨i, h2, h3, h4, h5⟩ := info_parts hinfo
 refine wpList_make_own w hg l c t hop 0 e i z s ht h2 h3 h4 kl kc C n hl hc hC (by rw [h5]; exact b2) b3 (Nat.zero_le _) fun w' ho hgr => hK _ w' ⟨ho, hk.trans (Keeps.of_grown hgr) (fun g _ hb => by simp at hb), fun g hg => ?_⟩
 have e1 : some w.heap.size = some g := hg
 injection e1 with e1
 have := hk.size
 omega
end Go.Aff
namespace Go.Proofs.YtplleficmkfniaaGreatDoor
open Go Go.RowKit Go.Aff Go.Json
attribute [local go_sem] Oper.semAt_some
inductive ValIs : JV → Value → Prop
 | null : ValIs .null (.iface 263 (.agg #[]))
 | flag (b : Bool) : ValIs (.flag b) (.iface 265 (.bool b))
 | num (b : Nat) : ValIs (.num b) (.iface 266 (.float .f64 b))
 | text (s : ByteArray) : ValIs (.text s) (.iface 268 (.string s))
 | list (l : List JV) (A : Option Addr) (n c : Nat) : ValIs (.list l) (.iface 317 (.slice A n c))
 | obj (ks : List ByteArray) (l : List JV) (A : Option Addr) (n c : Nat) : ValIs (.obj ks l) (.iface 319 (.slice A n c))
theorem ValIs.iface {j : JV} {v : Value} (h : ValIs j v) : ∃ T y, v = .iface T y := by cases h <;> exact ⟨_, _, rfl⟩
def ValPost (w : World) (j : JV) (e : Ending) (w' : World) : Prop := ∃ v, e = .returned v ∧ ValIs j v ∧ Keeps (fun _ => False) w w'
theorem val_leaf {D : Nat → Prop} (w : World) (v : Value) (j : JV) (hj : JAt D w v j) (hs : j.sort < 5) : Calls Tryz.prog 137 #[.agg #[v]] w (ValPost w j) := by
 cases hj with
 | null =>
  have hb := Blk.new w 95 [.iface 217 (.agg #[])]
  have cb := hb.cell 0
  have HK := H_ ((Keeps.refl (fun _ => False) w).alloc (.cells #[.iface 217 (.agg #[])] 95))
  clear hb hs
  have a0 := as_null_null
  go_enter Tryz.func137, Tryz.ntmps137
  go_wp2
  go_ret
  exact ⟨_, rfl, .null, HK.out.alloc _⟩
 | flag b =>
  have hb := Blk.new w 95 [.iface 218 (.bool b)]
  have cb := hb.cell 0
  have HK := H_ ((Keeps.refl (fun _ => False) w).alloc (.cells #[.iface 218 (.bool b)] 95))
  clear hb hs
  have a0 := as_flag_null
  have a1 := as_flag_flag
  go_enter Tryz.func137, Tryz.ntmps137
  go_wp2
  go_ret
  exact ⟨_, rfl, .flag b, HK.out⟩
 | num b _ _ _ =>
  have hb := Blk.new w 95 [.iface 223 (.float .f64 b)]
  have cb := hb.cell 0
  have HK := H_ ((Keeps.refl (fun _ => False) w).alloc (.cells #[.iface 223 (.float .f64 b)] 95))
  clear hb hs
  have a0 := as_num_null
  have a1 := as_num_flag
  have a2 := as_num_num
  go_enter Tryz.func137, Tryz.ntmps137
  go_wp2
  go_ret
  exact ⟨_, rfl, .num b, HK.out⟩
 | text s =>
  have hb := Blk.new w 95 [.iface 224 (.string s)]
  have cb := hb.cell 0
  have HK := H_ ((Keeps.refl (fun _ => False) w).alloc (.cells #[.iface 224 (.string s)] 95))
  clear hb hs
  have a0 := as_text_null
  have a1 := as_text_flag
  have a2 := as_text_num
  have a3 := as_text_text
  go_enter Tryz.func137, Tryz.ntmps137
  go_wp2
  go_ret
  exact ⟨_, rfl, .text s, HK.out⟩
 | list => simp [JV.sort] at hs
 | obj => simp [JV.sort] at hs
theorem infoVal : (Tryz.prog.info? 261).map (fun i => (i.zero, i.size, i.bytes)) = some (some .nilIface, 1, 16) := by kernel_rfl
theorem infoMem : (Tryz.prog.info? 321).map (fun i => (i.zero, i.size, i.bytes)) = some (some (.agg #[.string ⟨#[]⟩, .nilIface]), 2, 32) := by kernel_rfl
theorem val_list {D : Nat → Prop} (w : World) (v : Value) (l : List JV) (hj : JAt D w v (.list l)) (hn : l.length ≤ 1099511627776) (ih : ∀ x ∈ l, ∀ (W : World) (u : Value), JAt D W u x → Calls Tryz.prog 137 #[.agg #[u]] W (ValPost W x)) :
  Calls Tryz.prog 137 #[.agg #[v]] w (ValPost w (.list l)) := by
 cases hj with
 | @list b A c vs _ hD hbl hr ho hl =>
  obtain ⟨n, hnn⟩ : ∃ n, n = l.length := ⟨_, rfl⟩
  have hb := Blk.new w 95 [.iface 186 (.pointer (some ⟨b, 0, none⟩))]
  have cb := hb.cell 0
  have hk1 : Keeps (fun _ => False) w (w.alloc (.cells #[.iface 186 (.pointer (some ⟨b, 0, none⟩))] 95)) := (Keeps.refl (fun _ => False) w).alloc _
  have HK1 := H_ hk1
  have HC3 : Hid (∀ V, Keeps (fun _ => False) w V → V.cell? ⟨b, 3, none⟩ = some (.slice A n c)) := H_ fun V hV => by
   have := (hV.blk hbl (fun h => h)).cell 3
   rw [← hnn] at this
   exact this
  have c3 := HC3.out _ hk1
  have HIT : Hid (∀ V, Keeps (fun _ => False) w V → ∀ k, k < n → ∃ g o T y, A = some ⟨g, o, none⟩ ∧ V.cell? ⟨g, o + k, none⟩ = some (.iface T y) ∧ ∀ W, Keeps (fun _ => False) V W → Calls Tryz.prog 137 #[.agg #[.iface T y]] W fun e w' => ∃ T' y', e = .returned (.iface T' y') ∧ Keeps (fun _ => False) W w') := H_ fun V hV k hk => by
   obtain ⟨g, o, hA, hc⟩ := (hr.keep hV (no_outF _ _)).2 (by omega)
   obtain ⟨u, hu⟩ : ∃ u, vs[k]? = some u := ⟨_, List.getElem?_eq_getElem (by rw [hr.1]; omega)⟩
   obtain ⟨x, hx⟩ : ∃ x, l[k]? = some x := ⟨_, List.getElem?_eq_getElem (by omega)⟩
   have hat := hl k u x hu hx
   obtain ⟨T, y, e⟩ := hat.iface
   refine ⟨g, o, T, y, hA, by rw [hc k (by omega), hu, e], fun W hW => ?_⟩
   refine (ih x (List.mem_of_getElem? hx) W _ (e ▸ (hat.stay hV).stay hW)).mono ?_
   rintro e' w' ⟨v', he, hv, hk⟩
   obtain ⟨T', y', e2⟩ := hv.iface
   exact ⟨T', y', by rw [he, e2], hk⟩
  have HN := H_ (And.intro hnn hn)
  have hnb : n ≤ 1099511627776 := by omega
  clear hD hbl hr ho hl hb hk1 ih hnn hn
  have a1 := as_list_null
  have a2 := as_list_flag
  have a3 := as_list_num
  have a4 := as_list_text
  have a5 := as_list_list
  go_enter Tryz.func137, Tryz.ntmps137
  go_wp2_with ((with_reducible show wpList _ _ _ (⟨some 45, Op.makeSlice _ _ _, _, _, _, _⟩ :: _) _ _); refine wpList_make_S w _ rfl (.const (.int .i64 0)) (.tmp 44) 317 rfl 261 .nilIface 1 16 Tryz.underlying317 infoVal .i64 .i64 n n rfl rfl rfl (by omega) (by simp only [maxLen]; omega) HK1.out ?_; intro A2 w2 hm2; have HM2 := H_ hm2; have c4 := HC3.out _ hm2.2.1; clear hm2)
  go_loopw [8, 10, 51] (fun v _ i wr => ∃ (k : Nat) (A3 : Option Addr) (c3 : Nat), k ≤ n ∧ i = .int .i64 k ∧ v = .slice A3 k c3 ∧ Hid (∃ xs, MineS 1 w wr 261 A3 k c3 xs)) (fun _ _ i _ => n - (intOf i).toNat)
  case atStart => exact ⟨0, _, _, by omega, rfl, rfl, H_ ⟨[], HM2.out⟩⟩
  case round =>
   obtain ⟨k, A3, c3, hk, rfl, rfl, HO⟩ := hrel
   obtain ⟨xs, hm⟩ := HO.out
   by_cases hlt : k < n
   ·obtain ⟨g, o, T, y, hA, hcell, hcall⟩ := HIT.out wr hm.2.1 k hlt
    subst hA
    have HCA := H_ (hcall wr (Keeps.refl _ _))
    have HM := H_ hm
    clear hcall hm HO
    go_wp2_with (first
     | (go_at_call 137; refine HCA.out.mono ?_; rintro e w5 ⟨T5, y5, rfl, hk5⟩; have HM5 := H_ ((HM.out.keep hk5).alloc (.cells #[.iface T5 y5] 261)); have HB5 := H_ (RdS.blk (s := 1) (n := 1) (Blk.new w5 261 [.iface T5 y5]) rfl); clear hk5)
     | (at_builtin; refine wpList_append_mine w _ rfl (.tmp 55) (.tmp 59) 317 rfl 261 .nilIface 1 16 Tryz.underlying317 infoVal rfl (by decide) rfl HM5.out (some ⟨w5.heap.size, 0, none⟩) 1 1 [.iface T5 y5] rfl HB5.out (by intro u hu; rw [List.mem_singleton.1 hu]; rfl) (by simp only [maxLen]; omega) (by omega) ?_; intro A6 c6 w6 hm6; have HM6 := H_ hm6; clear hm6))
    go_roundw
    case rel => exact ⟨k + 1, A6, c6, by omega, by go_num, rfl, H_ ⟨_, HM6.out⟩⟩
    case measure => simp [intOf]; omega
   ·obtain rfl : k = n := by omega
    have HM := H_ hm
    clear hm HO
    go_wp2
    go_ret
    exact ⟨_, rfl, .list _ _ _ _, HM.out.2.1⟩
theorem val_obj {D : Nat → Prop} (w : World) (v : Value) (ks : List ByteArray) (l : List JV) (hj : JAt D w v (.obj ks l)) (hkl : ks.length = l.length) (hn : l.length ≤ 1099511627776) (ih : ∀ x ∈ l, ∀ (W : World) (u : Value), JAt D W u x → Calls Tryz.prog 137 #[.agg #[u]] W (ValPost W x)) :
  Calls Tryz.prog 137 #[.agg #[v]] w (ValPost w (.obj ks l)) := by
 cases hj with
 | @obj b A B c d vs _ _ hD hbl hkr hok hr ho hl =>
  obtain ⟨n, hnn⟩ : ∃ n, n = l.length := ⟨_, rfl⟩
  have hb := Blk.new w 95 [.iface 187 (.pointer (some ⟨b, 0, none⟩))]
  have cb := hb.cell 0
  have hk1 : Keeps (fun _ => False) w (w.alloc (.cells #[.iface 187 (.pointer (some ⟨b, 0, none⟩))] 95)) := (Keeps.refl (fun _ => False) w).alloc _
  have HK1 := H_ hk1
  have HC3 : Hid (∀ V, Keeps (fun _ => False) w V → V.cell? ⟨b, 3, none⟩ = some (.slice B n d) ∧ V.cell? ⟨b, 4, none⟩ = some (.slice A n c)) := H_ fun V hV => by
   have h1 := (hV.blk hbl (fun h => h)).cell 3
   have h2 := (hV.blk hbl (fun h => h)).cell 4
   rw [hkl, ← hnn] at h1
   rw [← hnn] at h2
   exact ⟨h1, h2⟩
  have c3 := (HC3.out _ hk1).2
  have HIT : Hid (∀ V, Keeps (fun _ => False) w V → ∀ k, k < n → ∃ g o T y, A = some ⟨g, o, none⟩ ∧ V.cell? ⟨g, o + k, none⟩ = some (.iface T y) ∧ ∀ W, Keeps (fun _ => False) V W → Calls Tryz.prog 137 #[.agg #[.iface T y]] W fun e w' => ∃ T' y', e = .returned (.iface T' y') ∧ Keeps (fun _ => False) W w') := H_ fun V hV k hk => by
   obtain ⟨g, o, hA, hc⟩ := (hr.keep hV (no_outF _ _)).2 (by omega)
   obtain ⟨u, hu⟩ : ∃ u, vs[k]? = some u := ⟨_, List.getElem?_eq_getElem (by rw [hr.1]; omega)⟩
   obtain ⟨x, hx⟩ : ∃ x, l[k]? = some x := ⟨_, List.getElem?_eq_getElem (by omega)⟩
   have hat := hl k u x hu hx
   obtain ⟨T, y, e⟩ := hat.iface
   refine ⟨g, o, T, y, hA, by rw [hc k (by omega), hu, e], fun W hW => ?_⟩
   refine (ih x (List.mem_of_getElem? hx) W _ (e ▸ (hat.stay hV).stay hW)).mono ?_
   rintro e' w' ⟨v', he, hv, hk⟩
   obtain ⟨T', y', e2⟩ := hv.iface
   exact ⟨T', y', by rw [he, e2], hk⟩
  have HKY : Hid (∀ k, k < n → ∃ g o s, B = some ⟨g, o, none⟩ ∧ ∀ V, Keeps (fun _ => False) w V → V.cell? ⟨g, o + k, none⟩ = some (.string s)) := H_ fun k hk => by
   obtain ⟨g, o, hB, hc⟩ := hkr.2 (by omega)
   obtain ⟨s, hs⟩ : ∃ s, ks[k]? = some s := ⟨_, List.getElem?_eq_getElem (by omega)⟩
   have h1 : w.cell? ⟨g, o + k, none⟩ = some (.string s) := by rw [hc k (by omega), List.getElem?_map, hs]; rfl
   exact ⟨g, o, s, hB, fun V hV => cell_keep hV h1⟩
  have HN := H_ (And.intro hnn hn)
  have hnb : n ≤ 1099511627776 := by omega
  clear hD hbl hkr hok hr ho hl hb hk1 ih hnn hn
  have a1 := as_obj_null
  have a2 := as_obj_flag
  have a3 := as_obj_num
  have a4 := as_obj_text
  have a5 := as_obj_list
  have a6 := as_obj_obj
  go_enter Tryz.func137, Tryz.ntmps137
  go_wp2_with ((with_reducible show wpList _ _ _ (⟨some 72, Op.makeSlice _ _ _, _, _, _, _⟩ :: _) _ _); refine wpList_make_S w _ rfl (.const (.int .i64 0)) (.tmp 71) 319 rfl 321 (.agg #[.string ⟨#[]⟩, .nilIface]) 2 32 Tryz.underlying319 infoMem .i64 .i64 n n rfl rfl rfl (by omega) (by simp only [maxLen]; omega) HK1.out ?_; intro A2 w2 hm2; have HM2 := H_ hm2; have c4 := (HC3.out _ hm2.2.1).2; clear hm2)
  go_loopw [12, 13, 14, 78] (fun v _ _ i wr => ∃ (k : Nat) (A3 : Option Addr) (q3 : Nat), k ≤ n ∧ i = .int .i64 k ∧ v = .slice A3 k q3 ∧ Hid (∃ xs, MineS 2 w wr 321 A3 k q3 xs)) (fun _ _ _ i _ => n - (intOf i).toNat)
  case atStart => exact ⟨0, _, _, by omega, rfl, rfl, H_ ⟨[], HM2.out⟩⟩
  case round =>
   obtain ⟨k, A3, q3, hk, rfl, rfl, HO⟩ := hrel
   obtain ⟨xs, hm⟩ := HO.out
   by_cases hlt : k < n
   ·obtain ⟨g, o, T, y, hA, hcell, hcall⟩ := HIT.out wr hm.2.1 k hlt
    obtain ⟨g2, o2, ky, hB, hkc⟩ := HKY.out k hlt
    subst hA hB
    have HCA := H_ hcall
    have HM := H_ hm
    have HKC : Hid (∀ V, Keeps (fun _ => False) wr V → V.cell? ⟨b, 3, none⟩ = some (.slice (some ⟨g2, o2, none⟩) n d) ∧ V.cell? ⟨g2, o2 + k, none⟩ = some (.string ky)) := H_ fun V hV => ⟨(HC3.out _ (hm.2.1.trans hV fun _ _ h => h)).1, hkc _ (hm.2.1.trans hV fun _ _ h => h)⟩
    have hk0 : (0 : Int) ≤ (k : Int) := by omega
    have hkN : (k : Int) < (n : Int) := by omega
    clear hcall hm HO hkc
    go_upto_region 29 with fail
    refine wp_region_tail (S := (fun V => Keeps (fun _ => False) wr V)) 13 (by kernel_rfl) (Keeps.refl _ _).drew (fun h_ => ?_)
    refine tJ 0 83 ?_
    try simp only [pu]
    refine tJ 1 84 ?_
    try simp only [pu]
    refine tJ 2 85 ?_
    try simp only [pu]
    refine tJ 3 86 ?_
    try simp only [pu]
    refine tT [4, 6, 7, 11, 12] (i := 4) (oi := ⟨some 87, _, _, _, _, _⟩) (v := ?_) rfl (Or.inl ⟨by rfl, ?_⟩) h_ ?_
    rotate_left
    ·intro w' hSw
     have cv := (HKC.out _ hSw).1
     go_simp
     first | done | rfl
    try simp only [pu]
    refine tJ 5 88 ?_
    try simp only [pu]
    refine tJ 6 89 ?_
    try simp only [pu]
    refine tT [7, 11, 12] (i := 7) (oi := ⟨some 90, _, _, _, _, _⟩) (v := ?_) rfl (Or.inl ⟨by rfl, ?_⟩) h_ ?_
    rotate_left
    ·intro w' hSw
     have cv := (HKC.out _ hSw).2
     go_simp
     first | done | rfl
    try simp only [pu]
    refine tJ 8 91 ?_
    try simp only [pu]
    refine tJ 9 92 ?_
    try simp only [pu]
    refine wpAnyT_step (i := 10) (o := ⟨some 93, _, _, _, _, _⟩) (by kernel_rfl) rfl (fun K hK => ?_)
    go_simp
    refine (HCA.out _ h_).mono ?_
    rintro e w5 ⟨T5, y5, rfl, hk5⟩
    have hS5 := h_.trans hk5 (fun _ _ h => h)
    refine hK.out _ _ hS5 (fun h_ => ?_)
    clear hK K
    try simp only [pu]
    refine tJ 11 94 ?_
    try simp only [pu]
    refine wpAnyT_step (i := 12) (o := ⟨some 95, _, _, _, _, _⟩) (by kernel_rfl) rfl (fun K hK => ?_)
    go_simp
    refine hK.out _ _ (h_.alloc _) (fun h_ => ?_)
    clear hK K
    try simp only [pu]
    refine wpAnyT_tail (i := 13) (o := ⟨some 96, _, _, _, _, _⟩) (by kernel_rfl) (by kernel_rfl) rfl (fun K hK => ?_)
    refine step_append_own rfl (.tmp 83) (.tmp 95) 319 rfl 321 (.agg #[.string ⟨#[]⟩, .nilIface]) 2 32 Tryz.underlying319 infoMem rfl (by decide) A3 k q3 xs rfl ((HM.out.keep hS5).alloc _).1 ⟨w5.heap.size, 0, none⟩ 1 1 [.string ky, .iface T5 y5] rfl rfl (fun j u hu => by have := (Blk.new w5 321 [.string ky, .iface T5 y5]).cell j; rw [add_at, Nat.zero_add]; exact this.trans hu) (by intro u hu; simp at hu; rcases hu with rfl | rfl <;> rfl) (by simp only [maxLen]; omega) (by omega) ?_
    intro A6 c6 w6 ho6 hg6 hb6
    have HM6 := H_ (((HM.out.keep hS5).alloc _).grown ho6 hg6 hb6)
    refine hK.out _ _ ?_
    clear hK K
    try simp only [pu]
    refine wpAnyT_tail (i := 14) (o := ⟨some 12, _, _, _, _, _⟩) (by kernel_rfl) (by kernel_rfl) rfl (fun K hK => ?_)
    go_simp
    refine hK.out _ _ ?_
    clear hK K
    try simp only [pu]
    refine wpAnyT_done (by kernel_rfl) ?_
    go_wp2
    go_roundw
    case rel => exact ⟨k + 1, A6, c6, by omega, by go_num, rfl, H_ ⟨_, HM6.out⟩⟩
    case measure => simp [intOf]; omega
   ·obtain rfl : k = n := by omega
    have HM := H_ hm
    clear hm HO
    go_wp2
    go_ret
    exact ⟨_, rfl, .obj _ _ _ _ _, HM.out.2.1⟩
theorem nodes_item {j x : JV} (h : x ∈ j.items) : x.nodes ≤ j.nodes := by
 rw [JV.nodes_eq j]
 have := sumN_mem (List.mem_map.2 ⟨x, h, rfl⟩ : x.nodes ∈ j.items.map fun x => x.nodes)
 omega
theorem val_any : ∀ (j : JV), JOk j → j.nodes ≤ 1048576 → ∀ (D : Nat → Prop) (w : World) (v : Value), JAt D w v j → Calls Tryz.prog 137 #[.agg #[v]] w (ValPost w j) := by
 intro j hok
 induction hok with
 | mk j h1 h2 hp hr ht h ih =>
  intro hn D w v hv
  have hio := items_nodes j
  have hsub : ∀ x ∈ j.items, ∀ (W : World) (u : Value), JAt D W u x → Calls Tryz.prog 137 #[.agg #[u]] W (ValPost W x) := fun x hx W u hu => ih x hx (Nat.le_trans (nodes_item (j := j) hx) hn) D W u hu
  match j, h2, hsub, hv, hio with
  | .null, _, _, hv, _ => exact val_leaf w v _ hv (by simp [JV.sort])
  | .flag b, _, _, hv, _ => exact val_leaf w v _ hv (by simp [JV.sort])
  | .num b, _, _, hv, _ => exact val_leaf w v _ hv (by simp [JV.sort])
  | .text s, _, _, hv, _ => exact val_leaf w v _ hv (by simp [JV.sort])
  | .list l, _, hsub, hv, hio => exact val_list w v l hv (by have : (JV.list l).items.length = l.length := rfl; omega) hsub
  | .obj ks l, h2, hsub, hv, hio => exact val_obj w v ks l hv (h2 rfl) (by have : (JV.obj ks l).items.length = l.length := rfl; omega) hsub
end Go.Proofs.YtplleficmkfniaaGreatDoor
