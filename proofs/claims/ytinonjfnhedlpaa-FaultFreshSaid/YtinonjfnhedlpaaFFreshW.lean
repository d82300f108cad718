/-
  WALKS: the law FaultFresh.
-/
import Derived.Test.YtinonjfnhedlpaaFTypesK
import Derived.Test.YtinonjfnhedlpaaFSpoilW
import Derived.Test.YtinonjfnhedlpaaFSpotW
set_option linter.unusedSimpArgs false
namespace Go.Proofs.Ytinonjfnhedlpaa
open Go Go.RowKit Go.Shelf Go.Aff Go.Fault
attribute [local go_sem] Oper.semAt_some
theorem CausesAt.old {F : Nat → Prop} {w w' : World} {A : Option Addr} {cs : List CauseV} (h : CausesAt w A cs) (hk : Keeps F w w') (hF : ∀ i, F i → w.heap.size ≤ i) : CausesAt w' A cs :=
  h.keep (hk.mono fun i hi hf => by have := hF i hf; omega)
set_option maxHeartbeats 4000000 in
set_option maxRecDepth 100000 in
theorem fresh_bad (w : World) (A : Option Addr) (n c : Nat) (cs : List CauseV) (hn : cs.length = n) (hS : CausesAt w A cs) (er : Int × Nat) (hb : buildF cs = .inl er) :
    Calls Try.prog 5 #[.slice A n c] w fun e w' => e = .returned (.bool true) ∧ Keeps (fun _ => False) w w' := by
  have hdd : ∀ k : Nat, (Fence.wide.depth.isSome = true → 1 ≤ k) := fun k h => by cases h
  obtain ⟨e1, he1⟩ : ∃ e, e = er.1 := ⟨_, rfl⟩
  obtain ⟨e2, he2⟩ : ∃ e : Int, e = (er.2 : Int) := ⟨_, rfl⟩
  have hne : e1 ≠ 0 := by rw [he1]; exact buildF_err hb
  have HBD : Hid (∀ W, Keeps (fun _ => False) w W → Calls Try.prog 15 #[.slice A n c] W fun e w' => e = .returned (.tuple #[.nilIface, .iface 62 (.agg #[.int .i64 e1, .int .i64 e2])]) ∧ Hid (Keeps (fun _ => False) W w')) := Lib.hid fun W hW =>
    (Build_any W A n c cs hn (hS.keep hW)).mono fun e w' h => ⟨by rw [he1, he2]; exact h.2.1 er hb, Lib.hid h.1⟩
  have HSP : Hid (∀ W, Calls Try.prog 13 #[.iface 62 (.agg #[.int .i64 e1, .int .i64 e2])] W fun e w' => e = .returned (.tuple #[.int .i64 e1, .int .i64 e2]) ∧ Keeps (fun _ => False) W w') := Lib.hid fun W => spot_spot W e1 e2 hne
  clear hS hn hb he1 he2 hne
  have HK0 : Hid (Keeps (fun _ => False) w (w.alloc (.cells #[.bool false] 4)) ∧ Blk (w.alloc (.cells #[.bool false] 4)) w.heap.size 4 [.bool false]) := Lib.hid ⟨(Keeps.refl _ w).alloc _, Blk.new w _ _⟩
  refine (callsIn_wide (n := 8)).1 ?_
  refine callsIn_of_wp_marks Try.func5 rfl trivial ?_ rfl
  simp only [Try.ntmps5, List.size_toArray, List.length_cons, List.length_nil, Nat.reduceAdd, Nat.reduceSub, Array.replicate_succ, Array.replicate_zero, List.push_toArray, List.append_toArray, List.nil_append, List.cons_append]
  have t1 : True := trivial
  have t2 : True := trivial
  gi_wp2_with (first
    | ((try refine ⟨trivial, ?_⟩); (try refine ⟨hdd _, ?_⟩); gi_at_call 15; have _t := t1; clear t1; refine (callsIn_wide.2 (HBD.out _ HK0.out.1)).mono ?_; rintro e w1 ⟨rfl, HK1⟩)
    | ((try refine ⟨trivial, ?_⟩); (try refine ⟨hdd _, ?_⟩); gi_at_call 15; refine (callsIn_wide.2 (HBD.out _ (HK0.out.1.trans HK1.out (fun _ _ h => h)))).mono ?_; rintro e w2 ⟨rfl, HK2⟩)
    | ((try refine ⟨trivial, ?_⟩); (try refine ⟨hdd _, ?_⟩); gi_at_call 13; have _t := t2; clear t2; refine (callsIn_wide.2 (HSP.out _)).mono ?_; rintro e w3 ⟨rfl, hk3⟩; have HK3 := Lib.hid hk3; clear hk3)
    | ((try refine ⟨trivial, ?_⟩); (try refine ⟨hdd _, ?_⟩); gi_at_call 13; refine (callsIn_wide.2 (HSP.out _)).mono ?_; rintro e w4 ⟨rfl, hk4⟩; have HK4 := Lib.hid hk4; clear hk4)
    | ((try refine ⟨trivial, ?_⟩); (try refine ⟨hdd _, ?_⟩); gi_at_call 11; refine (callsIn_wide.2 (works_any _)).mono ?_; rintro e w5 ⟨rfl, hk5⟩; have hk := ((((HK1.out.trans HK2.out (fun _ _ h => h)).trans HK3.out (fun _ _ h => h)).trans HK4.out (fun _ _ h => h)).trans hk5 (fun _ _ h => h)); have HKK := Lib.hid hk; have q0 := (hk.blk HK0.out.2 (fun h => h)).cell 0; have q1 := (hk.blk HK0.out.2 (fun h => h)).frozen 0; clear hk hk5))
  refine ⟨.bool true, results_bool rfl _ _ w.heap.size true rfl (((HKK.out.blk HK0.out.2 (fun h => h)).set_ 0 (.bool true)).cell 0), rfl, ?_⟩
  exact (HK0.out.1.trans HKK.out (fun _ _ h => h)).setCell (.inr (Nat.le_refl _)) _
/-- What stays while the law goes on: the result's box, the list's box, the list, the second error. -/
structure FrS (w : World) (r p : Nat) (v : Value) (n : Nat) (xs : List Value) (Db : Nat → Prop) (vb : VT) (W : World) : Prop where
  keep : Keeps (fun _ => False) w W
  res : Blk W r 4 [.bool false]
  list : Blk W p 23 [v]
  row : W.ownsRow 0 34 6 v n xs
  at_ : At Db W vb
theorem FrS.step {w : World} {r p n : Nat} {v : Value} {xs : List Value} {Db F : Nat → Prop} {vb : VT} {W W' : World} (h : FrS w r p v n xs Db vb W) (k : Keeps F W W')
    (hF : ∀ i, F i → w.heap.size ≤ i ∧ i ≠ r ∧ i ≠ p ∧ v.ownBlock ≠ some i ∧ ¬ Db i) : FrS w r p v n xs Db vb W' :=
  ⟨h.keep.trans k (fun i hl hi => by have := (hF i hi).1; omega), k.blk h.res (fun hi => (hF r hi).2.1 rfl), k.blk h.list (fun hi => (hF p hi).2.2.1 rfl), k.own h.row (fun g hg hi => (hF g hi).2.2.2.1 hg), h.at_.keep k (fun i hi hf => (hF i hf).2.2.2.2 hi)⟩
theorem FrS.same {w : World} {r p n : Nat} {v : Value} {xs : List Value} {Db : Nat → Prop} {vb : VT} {W W' : World} (h : FrS w r p v n xs Db vb W) (k : Keeps (fun _ => False) W W') : FrS w r p v n xs Db vb W' := h.step k (fun _ h => h.elim)
theorem seenV_six (d : Nat) (t : VT) : ∃ s0 s1 s2 s3 s4 s5, seenV d t = [s0, s1, s2, s3, s4, s5] := by
  cases t <;> exact ⟨_, _, _, _, _, _, rfl⟩
set_option maxHeartbeats 4000000 in
set_option maxRecDepth 100000 in
theorem fresh_ok (w : World) (A : Option Addr) (n c : Nat) (cs : List CauseV) (hn : cs.length = n) (hS : CausesAt w A cs) (t : VT) (hb : buildF cs = .inr t) :
    Calls Try.prog 5 #[.slice A n c] w fun e w' => e = .returned (.bool true) ∧ Keeps (fun _ => False) w w' := by
  have hdd : ∀ k : Nat, (Fence.wide.depth.isSome = true → 1 ≤ k) := fun k h => by cases h
  have HBD : Hid (∀ W, Keeps (fun _ => False) w W → Calls Try.prog 15 #[.slice A n c] W fun e w' => ∃ vt x, x = vv vt ∧ e = .returned (.tuple #[x, .nilIface]) ∧ Hid (Keeps (fun _ => False) W w' ∧ vt.erase = t ∧ At (fun i => W.heap.size ≤ i ∧ i < w'.heap.size) w' vt)) := Lib.hid fun W hW => by
    refine (Build_any W A n c cs hn (hS.keep hW)).mono fun e w' h => ?_
    obtain ⟨vt, h1, h2, h3, h4⟩ := h.2.2 t hb
    exact ⟨vt, _, rfl, h2, Lib.hid ⟨h.1, h1, h3.mono fun i hi hl => ⟨hi, hl⟩⟩⟩
  have HL : Hid (∀ W, Keeps (fun _ => False) w W → Calls Try.prog 8 #[.slice A n c] W fun e w' => ∃ A3 c3, e = .returned (.tuple #[.slice A3 t.count c3, .nilIface]) ∧ Hid (Keeps (fun _ => False) W w' ∧ w'.ownsRow 0 34 6 (.slice A3 t.count c3) t.count (looksF (t.items 1)) ∧ ∀ g, (Value.slice A3 t.count c3).ownBlock = some g → W.heap.size ≤ g)) := Lib.hid fun W hW => by
    refine (Look_any W A n c cs hn (hS.keep hW)).mono fun e w' h => ?_
    obtain ⟨v, h1, h2, h3⟩ := h.2.2 t hb
    obtain ⟨A', c', rfl⟩ := own_shape h2
    exact ⟨_, _, h1, Lib.hid ⟨h.1, h2, h3⟩⟩
  have HF : Hid (∀ W, Keeps (fun _ => False) w W → Calls Try.prog 17 #[.slice A n c] W fun e w' => ∃ x, e = .returned (.tuple #[x, .nilIface]) ∧ Hid (Keeps (fun _ => False) W w' ∧ Calls Try.prog 16 #[x] w' fun e w2 => e = .returned (.tuple #[]) ∧ Keeps (fun i => W.heap.size ≤ i) w' w2)) := Lib.hid fun W hW => by
    refine (Flat_any W A n c cs hn (hS.keep hW)).mono fun e w' h => ?_
    obtain ⟨ft, h1, h2, h3⟩ := h.2.2 t hb
    exact ⟨_, h2, Lib.hid ⟨h.1, (spoil_rec _ ft w' (fun i => W.heap.size ≤ i) (Nat.le_refl _) h3.spoilt).mono fun e w2 h => ⟨h.1, h.2.1⟩⟩⟩
  have HE : Hid (∀ W, Keeps (fun _ => False) w W → Calls Try.prog 9 #[.slice A n c] W fun e w' => ∃ vt b, e = .returned (.func (.func 35) #[] #[.pointer (some ⟨b, 0, none⟩)]) ∧ Hid (Keeps (fun _ => False) W w' ∧ vt.erase = t ∧ w'.heap[b]? = some (.cells #[vv vt] 25 (0, 0)) ∧ W.heap.size ≤ b ∧ At (fun i => W.heap.size ≤ i) w' vt ∧ vt.deep ≤ 512)) := Lib.hid fun W hW => by
    refine (Each_any W A n c cs hn (hS.keep hW)).mono fun e w' h => ?_
    obtain ⟨vt, v, h1, rfl, b, rfl, h2, h3, h4, h5⟩ := h.2.2 t hb
    exact ⟨vt, b, rfl, Lib.hid ⟨h.1, h1, h2, h3, h4, h5⟩⟩
  have hfn := eql_func
  have HCN := Lib.hid (buildF_count hb)
  clear hS hn hb
  have HK0 : Hid (Keeps (fun _ => False) w (w.alloc (.cells #[.bool false] 4)) ∧ Blk (w.alloc (.cells #[.bool false] 4)) w.heap.size 4 [.bool false]) := Lib.hid ⟨(Keeps.refl _ w).alloc _, Blk.new w _ _⟩
  have hpos : (1 : Int) ≤ (t.count : Int) := by
    obtain ⟨l, h⟩ := t.items_head 1
    simp [VT.count, h]
    omega
  obtain ⟨N, hN⟩ : ∃ N, N = t.count := ⟨_, rfl⟩
  rw [← hN] at hpos HL HCN
  have HNN := Lib.hid hN
  clear hN
  have hz : ((N : Int) == 0) = false := by rw [beq_eq_false_iff_ne]; omega
  have hNb : (N : Int) ≤ 131072 := by have := HCN.out; omega
  refine (callsIn_wide (n := 8)).1 ?_
  refine callsIn_of_wp_marks Try.func5 rfl trivial ?_ rfl
  simp only [Try.ntmps5, List.size_toArray, List.length_cons, List.length_nil, Nat.reduceAdd, Nat.reduceSub, Array.replicate_succ, Array.replicate_zero, List.push_toArray, List.append_toArray, List.nil_append, List.cons_append]
  have t1 : True := trivial
  have t2 : True := trivial
  gi_wp2_with (first
    | ((try refine ⟨trivial, ?_⟩); (try refine ⟨hdd _, ?_⟩); gi_at_call 15; have _t := t1; clear t1; refine (callsIn_wide.2 (HBD.out _ HK0.out.1)).mono ?_; rintro e w1 ⟨va, xa, hxa, rfl, HK1⟩; have HXA := Lib.hid hxa; clear hxa)
    | ((try refine ⟨trivial, ?_⟩); (try refine ⟨hdd _, ?_⟩); gi_at_call 15; refine (callsIn_wide.2 (HBD.out _ (HK0.out.1.trans HK1.out.1 (fun _ _ h => h)))).mono ?_; rintro e w2 ⟨vb, xb, hxb, rfl, HK2⟩; have HXB := Lib.hid hxb; clear hxb)
    | ((try refine ⟨trivial, ?_⟩); (try refine ⟨hdd _, ?_⟩); gi_at_call 8; refine (callsIn_wide.2 (HL.out _ ((HK0.out.1.trans HK1.out.1 (fun _ _ h => h)).trans HK2.out.1 (fun _ _ h => h)))).mono ?_; rintro e w3 ⟨A3, c3, rfl, HK3⟩
       have HS3 : Hid (FrS w w.heap.size w3.heap.size (.slice A3 N c3) N (looksF (t.items 1)) (fun i => w1.heap.size ≤ i ∧ i < w2.heap.size) vb (w3.alloc (.cells #[.slice A3 N c3] 23))) := Lib.hid (by
         obtain ⟨k3, o3, g3⟩ := HK3.out
         have ka := (Keeps.refl (fun _ => False) w3).alloc (.cells #[.slice A3 N c3] 23)
         have kb := k3.trans ka (fun _ _ h => h)
         exact ⟨((HK0.out.1.trans HK1.out.1 (fun _ _ h => h)).trans HK2.out.1 (fun _ _ h => h)).trans kb (fun _ _ h => h), kb.blk (HK2.out.1.blk (HK1.out.1.blk HK0.out.2 (fun h => h)) (fun h => h)) (fun h => h), Blk.new w3 _ _, ka.own o3 (fun _ _ h => h), HK2.out.2.2.keep kb (fun _ _ h => h)⟩)
       have HSA : Hid (Calls Try.prog 16 #[xa] (w3.alloc (.cells #[.slice A3 N c3] 23)) fun e w' => e = .returned (.tuple #[]) ∧ FrS w w.heap.size w3.heap.size (.slice A3 N c3) N (looksF (t.items 1)) (fun i => w1.heap.size ≤ i ∧ i < w2.heap.size) vb w') := Lib.hid (by
         have ka := HK1.out.2.2.keep ((HK2.out.1.trans HK3.out.1 (fun _ _ h => h)).alloc (.cells #[.slice A3 N c3] 23)) (fun _ _ h => h)
         rw [HXA.out]
         refine (spoil_rec _ va _ _ (Nat.le_refl _) ka.spoilt).mono fun e w' h => ⟨h.1, HS3.out.step h.2.1 fun i hi => ?_⟩
         have e0 := World.size_alloc w (.cells #[.bool false] 4)
         have e1 := HK2.out.1.size
         have e2 := HK3.out.1.size
         refine ⟨by omega, by omega, by omega, fun hg => ?_, by omega⟩
         have := HK3.out.2.2 i hg
         omega))
    | ((try refine ⟨trivial, ?_⟩); (try refine ⟨hdd _, ?_⟩); gi_at_call 16; have _t := t2; clear t2; refine (callsIn_wide.2 HSA.out).mono ?_; rintro e w4 ⟨rfl, hs4⟩; have HS4 := Lib.hid hs4; clear hs4)
    | ((try refine ⟨trivial, ?_⟩); (try refine ⟨hdd _, ?_⟩); gi_at_call 17; refine (callsIn_wide.2 (HF.out _ HS4.out.keep)).mono ?_; rintro e w5 ⟨xc, rfl, HK5⟩)
    | ((try refine ⟨trivial, ?_⟩); (try refine ⟨hdd _, ?_⟩); gi_at_call 16; refine (callsIn_wide.2 HK5.out.2).mono ?_; rintro e w6 ⟨rfl, hk6⟩
       have HS6 : Hid (FrS w w.heap.size w3.heap.size (.slice A3 N c3) N (looksF (t.items 1)) (fun i => w1.heap.size ≤ i ∧ i < w2.heap.size) vb w6 ∧ w3.heap.size < w6.heap.size) := Lib.hid (by
         have f4 := HS4.out
         have l4 := f4.list.lt
         have r4 := f4.res.lt
         have s6 := hk6.size
         have s5 := HK5.out.1.size
         refine ⟨(f4.same HK5.out.1).step hk6 fun i hi => ⟨by have := f4.keep.size; omega, by omega, by omega, fun hg => ?_, ?_⟩, by omega⟩
         · have := (f4.row.lt i hg).2
           omega
         · have e2 := HK3.out.1.size
           omega)
       clear hk6)
    | ((try refine ⟨trivial, ?_⟩); (try refine ⟨hdd _, ?_⟩); gi_at_call 9; refine (callsIn_wide.2 (HE.out _ (HS6.out.1.keep.alloc _))).mono ?_; rintro e w7 ⟨vt, b, rfl, HK7⟩))
  obtain ⟨k7, e3, b3, hb3, a3, d3⟩ := HK7.out
  obtain ⟨f6, hlt6⟩ := HS6.out
  obtain ⟨r, hr⟩ : ∃ r, r = w.heap.size := ⟨_, rfl⟩
  obtain ⟨p, hp⟩ : ∃ p, p = w3.heap.size := ⟨_, rfl⟩
  obtain ⟨i, hi⟩ : ∃ i, i = w6.heap.size := ⟨_, rfl⟩
  have ka : Keeps (fun _ => False) w6 w7 := ((Keeps.refl _ w6).alloc _).trans k7 (fun _ _ h => h)
  have f7 := f6.same ka
  have bi : Blk w7 i 3 [.int .i64 0] := by rw [hi]; exact k7.blk (Blk.new w6 _ _) (fun h => h)
  have hB3 := Lib.hid b3
  have hlt : b < w7.heap.size := (Array.getElem?_eq_some_iff.1 b3).1
  have hBl : ∀ B', B' ∈ [i] → B' < w7.heap.size := fun B' h => by rw [List.mem_singleton.1 h]; exact bi.lt
  have hOB : ∀ k, OwnB [i] w7 k → k = i := fun k h => by
    rcases h with h | ⟨B', hB', a, n', c', hc, rfl⟩
    · exact List.mem_singleton.1 h
    · obtain rfl := List.mem_singleton.1 hB'
      have h1 : w7.cell? ⟨B', 0, none⟩ = some (.int .i64 0) := bi.cell 0
      rw [hc] at h1
      injection h1 with h1
      cases h1
  have hat : At (fun k => ¬ OwnB [i] w7 k) w7 vt := a3.mono fun k hk _ ho => by
    have h1 := hOB k ho
    simp at hk
    omega
  rw [← hr, ← hp] at f7
  have hri : r ≠ i ∧ p ≠ i := ⟨by have := f6.res.lt; omega, by omega⟩
  have hik : w.heap.size ≤ i := by have := f6.keep.size; omega
  have hdb : ∀ k, w1.heap.size ≤ k ∧ k < w2.heap.size → k ≠ i := fun k hk => by
    have e2 := HK3.out.1.size
    omega
  have hI0 : TyI w r p i (.slice A3 N c3) t vt [] w7 ∧ At (fun k => w1.heap.size ≤ k ∧ k < w2.heap.size) w7 vb := ⟨⟨f7.keep, hat, f7.res, f7.list, bi, by rw [← HNN.out]; exact f7.row⟩, f7.at_⟩
  rw [← hr, ← hp, ← hi]
  have HRR := Lib.hid (And.intro hr (And.intro hri (And.intro hik hdb)))
  have HD := Lib.hid f7.keep.size
  have HKB := Lib.hid HK2.out.2.1
  clear hr hp hi HK7 HS6 HS4 HS3 HSA HK5 HBD HL HF HE k7 b3 hb3 a3 ka f7 f6 bi hlt6 hri hik hdb
  refine wpIn_rangeFunc_next (by omega) (gf := 35) (lb := #[.pointer (some ⟨b, 0, none⟩)]) rfl (enters_of Try.func35 (by kernel_rfl) rfl)
    (all_next _ [i] b vt w7 hBl (fun k h => by rw [hOB k h]; exact hBl i (List.mem_singleton.2 rfl)) hB3.out hat (by omega)) (fun h k => KpO.trans h k) (fun W l o o' h1 h2 h3 _ => OwnB.kb hBl W l o o' h1 h2 h3) (fun _ => rfl)
    (fun pre W => TyI w r p i (.slice A3 N c3) t vt pre W ∧ At (fun k => w1.heap.size ≤ k ∧ k < w2.heap.size) W vb) (fun _ _ _ => False) (ownFrom_cells _ _ fun _ _ _ h k => ⟨h.1.ck k HD.out, h.2.ck k⟩) (fun _ _ _ _ _ h _ _ => h) hI0
    (fun x => { tmps := #[.slice A n c, undef, .pointer (some ⟨r, 0, none⟩), xa, .nilIface, xb, .nilIface, undef, undef, undef, undef, .pointer (some ⟨p, 0, none⟩), .nilIface, xc, .nilIface, .pointer (some ⟨i, 0, none⟩), .func (.func 35) #[] #[.pointer (some ⟨b, 0, none⟩)], undef, vv x.1.2, .tuple #[xa, .nilIface], .slice A n c, .tuple #[xa, .nilIface], xa, .nilIface, .tuple #[xb, .nilIface], .slice A n c, .tuple #[xb, .nilIface], xb, .nilIface, .nilIface, .bool false, .bool false, .nilIface, .bool false, .bool false, undef, undef, undef, undef, undef, undef, undef, undef, undef, undef, undef, undef, undef, undef, undef, undef, undef, undef, undef, undef, undef, .tuple #[.slice A3 N c3, .nilIface], .slice A n c, .tuple #[.slice A3 N c3, .nilIface], .slice A3 N c3, .nilIface, .slice A3 N c3, .int .i64 N, .bool false, xa, .tuple #[], .tuple #[xc, .nilIface], .slice A n c, .tuple #[xc, .nilIface], xc, .nilIface, xc, .tuple #[], .slice A n c, .func (.func 35) #[] #[.pointer (some ⟨b, 0, none⟩)], .func (.func 35) #[] #[.pointer (some ⟨b, 0, none⟩)], .bool false, .func (.func 35) #[] #[.pointer (some ⟨b, 0, none⟩)], .int .i64 (x.1.1 : Nat), vv x.1.2, undef, undef, undef, undef, undef, undef, undef, undef, undef, undef, undef, undef, undef, undef, undef, undef, undef, undef, undef, undef, undef, undef, undef, undef, undef, undef, undef, undef, undef, undef, undef, undef, undef, undef, undef, undef, undef], defers := [] }) ?assign ?body ?done ?stop
  case assign =>
    intro l x W K hK
    simp only [encI]
    gi_wp2
    exact hK
  case stop =>
    rintro D c2 pre W _ _ h _
    exact h.elim
  case body =>
    rintro l pre x W ⟨hI, hvb⟩ hok
    have hnx := next_item hok
    obtain ⟨j, hj⟩ : ∃ j, j = pre.length := ⟨_, rfl⟩
    rw [← hj] at hnx
    have hrow := hI.row
    have hlt : j < vt.count := (List.getElem?_eq_some_iff.1 hnx).1
    have hjN : j < N := by rw [HNN.out, ← e3, VT.count_erase]; exact hlt
    rw [← e3, looksF_erase, VT.count_erase] at hrow
    have hNv : N = vt.count := by rw [HNN.out, ← e3, VT.count_erase]
    rw [hNv] at hrow
    obtain ⟨g, rfl, hrg⟩ := seen_range hrow hlt hnx
    have HBP : Hid (Blk W p 23 [.slice (some ⟨g, 0, none⟩) N c3]) := Lib.hid hI.list
    have HBI : Hid (Blk W i 3 [.int .i64 j]) := Lib.hid (by rw [hj]; exact hI.idx)
    have HI := Lib.hid (And.intro hI hvb)
    have ci := HBI.out.cell 0
    have cp := HBP.out.cell 0
    have HJ := Lib.hid hj
    have hww : IntKind.i64.wrap ((j : Int) + 1) = (j : Int) + 1 := by rw [IntKind.wrap_i64]; omega
    obtain ⟨⟨d0, y⟩, hmem⟩ := x
    obtain ⟨s0, s1, s2, s3, s4, s5, hs6⟩ := seenV_six d0 y
    simp only at hrg
    rw [hs6] at hrg
    have q0 := hrg 0 _ rfl
    have q1 := hrg 1 _ rfl
    have q2 := hrg 2 _ rfl
    have q3 := hrg 3 _ rfl
    have q4 := hrg 4 _ rfl
    have q5 := hrg 5 _ rfl
    rw [Nat.add_zero] at q0
    have HKD : Hid (∀ W2, Keeps (fun _ => False) W W2 → Calls Try.prog 10 #[vv y, .agg #[s0, s1, s2, s3, s4, s5]] W2 fun e w' => e = .returned (.bool true) ∧ Keeps (fun _ => False) W2 w') := Lib.hid fun W2 hW => by
      have h1 := lkind_any W2 _ y ((hI.at_.item 1 _ hmem).keep hW (fun _ _ h => h)) d0
      rw [hs6] at h1
      exact h1
    obtain ⟨yv, hyv⟩ : ∃ v, v = vv y := ⟨_, rfl⟩
    rw [← hyv] at HKD
    simp only
    rw [← hyv]
    clear hyv hs6 hrg hnx hrow hj hNv hI0 hat hOB hlt hI hok
    gi_wp2_with ((try refine ⟨trivial, ?_⟩); (try refine ⟨hdd _, ?_⟩); gi_at_call 10; refine (CallsIn.inRound l (callsIn_wide.2 (HKD.out _ (Keeps.refl _ _)))).mono ?_; rintro e W2 ⟨rfl, hk2⟩; have HK2 := Lib.hid hk2; have ci2 := (hk2.blk HBI.out (fun h => h)).cell 0; have cf2 := (hk2.blk HBI.out (fun h => h)).frozen 0; clear hk2)
    have h5 := HI.out.1.next (B := w7.heap.size) (x := ⟨(d0, y), hmem⟩) HK2.out HRR.out.2.2.1 HRR.out.2.1.1 HRR.out.2.1.2 HJ.out
    refine ⟨h5.1, h5.2.1, h5.2.2, hvb.keep ((HK2.out.mono (G := fun k => k = i) (fun _ _ h => h.elim)).setCell (p := ⟨i, 0, none⟩) (.inl rfl) _) (fun k hk e => HRR.out.2.2.2 k hk e)⟩
  case done =>
    rintro D ys W hDl hys ⟨hI, hvb⟩ hK
    have hNv : N = vt.count := by rw [HNN.out, ← e3, VT.count_erase]
    have hl : ys.length = N := by
      have h1 := congrArg List.length hys
      rw [hNv]
      simpa [VT.count] using h1
    have hbi := hI.idx
    rw [hl] at hbi
    have hrow := hI.row
    rw [← e3, looksF_erase, VT.count_erase, hNv] at hrow
    obtain ⟨l0, h0⟩ := vt.items_head 1
    have h00 : (vt.items 1)[0]? = some (1, vt) := by rw [h0]; rfl
    obtain ⟨g, rfl, hrg⟩ := seen_range hrow (by omega) h00
    obtain ⟨s0, s1, s2, s3, s4, s5, hs6⟩ := seenV_six 1 vt
    simp only at hrg
    rw [hs6, Nat.zero_mul] at hrg
    have q0 := hrg 0 _ rfl
    have q1 := hrg 1 _ rfl
    have q2 := hrg 2 _ rfl
    have q3 := hrg 3 _ rfl
    have q4 := hrg 4 _ rfl
    have q5 := hrg 5 _ rfl
    simp only [Nat.zero_add] at q0 q1 q2 q3 q4 q5
    have HBP : Hid (Blk W p 23 [.slice (some ⟨g, 0, none⟩) N c3]) := Lib.hid hI.list
    have ci := hbi.cell 0
    have cp := HBP.out.cell 0
    have HKD : Hid (∀ W2, Keeps (fun _ => False) W W2 → Calls Try.prog 10 #[xb, .agg #[s0, s1, s2, s3, s4, s5]] W2 fun e w' => e = .returned (.bool true) ∧ Keeps (fun _ => False) W2 w') := Lib.hid fun W2 hW => by
      have h1 := lkind_any W2 _ vb (hvb.keep hW (fun _ _ h => h)) 1
      rw [← seenV_erase, HKB.out, ← e3, seenV_erase, hs6] at h1
      rw [HXB.out]
      exact h1
    have HBI := Lib.hid hbi
    have HI := Lib.hid hI
    have HK := Lib.hid hK
    have HDL := Lib.hid hDl
    clear hNv hl hrow h0 h00 hs6 hrg hys hI hK hbi hI0 hat hOB hlt hvb hDl
    gi_wp2_with (first
      | ((try refine ⟨trivial, ?_⟩); (try refine ⟨hdd _, ?_⟩); gi_at_call 10; refine (callsIn_wide.2 (HKD.out _ (Keeps.refl _ _))).mono ?_; rintro e W2 ⟨rfl, hk2⟩; have HK2 := Lib.hid hk2; have ci2 := (hk2.blk HBI.out (fun h => h)).cell 0; have cp2 := (hk2.blk HBP.out (fun h => h)).cell 0; clear hk2)
      | ((try refine ⟨trivial, ?_⟩); (try refine ⟨hdd _, ?_⟩); gi_at_call 11; refine (callsIn_wide.2 (works_any _)).mono ?_; rintro e W3 ⟨rfl, hk3⟩; have hk := HK2.out.trans hk3 (fun _ _ h => h); have HKK := Lib.hid hk; have z0 := (hk.blk HI.out.res (fun h => h)).cell 0; have z1 := (hk.blk HI.out.res (fun h => h)).frozen 0; clear hk hk3))
    have hb3 := (HKK.out.blk HI.out.res (fun h => h)).set_ 0 (.bool true)
    have hk3 : Keeps (fun k => k = r) W (W3.setCell ⟨r, 0, none⟩ (.bool true)) := (HKK.out.mono (G := fun k => k = r) (fun _ _ h => h.elim)).setCell (p := ⟨r, 0, none⟩) (.inl rfl) _
    have hK3 : (W3.setCell ⟨r, 0, none⟩ (.bool true)).heap[D]? = some (.deferred (some [])) := (hk3.block D (Array.getElem?_eq_some_iff.1 HK.out).1 (fun e => by
      have h1 := HI.out.res
      rw [← e] at h1
      have h2 := HK.out
      rw [show W.heap[D]? = _ from h1] at h2
      cases h2)).trans HK.out
    refine ⟨by simp, .inl ⟨_, _, rfl, run_takeDeferred hK3, ?_⟩⟩
    have kq : CK w7.heap.size (W3.setCell ⟨r, 0, none⟩ (.bool true)) ((W3.setCell ⟨r, 0, none⟩ (.bool true)).putObj D (.deferred none)) := CK.putObj hK3 rfl HDL.out _
    refine ⟨.bool true, results_bool rfl _ _ r true rfl ((kq.blk hb3).cell 0), rfl, kq.keeps (HI.out.keep.trans hk3 (fun q hq e => ?_)) HD.out⟩
    have h1 := HRR.out.1
    omega
end Go.Proofs.Ytinonjfnhedlpaa
