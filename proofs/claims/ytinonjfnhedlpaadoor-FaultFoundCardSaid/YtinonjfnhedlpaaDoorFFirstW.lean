/-
  WALKS: first (the first that is in an error of which something holds), fault.Is, fault.As.
-/
import Derived.Test.YtinonjfnhedlpaaDoorFNextK
import Derived.Test.YtinonjfnhedlpaaDoorFIsW
set_option linter.unusedSimpArgs false
namespace Go.Fault
open Go Go.RowKit Go.Aff
/-- The first in it of which something holds. -/
def firstT (P : VT → Bool) (t : VT) : Option VT := ((t.items 1).find? fun p => P p.2).map (·.2)
/-- As$1: is it of the kind that is wanted? -/
def asP (want k : Int) : Bool := k == want || (k == 6 && want == 5)
end Go.Fault
namespace Go.Proofs.YtinonjfnhedlpaaDoor
open Go Go.RowKit Go.Shelf Go.Aff Go.Fault
attribute [local go_sem] Oper.semAt_some
def optV : Option VT → Value
  | some t => vv t
  | none => .nilIface
theorem results_two {fn : Func} {p q : Tmp} (h : fn.results = #[.cell p 24, .cell q 4]) (tmps : Array Value) (w : World) (g k : Nat) (v : Value) (b : Bool) (hp : tmps.getD p undef = .pointer (some ⟨g, 0, none⟩)) (hq : tmps.getD q undef = .pointer (some ⟨k, 0, none⟩))
    (hc : w.cell? ⟨g, 0, none⟩ = some v) (hd : w.cell? ⟨k, 0, none⟩ = some (.bool b)) : (results fn tmps).run Tryd.prog w = .ok (.tuple #[v, .bool b]) w := by
  have hp' : tmps[p]?.getD undef = .pointer (some ⟨g, 0, none⟩) := by rw [← hp, Array.getD_eq_getD_getElem?]
  have hq' : tmps[q]?.getD undef = .pointer (some ⟨k, 0, none⟩) := by rw [← hq, Array.getD_eq_getD_getElem?]
  have hu := run_underlying (w := w) Tryd.underlying4
  have hu2 := run_underlying (w := w) Tryd.underlying24
  simp only [results, h]
  simp [Sem.run_bind, Result.andThen, hp', hq', go_sem, hc, hd, hu, hu2]
theorem storeCells_one {P : Program} (p : Addr) (v old : Value) (hv : v.oneCell' = true) (W : World) (h1 : W.cell? p = some old) (h2 : W.frozen? p = false) : (storeCells p [v]).run P W = .ok () (W.setCell p v) := by
  have h0 : p.add 0 = p := by cases p; simp [Addr.add]
  simp [storeCells, Sem.run_bind, h0, run_store P W p v _ hv, h1, h2, Result.andThen]
/-- While it is looked for: of none so far it holds. -/
structure FiI (w : World) (B : Nat) (fv : Value) (P : VT → Bool) (vt : VT) (pre : List (XI (vt.items 1))) (W : World) : Prop where
  keep : Keeps (fun _ => False) w W
  at_ : At (fun i => ¬ OwnB [B + 1, B + 2] W i) W vt
  fn : Blk W B 76 [fv]
  res : Blk W (B + 1) 24 [.nilIface]
  ok : Blk W (B + 2) 4 [.bool false]
  none_ : ∀ q, q ∈ pre → P q.1.2 = false
/-- Where it was found. -/
structure FiX (w : World) (B : Nat) (P : VT → Bool) (vt : VT) (c : Code) (pre : List (XI (vt.items 1))) (W : World) : Prop where
  code : c = .ret
  keep : Keeps (fun _ => False) w W
  found : ∃ pr x, pre = pr ++ [x] ∧ (∀ q, q ∈ pr → P q.1.2 = false) ∧ P x.1.2 = true ∧ Blk W (B + 1) 24 [vv x.1.2] ∧ Blk W (B + 2) 4 [.bool true]
theorem FiI.ck {w : World} {B m : Nat} {fv : Value} {P : VT → Bool} {vt : VT} {pre : List (XI (vt.items 1))} {W W' : World} (h : FiI w B fv P vt pre W) (k : CK m W W') (hm : w.heap.size ≤ m) : FiI w B fv P vt pre W' :=
  ⟨k.keeps h.keep hm, (h.at_.ck k).mono fun j hj _ ho => hj (OwnB.ck k (fun B' hB' => by
    simp only [List.mem_cons, List.not_mem_nil, or_false] at hB'
    rcases hB' with rfl | rfl
    · exact ⟨_, _, _, h.res⟩
    · exact ⟨_, _, _, h.ok⟩) ho), k.blk h.fn, k.blk h.res, k.blk h.ok, h.none_⟩
theorem FiX.ck {w : World} {B m : Nat} {P : VT → Bool} {vt : VT} {c : Code} {pre : List (XI (vt.items 1))} {W W' : World} (h : FiX w B P vt c pre W) (k : CK m W W') (hm : w.heap.size ≤ m) : FiX w B P vt c pre W' := by
  obtain ⟨h1, h2, pr, x, h3, h4, h5, h6, h7⟩ := h
  exact ⟨h1, k.keeps h2 hm, pr, x, h3, h4, h5, k.blk h6, k.blk h7⟩
theorem first_of {P : VT → Bool} {t : VT} {l : List (Nat × VT)} {x : Nat × VT} (h : l ++ [x] <+: t.items 1) (hl : ∀ q, q ∈ l → P q.2 = false) (hx : P x.2 = true) : firstT P t = some x.2 := by
  obtain ⟨r, hr⟩ := h
  unfold firstT
  rw [← hr, List.append_assoc, List.find?_append, List.find?_eq_none.2 (fun q hq => by rw [hl q hq]; decide)]
  simp [hx]
theorem first_none {P : VT → Bool} {t : VT} (hl : ∀ q, q ∈ t.items 1 → P q.2 = false) : firstT P t = none := by
  unfold firstT
  rw [List.find?_eq_none.2 (fun q hq => by rw [hl q hq]; decide)]
  rfl
set_option maxHeartbeats 4000000 in
set_option maxRecDepth 100000 in
theorem first_is (w : World) (a : Addr) (P : VT → Bool) (t : VT) (hat : At (fun i => i < w.heap.size) w t) (hd : t.deep ≤ 1048575)
    (HP : ∀ (W : World) (x : VT), Keeps (fun _ => False) w W → At (fun _ => True) W x → Calls Tryd.prog 19 #[vv x, .pointer (some a)] W fun e w' => e = .returned (.bool (P x)) ∧ Keeps (fun _ => False) W w') :
    Calls Tryd.prog 18 #[vv t, .func (.func 19) #[] #[.pointer (some a)]] w fun e w' => e = .returned (.tuple #[optV (firstT P t), .bool (firstT P t).isSome]) ∧ Keeps (fun _ => False) w w' := by
  have hdd : ∀ k : Nat, (Fence.wide.depth.isSome = true → 1 ≤ k) := fun k h => by cases h
  have HP := Lib.hid HP
  have HAT := Lib.hid hat
  obtain ⟨tv, htv⟩ : ∃ v, v = vv t := ⟨_, rfl⟩
  have HTV := Lib.hid htv
  rw [← htv]
  clear hat htv
  refine (callsIn_wide (n := 8)).1 ?_
  refine callsIn_of_wp_marks Tryd.func18 rfl trivial ?_ rfl
  simp only [Tryd.ntmps18, List.size_toArray, List.length_cons, List.length_nil, Nat.reduceAdd, Nat.reduceSub, Array.replicate_succ, Array.replicate_zero, List.push_toArray, List.append_toArray, List.nil_append, List.cons_append]
  gi_wp2_with ((try refine ⟨trivial, ?_⟩); (try refine ⟨hdd _, ?_⟩); gi_at_call 16; rw [HTV.out]; refine (callsIn_wide.2 (all_any _ t)).mono ?_; rintro e w2 ⟨rfl, hw2⟩; have HW2 := Lib.hid hw2; clear hw2)
  obtain ⟨B, hB⟩ : ∃ B, B = w.heap.size := ⟨_, rfl⟩
  obtain ⟨fv, hfv⟩ : ∃ v : Value, v = .func (.func 19) #[] #[.pointer (some a)] := ⟨_, rfl⟩
  have hw2 := HW2.out
  rw [← hfv] at hw2
  have k2 : Keeps (fun _ => False) w w2 := by rw [hw2]; exact ((((Keeps.refl _ w).alloc _).alloc _).alloc _).alloc _
  have b0 : Blk w2 B 76 [fv] := by rw [hw2, hB]; exact (((Blk.new w _ _).alloc _).alloc _).alloc _
  have b1 : Blk w2 (B + 1) 24 [.nilIface] := by
    have h1 := ((Blk.new (w.alloc (.cells #[fv] 76)) 24 [.nilIface]).alloc (.cells #[.bool false] 4)).alloc (.cells #[vv t] 24)
    rw [World.size_alloc] at h1
    rw [hw2, hB]
    exact h1
  have b2 : Blk w2 (B + 2) 4 [.bool false] := by
    have h1 := (Blk.new ((w.alloc (.cells #[fv] 76)).alloc (.cells #[.nilIface] 24)) 4 [.bool false]).alloc (.cells #[vv t] 24)
    rw [World.size_alloc, World.size_alloc] at h1
    rw [hw2, hB]
    exact h1
  have b3 : Blk w2 (B + 3) 24 [vv t] := by
    have h1 := Blk.new (((w.alloc (.cells #[fv] 76)).alloc (.cells #[.nilIface] 24)).alloc (.cells #[.bool false] 4)) 24 [vv t]
    rw [World.size_alloc, World.size_alloc, World.size_alloc] at h1
    rw [hw2, hB]
    exact h1
  have hBl : ∀ B', B' ∈ [B + 1, B + 2] → B' < w2.heap.size := fun B' h => by
    simp only [List.mem_cons, List.not_mem_nil, or_false] at h
    rcases h with rfl | rfl
    · exact b1.lt
    · exact b2.lt
  have hOB : ∀ i, OwnB [B + 1, B + 2] w2 i → i = B + 1 ∨ i = B + 2 := fun i h => by
    rcases h with h | ⟨B', hB', a, n', c', hc, rfl⟩
    · simpa using h
    · simp only [List.mem_cons, List.not_mem_nil, or_false] at hB'
      rcases hB' with rfl | rfl
      · have h1 : w2.cell? ⟨B + 1, 0, none⟩ = some .nilIface := b1.cell 0
        rw [hc] at h1
        injection h1 with h1
        cases h1
      · have h1 : w2.cell? ⟨B + 2, 0, none⟩ = some (.bool false) := b2.cell 0
        rw [hc] at h1
        injection h1 with h1
        cases h1
  have hat2 : At (fun i => ¬ OwnB [B + 1, B + 2] w2 i) w2 t := (HAT.out.keep k2 (fun _ _ h => h)).mono fun i hi _ ho => by have := hOB i ho; omega
  have hI0 : FiI w B fv P t [] w2 := ⟨k2, hat2, b0, b1, b2, fun q h => by cases h⟩
  rw [← hfv, ← hB]
  simp only [show B + 1 + 1 = B + 2 from rfl, show B + 2 + 1 = B + 3 from rfl]
  have HBW := Lib.hid hB
  have HFV := Lib.hid hfv
  have hB3 := Lib.hid b3
  clear hB hw2 HW2 hfv b0 b1 b2 b3 HAT
  refine wpIn_rangeFunc_next (by omega) (gf := 32) (lb := #[.pointer (some ⟨B + 3, 0, none⟩)]) rfl (enters_of Tryd.func32 (by kernel_rfl) rfl)
    (all_next _ [B + 1, B + 2] (B + 3) t w2 hBl (fun k h => by rcases hOB k h with rfl | rfl; exact hBl _ (by simp); exact hBl _ (by simp)) hB3.out hat2 hd) (fun h k => KpO.trans h k) (fun W l o o' h1 h2 h3 _ => OwnB.kb hBl W l o o' h1 h2 h3) (fun _ => rfl)
    (FiI w B fv P t) (FiX w B P t) (ownFrom_cells _ _ fun _ _ _ h k => h.ck k k2.size) (fun c => ownFrom_cells _ _ fun _ _ _ h k => h.ck k k2.size) hI0
    (fun x => { tmps := #[vv t, fv, undef, .pointer (some ⟨B, 0, none⟩), .pointer (some ⟨B + 1, 0, none⟩), .pointer (some ⟨B + 2, 0, none⟩), undef, vv x.1.2, vv t, .func (.func 32) #[] #[.pointer (some ⟨B + 3, 0, none⟩)], .int .i64 (x.1.1 : Nat), vv x.1.2, undef, undef, undef, undef], defers := [] }) ?assign ?body ?done ?stop
  case assign =>
    intro l x W K hK
    simp only [encI]
    gi_wp2
    exact hK
  case body =>
    have hfv2 := HFV.out
    subst hfv2
    rintro l pre x W hI hok
    have HI := Lib.hid hI
    have HOK := Lib.hid hok
    have HPX : Hid (Calls Tryd.prog 19 #[vv x.1.2, .pointer (some a)] W fun e w' => e = .returned (.bool (P x.1.2)) ∧ Keeps (fun _ => False) W w') := Lib.hid (HP.out W x.1.2 hI.keep ((hI.at_.item 1 _ x.2).mono fun _ _ _ => trivial))
    have c0 := hI.fn.cell 0
    obtain ⟨tv, htv⟩ : ∃ v, v = vv t := ⟨_, rfl⟩
    obtain ⟨xv, hxv⟩ : ∃ v, v = vv x.1.2 := ⟨_, rfl⟩
    rw [← htv, ← hxv]
    rw [← hxv] at HPX
    have HXV := Lib.hid hxv
    have hsh : xv = .nilIface ∨ ∃ T y, xv = .iface T y := by
      rw [hxv]
      cases x.1.2 <;> first | exact .inl rfl | exact .inr ⟨_, _, rfl⟩
    cases hP : P x.1.2 with
    | false =>
      rw [hP] at HPX
      have HPP := Lib.hid hP
      clear hI hok hI0 hat2 hOB htv hxv hP hsh
      gi_wp2_with ((try refine ⟨trivial, ?_⟩); (try refine ⟨hdd _, ?_⟩); gi_at_call 19; refine (CallsIn.inRound l (callsIn_wide.2 HPX.out)).mono ?_; rintro e W2 ⟨rfl, hk2⟩)
      have kp : KpO (OwnB [B + 1, B + 2]) W W2 := ⟨hk2.size, fun k c t fr hc _ => (hk2.block k (Array.getElem?_eq_some_iff.1 hc).1 (fun h => h)).trans hc, fun k ho => .inl (OwnB.old (m := W.heap.size) (fun B' hB' => by simp only [List.mem_cons, List.not_mem_nil, or_false] at hB'; rcases hB' with rfl | rfl; exact HI.out.res.lt; exact HI.out.ok.lt) (fun j hj => hk2.block j hj (fun h => h)) ho)⟩
      refine ⟨keepsFrom_of (F := fun _ => False) _ hk2 (fun _ h => h.elim), kp, HI.out.keep.trans hk2 (fun _ _ h => h), HI.out.at_.kp kp, hk2.blk HI.out.fn (fun h => h), hk2.blk HI.out.res (fun h => h), hk2.blk HI.out.ok (fun h => h), fun q hq => ?_⟩
      rcases List.mem_append.1 hq with h | h
      · exact HI.out.none_ q h
      · rw [List.mem_singleton.1 h]
        exact HPP.out
    | true =>
      rw [hP] at HPX
      have HPP := Lib.hid hP
      clear hI hok hI0 hat2 hOB htv hxv hP
      rcases hsh with rfl | ⟨T0, y0, rfl⟩
      · gi_wp2_with ((try refine ⟨trivial, ?_⟩); (try refine ⟨hdd _, ?_⟩); gi_at_call 19; refine (CallsIn.inRound l (callsIn_wide.2 HPX.out)).mono ?_; rintro e W2 ⟨rfl, hk2⟩; have HK2 := Lib.hid hk2; have e1 := hk2.blk HI.out.res (fun h => h); have e2 := hk2.blk HI.out.ok (fun h => h); have q0 := e1.cell 0; have q1 := e1.frozen 0; have q2 := e2.cell 0; have q3 := e2.frozen 0; have HE1 := Lib.hid e1; have HE2 := Lib.hid e2; clear e1 e2 hk2)
        have hk3 : Keeps (fun i => i = B + 1 ∨ i = B + 2) W ((W2.setCell ⟨B + 1, 0, none⟩ Value.nilIface).setCell ⟨B + 2, 0, none⟩ (.bool true)) := ((HK2.out.mono (G := fun i => i = B + 1 ∨ i = B + 2) (fun _ _ h => h.elim)).setCell (p := ⟨B + 1, 0, none⟩) (.inl (.inl rfl)) _).setCell (p := ⟨B + 2, 0, none⟩) (.inl (.inr rfl)) _
        refine ⟨keepsFrom_of _ hk3 (fun k hk => ?_), rfl, HI.out.keep.trans hk3 (fun k hk e => by have := HBW.out; omega), pre, x, rfl, HI.out.none_, HPP.out, ?_, ?_⟩
        · rcases hk with rfl | rfl
          · exact ⟨_, _, _, HI.out.res⟩
          · exact ⟨_, _, _, HI.out.ok⟩
        · rw [← HXV.out]
          exact (HE1.out.set_ 0 Value.nilIface).far (p := ⟨B + 2, 0, none⟩) (by simp) _
        · exact (HE2.out.far (p := ⟨B + 1, 0, none⟩) (by simp) _).set_ 0 _
      · gi_wp2_with ((try refine ⟨trivial, ?_⟩); (try refine ⟨hdd _, ?_⟩); gi_at_call 19; refine (CallsIn.inRound l (callsIn_wide.2 HPX.out)).mono ?_; rintro e W2 ⟨rfl, hk2⟩; have HK2 := Lib.hid hk2; have e1 := hk2.blk HI.out.res (fun h => h); have e2 := hk2.blk HI.out.ok (fun h => h); have q0 := e1.cell 0; have q1 := e1.frozen 0; have q2 := e2.cell 0; have q3 := e2.frozen 0; have HE1 := Lib.hid e1; have HE2 := Lib.hid e2; clear e1 e2 hk2)
        have hk3 : Keeps (fun i => i = B + 1 ∨ i = B + 2) W ((W2.setCell ⟨B + 1, 0, none⟩ (.iface T0 y0)).setCell ⟨B + 2, 0, none⟩ (.bool true)) := ((HK2.out.mono (G := fun i => i = B + 1 ∨ i = B + 2) (fun _ _ h => h.elim)).setCell (p := ⟨B + 1, 0, none⟩) (.inl (.inl rfl)) _).setCell (p := ⟨B + 2, 0, none⟩) (.inl (.inr rfl)) _
        refine ⟨keepsFrom_of _ hk3 (fun k hk => ?_), rfl, HI.out.keep.trans hk3 (fun k hk e => by have := HBW.out; omega), pre, x, rfl, HI.out.none_, HPP.out, ?_, ?_⟩
        · rcases hk with rfl | rfl
          · exact ⟨_, _, _, HI.out.res⟩
          · exact ⟨_, _, _, HI.out.ok⟩
        · rw [← HXV.out]
          exact (HE1.out.set_ 0 (.iface T0 y0)).far (p := ⟨B + 2, 0, none⟩) (by simp) _
        · exact (HE2.out.far (p := ⟨B + 1, 0, none⟩) (by simp) _).set_ 0 _
  case stop =>
    rintro D c2 pre W hD hp hX hK
    obtain ⟨rfl, h1, pr, x, rfl, h3, h4, h5, h6⟩ := hX
    have hf : firstT P t = some x.1.2 := by
      have h7 : (pr ++ [x]).map (·.1) <+: t.items 1 := hp
      rw [List.map_append, List.map_singleton] at h7
      refine first_of h7 (fun q hq => ?_) h4
      obtain ⟨q2, hq2, rfl⟩ := List.mem_map.1 hq
      exact h3 q2 hq2
    have kq : CK w2.heap.size W (W.putObj D (.deferred none)) := CK.putObj hK rfl hD _
    obtain ⟨tv, htv⟩ : ∃ v, v = vv t := ⟨_, rfl⟩
    rw [← htv]
    clear htv
    gi_wp2
    refine ⟨by simp, .inl ⟨_, _, rfl, run_takeDeferred hK, ?_⟩⟩
    refine ⟨_, results_two rfl _ _ (B + 1) (B + 2) (vv x.1.2) true rfl rfl ((kq.blk h5).cell 0) ((kq.blk h6).cell 0), ?_, kq.keeps h1 k2.size⟩
    rw [hf]
    rfl
  case done =>
    rintro D ys W hD hys hI hK
    have hf : firstT P t = none := first_none fun q hq => by
      rw [← show ys.map (·.1) = t.items 1 from hys] at hq
      obtain ⟨q2, hq2, rfl⟩ := List.mem_map.1 hq
      exact hI.none_ q2 hq2
    have HI := Lib.hid hI
    have HK := Lib.hid hK
    have HDD := Lib.hid hD
    have HF := Lib.hid hf
    have q0 := hI.res.cell 0
    have q1 := hI.res.frozen 0
    have q2 := hI.ok.cell 0
    have q3 := hI.ok.frozen 0
    obtain ⟨tv, htv⟩ : ∃ v, v = vv t := ⟨_, rfl⟩
    rw [← htv]
    clear htv hI hK hD hf hI0 hat2 hOB hys
    gi_wp2
    have hk3 : Keeps (fun i => i = B + 1 ∨ i = B + 2) W ((W.setCell ⟨B + 1, 0, none⟩ .nilIface).setCell ⟨B + 2, 0, none⟩ (.bool false)) := ((Keeps.refl (fun i => i = B + 1 ∨ i = B + 2) W).setCell (p := ⟨B + 1, 0, none⟩) (.inl (.inl rfl)) _).setCell (p := ⟨B + 2, 0, none⟩) (.inl (.inr rfl)) _
    have hK3 : ((W.setCell ⟨B + 1, 0, none⟩ .nilIface).setCell ⟨B + 2, 0, none⟩ (.bool false)).heap[D]? = some (.deferred (some [])) := (hk3.block D (Array.getElem?_eq_some_iff.1 HK.out).1 (fun e => by
      have h2 := HK.out
      rcases e with rfl | rfl
      · rw [show W.heap[B + 1]? = _ from HI.out.res] at h2
        cases h2
      · rw [show W.heap[B + 2]? = _ from HI.out.ok] at h2
        cases h2)).trans HK.out
    refine ⟨by simp, .inl ⟨_, _, rfl, run_takeDeferred hK3, ?_⟩⟩
    have kq : CK w2.heap.size ((W.setCell ⟨B + 1, 0, none⟩ .nilIface).setCell ⟨B + 2, 0, none⟩ (.bool false)) (((W.setCell ⟨B + 1, 0, none⟩ .nilIface).setCell ⟨B + 2, 0, none⟩ (.bool false)).putObj D (.deferred none)) := CK.putObj hK3 rfl HDD.out _
    refine ⟨_, results_two rfl _ _ (B + 1) (B + 2) .nilIface false rfl rfl ((kq.blk ((HI.out.res.set_ 0 .nilIface).far (p := ⟨B + 2, 0, none⟩) (by simp) _)).cell 0) ((kq.blk ((HI.out.ok.far (p := ⟨B + 1, 0, none⟩) (by simp) .nilIface).set_ 0 (.bool false))).cell 0), ?_, kq.keeps (HI.out.keep.trans hk3 (fun k hk e => by have := HBW.out; omega)) k2.size⟩
    rw [HF.out]
    rfl
set_option maxHeartbeats 4000000 in
set_option maxRecDepth 100000 in
theorem first_as (w : World) (a : Addr) (P : VT → Bool) (t : VT) (hat : At (fun i => i < w.heap.size) w t) (hd : t.deep ≤ 1048575)
    (HP : ∀ (W : World) (x : VT), Keeps (fun _ => False) w W → At (fun _ => True) W x → Calls Tryd.prog 27 #[vv x, .pointer (some a)] W fun e w' => e = .returned (.bool (P x)) ∧ Keeps (fun _ => False) W w') :
    Calls Tryd.prog 18 #[vv t, .func (.func 27) #[] #[.pointer (some a)]] w fun e w' => e = .returned (.tuple #[optV (firstT P t), .bool (firstT P t).isSome]) ∧ Keeps (fun _ => False) w w' := by
  have hdd : ∀ k : Nat, (Fence.wide.depth.isSome = true → 1 ≤ k) := fun k h => by cases h
  have HP := Lib.hid HP
  have HAT := Lib.hid hat
  obtain ⟨tv, htv⟩ : ∃ v, v = vv t := ⟨_, rfl⟩
  have HTV := Lib.hid htv
  rw [← htv]
  clear hat htv
  refine (callsIn_wide (n := 8)).1 ?_
  refine callsIn_of_wp_marks Tryd.func18 rfl trivial ?_ rfl
  simp only [Tryd.ntmps18, List.size_toArray, List.length_cons, List.length_nil, Nat.reduceAdd, Nat.reduceSub, Array.replicate_succ, Array.replicate_zero, List.push_toArray, List.append_toArray, List.nil_append, List.cons_append]
  gi_wp2_with ((try refine ⟨trivial, ?_⟩); (try refine ⟨hdd _, ?_⟩); gi_at_call 16; rw [HTV.out]; refine (callsIn_wide.2 (all_any _ t)).mono ?_; rintro e w2 ⟨rfl, hw2⟩; have HW2 := Lib.hid hw2; clear hw2)
  obtain ⟨B, hB⟩ : ∃ B, B = w.heap.size := ⟨_, rfl⟩
  obtain ⟨fv, hfv⟩ : ∃ v : Value, v = .func (.func 27) #[] #[.pointer (some a)] := ⟨_, rfl⟩
  have hw2 := HW2.out
  rw [← hfv] at hw2
  have k2 : Keeps (fun _ => False) w w2 := by rw [hw2]; exact ((((Keeps.refl _ w).alloc _).alloc _).alloc _).alloc _
  have b0 : Blk w2 B 76 [fv] := by rw [hw2, hB]; exact (((Blk.new w _ _).alloc _).alloc _).alloc _
  have b1 : Blk w2 (B + 1) 24 [.nilIface] := by
    have h1 := ((Blk.new (w.alloc (.cells #[fv] 76)) 24 [.nilIface]).alloc (.cells #[.bool false] 4)).alloc (.cells #[vv t] 24)
    rw [World.size_alloc] at h1
    rw [hw2, hB]
    exact h1
  have b2 : Blk w2 (B + 2) 4 [.bool false] := by
    have h1 := (Blk.new ((w.alloc (.cells #[fv] 76)).alloc (.cells #[.nilIface] 24)) 4 [.bool false]).alloc (.cells #[vv t] 24)
    rw [World.size_alloc, World.size_alloc] at h1
    rw [hw2, hB]
    exact h1
  have b3 : Blk w2 (B + 3) 24 [vv t] := by
    have h1 := Blk.new (((w.alloc (.cells #[fv] 76)).alloc (.cells #[.nilIface] 24)).alloc (.cells #[.bool false] 4)) 24 [vv t]
    rw [World.size_alloc, World.size_alloc, World.size_alloc] at h1
    rw [hw2, hB]
    exact h1
  have hBl : ∀ B', B' ∈ [B + 1, B + 2] → B' < w2.heap.size := fun B' h => by
    simp only [List.mem_cons, List.not_mem_nil, or_false] at h
    rcases h with rfl | rfl
    · exact b1.lt
    · exact b2.lt
  have hOB : ∀ i, OwnB [B + 1, B + 2] w2 i → i = B + 1 ∨ i = B + 2 := fun i h => by
    rcases h with h | ⟨B', hB', a, n', c', hc, rfl⟩
    · simpa using h
    · simp only [List.mem_cons, List.not_mem_nil, or_false] at hB'
      rcases hB' with rfl | rfl
      · have h1 : w2.cell? ⟨B + 1, 0, none⟩ = some .nilIface := b1.cell 0
        rw [hc] at h1
        injection h1 with h1
        cases h1
      · have h1 : w2.cell? ⟨B + 2, 0, none⟩ = some (.bool false) := b2.cell 0
        rw [hc] at h1
        injection h1 with h1
        cases h1
  have hat2 : At (fun i => ¬ OwnB [B + 1, B + 2] w2 i) w2 t := (HAT.out.keep k2 (fun _ _ h => h)).mono fun i hi _ ho => by have := hOB i ho; omega
  have hI0 : FiI w B fv P t [] w2 := ⟨k2, hat2, b0, b1, b2, fun q h => by cases h⟩
  rw [← hfv, ← hB]
  simp only [show B + 1 + 1 = B + 2 from rfl, show B + 2 + 1 = B + 3 from rfl]
  have HBW := Lib.hid hB
  have HFV := Lib.hid hfv
  have hB3 := Lib.hid b3
  clear hB hw2 HW2 hfv b0 b1 b2 b3 HAT
  refine wpIn_rangeFunc_next (by omega) (gf := 32) (lb := #[.pointer (some ⟨B + 3, 0, none⟩)]) rfl (enters_of Tryd.func32 (by kernel_rfl) rfl)
    (all_next _ [B + 1, B + 2] (B + 3) t w2 hBl (fun k h => by rcases hOB k h with rfl | rfl; exact hBl _ (by simp); exact hBl _ (by simp)) hB3.out hat2 hd) (fun h k => KpO.trans h k) (fun W l o o' h1 h2 h3 _ => OwnB.kb hBl W l o o' h1 h2 h3) (fun _ => rfl)
    (FiI w B fv P t) (FiX w B P t) (ownFrom_cells _ _ fun _ _ _ h k => h.ck k k2.size) (fun c => ownFrom_cells _ _ fun _ _ _ h k => h.ck k k2.size) hI0
    (fun x => { tmps := #[vv t, fv, undef, .pointer (some ⟨B, 0, none⟩), .pointer (some ⟨B + 1, 0, none⟩), .pointer (some ⟨B + 2, 0, none⟩), undef, vv x.1.2, vv t, .func (.func 32) #[] #[.pointer (some ⟨B + 3, 0, none⟩)], .int .i64 (x.1.1 : Nat), vv x.1.2, undef, undef, undef, undef], defers := [] }) ?assign ?body ?done ?stop
  case assign =>
    intro l x W K hK
    simp only [encI]
    gi_wp2
    exact hK
  case body =>
    have hfv2 := HFV.out
    subst hfv2
    rintro l pre x W hI hok
    have HI := Lib.hid hI
    have HOK := Lib.hid hok
    have HPX : Hid (Calls Tryd.prog 27 #[vv x.1.2, .pointer (some a)] W fun e w' => e = .returned (.bool (P x.1.2)) ∧ Keeps (fun _ => False) W w') := Lib.hid (HP.out W x.1.2 hI.keep ((hI.at_.item 1 _ x.2).mono fun _ _ _ => trivial))
    have c0 := hI.fn.cell 0
    obtain ⟨tv, htv⟩ : ∃ v, v = vv t := ⟨_, rfl⟩
    obtain ⟨xv, hxv⟩ : ∃ v, v = vv x.1.2 := ⟨_, rfl⟩
    rw [← htv, ← hxv]
    rw [← hxv] at HPX
    have HXV := Lib.hid hxv
    have hsh : xv = .nilIface ∨ ∃ T y, xv = .iface T y := by
      rw [hxv]
      cases x.1.2 <;> first | exact .inl rfl | exact .inr ⟨_, _, rfl⟩
    cases hP : P x.1.2 with
    | false =>
      rw [hP] at HPX
      have HPP := Lib.hid hP
      clear hI hok hI0 hat2 hOB htv hxv hP hsh
      gi_wp2_with ((try refine ⟨trivial, ?_⟩); (try refine ⟨hdd _, ?_⟩); gi_at_call 27; refine (CallsIn.inRound l (callsIn_wide.2 HPX.out)).mono ?_; rintro e W2 ⟨rfl, hk2⟩)
      have kp : KpO (OwnB [B + 1, B + 2]) W W2 := ⟨hk2.size, fun k c t fr hc _ => (hk2.block k (Array.getElem?_eq_some_iff.1 hc).1 (fun h => h)).trans hc, fun k ho => .inl (OwnB.old (m := W.heap.size) (fun B' hB' => by simp only [List.mem_cons, List.not_mem_nil, or_false] at hB'; rcases hB' with rfl | rfl; exact HI.out.res.lt; exact HI.out.ok.lt) (fun j hj => hk2.block j hj (fun h => h)) ho)⟩
      refine ⟨keepsFrom_of (F := fun _ => False) _ hk2 (fun _ h => h.elim), kp, HI.out.keep.trans hk2 (fun _ _ h => h), HI.out.at_.kp kp, hk2.blk HI.out.fn (fun h => h), hk2.blk HI.out.res (fun h => h), hk2.blk HI.out.ok (fun h => h), fun q hq => ?_⟩
      rcases List.mem_append.1 hq with h | h
      · exact HI.out.none_ q h
      · rw [List.mem_singleton.1 h]
        exact HPP.out
    | true =>
      rw [hP] at HPX
      have HPP := Lib.hid hP
      clear hI hok hI0 hat2 hOB htv hxv hP
      rcases hsh with rfl | ⟨T0, y0, rfl⟩
      · gi_wp2_with ((try refine ⟨trivial, ?_⟩); (try refine ⟨hdd _, ?_⟩); gi_at_call 27; refine (CallsIn.inRound l (callsIn_wide.2 HPX.out)).mono ?_; rintro e W2 ⟨rfl, hk2⟩; have HK2 := Lib.hid hk2; have e1 := hk2.blk HI.out.res (fun h => h); have e2 := hk2.blk HI.out.ok (fun h => h); have q0 := e1.cell 0; have q1 := e1.frozen 0; have q2 := e2.cell 0; have q3 := e2.frozen 0; have HE1 := Lib.hid e1; have HE2 := Lib.hid e2; clear e1 e2 hk2)
        have hk3 : Keeps (fun i => i = B + 1 ∨ i = B + 2) W ((W2.setCell ⟨B + 1, 0, none⟩ Value.nilIface).setCell ⟨B + 2, 0, none⟩ (.bool true)) := ((HK2.out.mono (G := fun i => i = B + 1 ∨ i = B + 2) (fun _ _ h => h.elim)).setCell (p := ⟨B + 1, 0, none⟩) (.inl (.inl rfl)) _).setCell (p := ⟨B + 2, 0, none⟩) (.inl (.inr rfl)) _
        refine ⟨keepsFrom_of _ hk3 (fun k hk => ?_), rfl, HI.out.keep.trans hk3 (fun k hk e => by have := HBW.out; omega), pre, x, rfl, HI.out.none_, HPP.out, ?_, ?_⟩
        · rcases hk with rfl | rfl
          · exact ⟨_, _, _, HI.out.res⟩
          · exact ⟨_, _, _, HI.out.ok⟩
        · rw [← HXV.out]
          exact (HE1.out.set_ 0 Value.nilIface).far (p := ⟨B + 2, 0, none⟩) (by simp) _
        · exact (HE2.out.far (p := ⟨B + 1, 0, none⟩) (by simp) _).set_ 0 _
      · gi_wp2_with ((try refine ⟨trivial, ?_⟩); (try refine ⟨hdd _, ?_⟩); gi_at_call 27; refine (CallsIn.inRound l (callsIn_wide.2 HPX.out)).mono ?_; rintro e W2 ⟨rfl, hk2⟩; have HK2 := Lib.hid hk2; have e1 := hk2.blk HI.out.res (fun h => h); have e2 := hk2.blk HI.out.ok (fun h => h); have q0 := e1.cell 0; have q1 := e1.frozen 0; have q2 := e2.cell 0; have q3 := e2.frozen 0; have HE1 := Lib.hid e1; have HE2 := Lib.hid e2; clear e1 e2 hk2)
        have hk3 : Keeps (fun i => i = B + 1 ∨ i = B + 2) W ((W2.setCell ⟨B + 1, 0, none⟩ (.iface T0 y0)).setCell ⟨B + 2, 0, none⟩ (.bool true)) := ((HK2.out.mono (G := fun i => i = B + 1 ∨ i = B + 2) (fun _ _ h => h.elim)).setCell (p := ⟨B + 1, 0, none⟩) (.inl (.inl rfl)) _).setCell (p := ⟨B + 2, 0, none⟩) (.inl (.inr rfl)) _
        refine ⟨keepsFrom_of _ hk3 (fun k hk => ?_), rfl, HI.out.keep.trans hk3 (fun k hk e => by have := HBW.out; omega), pre, x, rfl, HI.out.none_, HPP.out, ?_, ?_⟩
        · rcases hk with rfl | rfl
          · exact ⟨_, _, _, HI.out.res⟩
          · exact ⟨_, _, _, HI.out.ok⟩
        · rw [← HXV.out]
          exact (HE1.out.set_ 0 (.iface T0 y0)).far (p := ⟨B + 2, 0, none⟩) (by simp) _
        · exact (HE2.out.far (p := ⟨B + 1, 0, none⟩) (by simp) _).set_ 0 _
  case stop =>
    rintro D c2 pre W hD hp hX hK
    obtain ⟨rfl, h1, pr, x, rfl, h3, h4, h5, h6⟩ := hX
    have hf : firstT P t = some x.1.2 := by
      have h7 : (pr ++ [x]).map (·.1) <+: t.items 1 := hp
      rw [List.map_append, List.map_singleton] at h7
      refine first_of h7 (fun q hq => ?_) h4
      obtain ⟨q2, hq2, rfl⟩ := List.mem_map.1 hq
      exact h3 q2 hq2
    have kq : CK w2.heap.size W (W.putObj D (.deferred none)) := CK.putObj hK rfl hD _
    obtain ⟨tv, htv⟩ : ∃ v, v = vv t := ⟨_, rfl⟩
    rw [← htv]
    clear htv
    gi_wp2
    refine ⟨by simp, .inl ⟨_, _, rfl, run_takeDeferred hK, ?_⟩⟩
    refine ⟨_, results_two rfl _ _ (B + 1) (B + 2) (vv x.1.2) true rfl rfl ((kq.blk h5).cell 0) ((kq.blk h6).cell 0), ?_, kq.keeps h1 k2.size⟩
    rw [hf]
    rfl
  case done =>
    rintro D ys W hD hys hI hK
    have hf : firstT P t = none := first_none fun q hq => by
      rw [← show ys.map (·.1) = t.items 1 from hys] at hq
      obtain ⟨q2, hq2, rfl⟩ := List.mem_map.1 hq
      exact hI.none_ q2 hq2
    have HI := Lib.hid hI
    have HK := Lib.hid hK
    have HDD := Lib.hid hD
    have HF := Lib.hid hf
    have q0 := hI.res.cell 0
    have q1 := hI.res.frozen 0
    have q2 := hI.ok.cell 0
    have q3 := hI.ok.frozen 0
    obtain ⟨tv, htv⟩ : ∃ v, v = vv t := ⟨_, rfl⟩
    rw [← htv]
    clear htv hI hK hD hf hI0 hat2 hOB hys
    gi_wp2
    have hk3 : Keeps (fun i => i = B + 1 ∨ i = B + 2) W ((W.setCell ⟨B + 1, 0, none⟩ .nilIface).setCell ⟨B + 2, 0, none⟩ (.bool false)) := ((Keeps.refl (fun i => i = B + 1 ∨ i = B + 2) W).setCell (p := ⟨B + 1, 0, none⟩) (.inl (.inl rfl)) _).setCell (p := ⟨B + 2, 0, none⟩) (.inl (.inr rfl)) _
    have hK3 : ((W.setCell ⟨B + 1, 0, none⟩ .nilIface).setCell ⟨B + 2, 0, none⟩ (.bool false)).heap[D]? = some (.deferred (some [])) := (hk3.block D (Array.getElem?_eq_some_iff.1 HK.out).1 (fun e => by
      have h2 := HK.out
      rcases e with rfl | rfl
      · rw [show W.heap[B + 1]? = _ from HI.out.res] at h2
        cases h2
      · rw [show W.heap[B + 2]? = _ from HI.out.ok] at h2
        cases h2)).trans HK.out
    refine ⟨by simp, .inl ⟨_, _, rfl, run_takeDeferred hK3, ?_⟩⟩
    have kq : CK w2.heap.size ((W.setCell ⟨B + 1, 0, none⟩ .nilIface).setCell ⟨B + 2, 0, none⟩ (.bool false)) (((W.setCell ⟨B + 1, 0, none⟩ .nilIface).setCell ⟨B + 2, 0, none⟩ (.bool false)).putObj D (.deferred none)) := CK.putObj hK3 rfl HDD.out _
    refine ⟨_, results_two rfl _ _ (B + 1) (B + 2) .nilIface false rfl rfl ((kq.blk ((HI.out.res.set_ 0 .nilIface).far (p := ⟨B + 2, 0, none⟩) (by simp) _)).cell 0) ((kq.blk ((HI.out.ok.far (p := ⟨B + 1, 0, none⟩) (by simp) .nilIface).set_ 0 (.bool false))).cell 0), ?_, kq.keeps (HI.out.keep.trans hk3 (fun k hk e => by have := HBW.out; omega)) k2.size⟩
    rw [HF.out]
    rfl
set_option maxHeartbeats 4000000 in
set_option maxRecDepth 100000 in
theorem isOne_any (w : World) (a : Addr) (n : Int) (x : VT) (hc : w.cell? a = some (.int .i64 n)) : Calls Tryd.prog 19 #[vv x, .pointer (some a)] w fun e w' => e = .returned (.bool (isNum n x)) ∧ Keeps (fun _ => False) w w' := by
  cases x with
  | num k =>
    have x1 := as_num_num
    simp only [vv, isNum]
    go_enter Tryd.func19, Tryd.ntmps19
    go_wp2
    go_ret
    exact ⟨rfl, Keeps.refl _ _⟩
  | nil =>
    have x1 := as_nil_num
    simp only [vv, isNum]
    go_enter Tryd.func19, Tryd.ntmps19
    go_wp2
    go_ret
    exact ⟨rfl, Keeps.refl _ _⟩
  | spot k b =>
    have x1 := as_spot_num
    simp only [vv, isNum]
    go_enter Tryd.func19, Tryd.ntmps19
    go_wp2
    go_ret
    exact ⟨rfl, Keeps.refl _ _⟩
  | trail k s =>
    have x1 := as_trail_num
    simp only [vv, isNum]
    go_enter Tryd.func19, Tryd.ntmps19
    go_wp2
    go_ret
    exact ⟨rfl, Keeps.refl _ _⟩
  | gone =>
    have x1 := as_note_num
    simp only [vv, isNum]
    go_enter Tryd.func19, Tryd.ntmps19
    go_wp2
    go_ret
    exact ⟨rfl, Keeps.refl _ _⟩
  | note b wd e =>
    have x1 := as_note_num
    simp only [vv, isNum]
    go_enter Tryd.func19, Tryd.ntmps19
    go_wp2
    go_ret
    exact ⟨rfl, Keeps.refl _ _⟩
  | all A0 c0 l =>
    have x1 := as_all_num
    simp only [vv, isNum]
    go_enter Tryd.func19, Tryd.ntmps19
    go_wp2
    go_ret
    exact ⟨rfl, Keeps.refl _ _⟩
set_option maxHeartbeats 4000000 in
set_option maxRecDepth 100000 in
theorem asOne_any (w : World) (a : Addr) (n : Int) (x : VT) (hc : w.cell? a = some (.int .i64 n)) : Calls Tryd.prog 27 #[vv x, .pointer (some a)] w fun e w' => e = .returned (.bool (asP n (kindF x))) ∧ Keeps (fun _ => False) w w' := by
  have HK := Lib.hid (kind_any w x)
  obtain ⟨xv, hxv⟩ : ∃ v, v = vv x := ⟨_, rfl⟩
  obtain ⟨k, hk⟩ : ∃ k, k = kindF x := ⟨_, rfl⟩
  rw [← hxv, ← hk] at HK
  rw [← hxv, ← hk]
  have HA : Hid (∀ q : Bool, asP n k = q ↔ ((k == n || (k == 6 && n == 5)) = q)) := Lib.hid fun q => Iff.rfl
  clear hxv hk
  by_cases h1 : k = n
  · have HQ : Hid (asP n k = true) := Lib.hid ((HA.out true).2 (by simp [h1]))
    clear HA
    rw [HQ.out]
    subst h1
    go_enter Tryd.func27, Tryd.ntmps27
    go_wp2_with (go_at_call 28; refine HK.out.mono ?_; rintro e w1 ⟨rfl, hk1⟩; have HK1 := Lib.hid hk1; have c1 := cell_keep hk1 hc; clear hk1)
    go_ret
    exact ⟨rfl, HK1.out⟩
  · have e1 : (k == n) = false := by simp [h1]
    by_cases h2 : k = 6
    · by_cases h3 : n = 5
      · have HQ : Hid (asP n k = true) := Lib.hid ((HA.out true).2 (by simp [h2, h3]))
        clear HA
        rw [HQ.out]
        subst h2 h3
        go_enter Tryd.func27, Tryd.ntmps27
        go_wp2_with (go_at_call 28; refine HK.out.mono ?_; rintro e w1 ⟨rfl, hk1⟩; have HK1 := Lib.hid hk1; have c1 := cell_keep hk1 hc; clear hk1)
        go_ret
        exact ⟨rfl, HK1.out⟩
      · have HQ : Hid (asP n k = false) := Lib.hid ((HA.out false).2 (by simp [h1, h3]))
        have e3 : (n == 5) = false := by simp [h3]
        clear HA
        rw [HQ.out]
        subst h2
        go_enter Tryd.func27, Tryd.ntmps27
        go_wp2_with (go_at_call 28; refine HK.out.mono ?_; rintro e w1 ⟨rfl, hk1⟩; have HK1 := Lib.hid hk1; have c1 := cell_keep hk1 hc; clear hk1)
        go_ret
        exact ⟨rfl, HK1.out⟩
    · have HQ : Hid (asP n k = false) := Lib.hid ((HA.out false).2 (by simp [h1, h2]))
      have e2 : (k == 6) = false := by simp [h2]
      clear HA
      rw [HQ.out]
      go_enter Tryd.func27, Tryd.ntmps27
      go_wp2_with (go_at_call 28; refine HK.out.mono ?_; rintro e w1 ⟨rfl, hk1⟩; have HK1 := Lib.hid hk1; have c1 := cell_keep hk1 hc; clear hk1)
      go_ret
      exact ⟨rfl, HK1.out⟩
theorem firstT_isNum (n : Int) (t : VT) : (firstT (isNum n) t).isSome = inT n t := by
  rw [← inT_items n t 1]
  unfold firstT
  rw [Option.isSome_map, List.isSome_find?]
def FIsPost (w : World) (cs : List CauseV) (n : Int) (e : Ending) (w' : World) : Prop := Keeps (fun _ => False) w w' ∧ (∀ er, buildF cs = .inl er → e = .returned (.tuple #[.bool false, spotE er.1 er.2])) ∧
  ∀ t, buildF cs = .inr t → e = .returned (.tuple #[.bool (inT n t), .nilIface])
set_option maxHeartbeats 4000000 in
set_option maxRecDepth 100000 in
theorem FIs_any (w : World) (A : Option Addr) (m c : Nat) (cs : List CauseV) (n : Int) (hn : cs.length = m) (hS : CausesAt w A cs) :
    Calls Tryd.prog 7 #[.slice A m c, .int .i64 n] w (FIsPost w cs n) := by
  obtain ⟨wa, hwa⟩ : ∃ wa, wa = w.alloc (.cells #[.int .i64 n] 33) := ⟨_, rfl⟩
  have KA : Hid (Keeps (fun _ => False) w wa ∧ wa.cell? ⟨w.heap.size, 0, none⟩ = some (.int .i64 n)) := Lib.hid (by rw [hwa]; exact ⟨(Keeps.refl _ w).alloc _, (Blk.new w 33 [.int .i64 n]).cell 0⟩)
  have HB := Lib.hid (Build_any wa A m c cs hn (hS.keep KA.out.1))
  clear hS hn
  cases hb : buildF cs with
  | inl er =>
    have HBR : Hid (∀ e w', BuildPost wa cs e w' → e = .returned (.tuple #[.nilIface, .iface 40 (.agg #[.int .i64 er.1, .int .i64 er.2])]) ∧ Hid (Keeps (fun _ => False) w w')) := Lib.hid fun e w' h => ⟨h.2.1 er hb, Lib.hid (KA.out.1.trans h.1 (fun _ _ h => h))⟩
    have HBF := Lib.hid hb
    rw [hwa] at HB HBR
    clear hb hwa KA
    go_enter Tryd.func7, Tryd.ntmps7
    go_wp2_with (go_at_call 4; refine HB.out.mono ?_; intro e w1 hp; obtain ⟨rfl, HK⟩ := HBR.out e w1 hp; clear hp)
    go_ret2
    exact ⟨HK.out, fun er2 h => (by rw [HBF.out] at h; injection h with h; subst h; rfl), fun t h => by rw [HBF.out] at h; cases h⟩
  | inr t =>
    have HBR : Hid (∀ e w', BuildPost wa cs e w' → ∃ x, e = .returned (.tuple #[x, .nilIface]) ∧ Hid (Keeps (fun _ => False) w w' ∧ Calls Tryd.prog 18 #[x, .func (.func 19) #[] #[.pointer (some ⟨w.heap.size, 0, none⟩)]] w' fun e w2 => ∃ y, e = .returned (.tuple #[y, .bool (inT n t)]) ∧ Keeps (fun _ => False) w' w2)) := Lib.hid fun e w' h => by
      obtain ⟨vt, h1, h2, h3, h4⟩ := h.2.2 t hb
      refine ⟨_, h2, Lib.hid ⟨KA.out.1.trans h.1 (fun _ _ h => h), (first_is w' ⟨w.heap.size, 0, none⟩ (isNum n) vt (h3.mono fun i _ hl => hl) (by omega) fun W x hW hx => isOne_any W _ n x (cell_keep (h.1.trans hW (fun _ _ h => h)) KA.out.2)).mono fun e w2 h => ⟨optV (firstT (isNum n) vt), by rw [← h1, inT_erase, ← firstT_isNum]; exact h.1, h.2⟩⟩⟩
    have HBF := Lib.hid hb
    have hmf : ∀ (fn : Fn) (first cap : Array Value) (w : World), (Instr.makeFunc fn first cap).run Tryd.prog w = .ok (.func fn first cap) w := fun _ _ _ _ => rfl
    rw [hwa] at HB HBR
    clear hb hwa KA
    obtain ⟨q, hq⟩ : ∃ q, q = inT n t := ⟨_, rfl⟩
    rw [← hq] at HBR
    have HQ := Lib.hid hq
    clear hq
    go_enter Tryd.func7, Tryd.ntmps7
    go_wp2_with (first
      | (go_at_call 4; refine HB.out.mono ?_; intro e w1 hp; obtain ⟨x, rfl, HK⟩ := HBR.out e w1 hp; clear hp)
      | (go_at_call 18; refine HK.out.2.mono ?_; rintro e w2 ⟨y, rfl, hk2⟩; have HK2 := Lib.hid hk2; clear hk2))
    go_ret2
    exact ⟨HK.out.1.trans HK2.out (fun _ _ h => h), fun er h => (by rw [HBF.out] at h; cases h), fun t2 h => by rw [HBF.out] at h; injection h with h; subst h; rw [HQ.out]; rfl⟩
/-- What may be looked for. -/
def wantsB (n : Int) : Bool := n == 2 || n == 3 || n == 4 || n == 5 || n == 7
def asE (n : Int) : Value := .iface 33 (.int .i64 n)
def FAsPost (w : World) (cs : List CauseV) (n : Int) (e : Ending) (w' : World) : Prop := Keeps (fun _ => False) w w' ∧ (∀ er, buildF cs = .inl er → e = .returned (.tuple #[.nilIface, spotE er.1 er.2])) ∧
  ∀ t, buildF cs = .inr t → (wantsB n = false → e = .returned (.tuple #[.nilIface, asE 2])) ∧ (wantsB n = true → ∃ vt, vt.erase = t ∧ At (fun i => w.heap.size ≤ i) w' vt ∧
    match firstT (fun x => asP n (kindF x)) vt with
    | some x => e = .returned (.tuple #[vv x, .nilIface])
    | none => e = .returned (.tuple #[.nilIface, asE 4]))
set_option maxHeartbeats 4000000 in
set_option maxRecDepth 100000 in
theorem FAs_any (w : World) (A : Option Addr) (m c : Nat) (cs : List CauseV) (n : Int) (hn : cs.length = m) (hS : CausesAt w A cs) :
    Calls Tryd.prog 12 #[.slice A m c, .int .i64 n] w (FAsPost w cs n) := by
  obtain ⟨wa, hwa⟩ : ∃ wa, wa = w.alloc (.cells #[.int .i64 n] 3) := ⟨_, rfl⟩
  have KA : Hid (Keeps (fun _ => False) w wa ∧ wa.cell? ⟨w.heap.size, 0, none⟩ = some (.int .i64 n)) := Lib.hid (by rw [hwa]; exact ⟨(Keeps.refl _ w).alloc _, (Blk.new w 3 [.int .i64 n]).cell 0⟩)
  have HB := Lib.hid (Build_any wa A m c cs hn (hS.keep KA.out.1))
  clear hS hn
  cases hb : buildF cs with
  | inl er =>
    have HBR : Hid (∀ e w', BuildPost wa cs e w' → e = .returned (.tuple #[.nilIface, .iface 40 (.agg #[.int .i64 er.1, .int .i64 er.2])]) ∧ Hid (Keeps (fun _ => False) w w')) := Lib.hid fun e w' h => ⟨h.2.1 er hb, Lib.hid (KA.out.1.trans h.1 (fun _ _ h => h))⟩
    have HBF := Lib.hid hb
    rw [hwa] at HB HBR
    clear hb hwa KA
    go_enter Tryd.func12, Tryd.ntmps12
    go_wp2_with (go_at_call 4; refine HB.out.mono ?_; intro e w1 hp; obtain ⟨rfl, HK⟩ := HBR.out e w1 hp; clear hp)
    go_ret2
    exact ⟨HK.out, fun er2 h => (by rw [HBF.out] at h; injection h with h; subst h; rfl), fun t h => by rw [HBF.out] at h; cases h⟩
  | inr t =>
    have HBR : Hid (∀ e w', BuildPost wa cs e w' → ∃ vt x, x = vv vt ∧ e = .returned (.tuple #[x, .nilIface]) ∧ w'.cell? ⟨w.heap.size, 0, none⟩ = some (.int .i64 n) ∧ Hid (Keeps (fun _ => False) w w' ∧ vt.erase = t ∧ At (fun i => w.heap.size ≤ i) w' vt ∧ vt.deep ≤ 512 ∧ Calls Tryd.prog 18 #[x, .func (.func 27) #[] #[.pointer (some ⟨w.heap.size, 0, none⟩)]] w' fun e w2 => e = .returned (.tuple #[optV (firstT (fun x => asP n (kindF x)) vt), .bool (firstT (fun x => asP n (kindF x)) vt).isSome]) ∧ Keeps (fun _ => False) w' w2)) := Lib.hid fun e w' h => by
      obtain ⟨vt, h1, h2, h3, h4⟩ := h.2.2 t hb
      have hc := cell_keep h.1 KA.out.2
      refine ⟨vt, _, rfl, h2, hc, Lib.hid ⟨KA.out.1.trans h.1 (fun _ _ h => h), h1, h3.mono fun i hi _ => ?_, h4, first_as w' ⟨w.heap.size, 0, none⟩ (fun x => asP n (kindF x)) vt (h3.mono fun i _ hl => hl) (by omega) fun W x hW hx => asOne_any W _ n x (cell_keep hW hc)⟩⟩
      have := KA.out.1.size
      omega
    have HBF := Lib.hid hb
    have hmf : ∀ (fn : Fn) (first cap : Array Value) (w : World), (Instr.makeFunc fn first cap).run Tryd.prog w = .ok (.func fn first cap) w := fun _ _ _ _ => rfl
    rw [hwa] at HB HBR
    clear hb hwa KA
    cases hwn : wantsB n with
    | false =>
      have HWN := Lib.hid hwn
      simp only [wantsB, Bool.or_eq_false_iff] at hwn
      obtain ⟨⟨⟨⟨q2, q3⟩, q4⟩, q5⟩, q7⟩ := hwn
      go_enter Tryd.func12, Tryd.ntmps12
      go_wp2_with (go_at_call 4; refine HB.out.mono ?_; intro e w1 hp; obtain ⟨vt, x, hx, rfl, hc, HK⟩ := HBR.out e w1 hp; clear hp hx)
      go_ret2
      exact ⟨HK.out.1, fun er h => (by rw [HBF.out] at h; cases h), fun t2 h => ⟨fun _ => rfl, fun h => by rw [HWN.out] at h; cases h⟩⟩
    | true =>
      have HPOST : Hid (∀ vt e w1 w2, Keeps (fun _ => False) w w1 → vt.erase = t → At (fun i => w.heap.size ≤ i) w1 vt → Keeps (fun _ => False) w1 w2 → (match firstT (fun x => asP n (kindF x)) vt with | some x => e = .returned (.tuple #[vv x, .nilIface]) | none => e = .returned (.tuple #[.nilIface, asE 4])) → FAsPost w cs n e w2) := Lib.hid fun vt e w1 w2 k1 he ha k2 hm => ⟨k1.trans k2 (fun _ _ h => h), fun er h => (by rw [HBF.out] at h; cases h), fun t2 h => ⟨fun h => (by rw [hwn] at h; cases h), fun _ => (by
        rw [HBF.out] at h
        injection h with h
        subst h
        exact ⟨vt, he, ha.keep k2 (fun _ _ h => h), hm⟩)⟩⟩
      simp only [wantsB, Bool.or_eq_true, beq_iff_eq] at hwn
      have hH : n = 2 ∨ n = 3 ∨ n = 4 ∨ n = 5 ∨ n = 7 := by omega
      clear hwn
      rcases hH with rfl | rfl | rfl | rfl | rfl
      · obtain ⟨fo, hfo⟩ : ∃ fo : VT → Option VT, fo = firstT (fun x => asP 2 (kindF x)) := ⟨_, rfl⟩
        rw [← hfo] at HBR HPOST
        clear hfo
        go_enter Tryd.func12, Tryd.ntmps12
        go_upto_region 12 with (first
          | (go_at_call 4; refine HB.out.mono ?_; intro e w1 hp; obtain ⟨vt, x, hx, rfl, hc, HK⟩ := HBR.out e w1 hp; clear hp hx)
          | (go_at_call 18; refine HK.out.2.2.2.2.mono ?_; rintro e w2 ⟨rfl, hk2⟩; have HK2 := Lib.hid hk2; clear hk2))
        cases hf : fo vt with
        | none =>
          simp only [optV, Option.isSome]
          go_wp2
          go_ret2
          exact HPOST.out vt _ w1 _ HK.out.1 HK.out.2.1 HK.out.2.2.1 HK2.out (by rw [hf]; rfl)
        | some y =>
          simp only [optV, Option.isSome]
          obtain ⟨yv, hyv⟩ : ∃ v, v = vv y := ⟨_, rfl⟩
          rw [← hyv]
          have HY := Lib.hid hyv
          have HF := Lib.hid hf
          clear hyv hf
          go_wp2
          go_ret2
          exact HPOST.out vt _ w1 _ HK.out.1 HK.out.2.1 HK.out.2.2.1 HK2.out (by rw [HF.out]; simp only; rw [← HY.out]; rfl)
      · obtain ⟨fo, hfo⟩ : ∃ fo : VT → Option VT, fo = firstT (fun x => asP 3 (kindF x)) := ⟨_, rfl⟩
        rw [← hfo] at HBR HPOST
        clear hfo
        go_enter Tryd.func12, Tryd.ntmps12
        go_upto_region 12 with (first
          | (go_at_call 4; refine HB.out.mono ?_; intro e w1 hp; obtain ⟨vt, x, hx, rfl, hc, HK⟩ := HBR.out e w1 hp; clear hp hx)
          | (go_at_call 18; refine HK.out.2.2.2.2.mono ?_; rintro e w2 ⟨rfl, hk2⟩; have HK2 := Lib.hid hk2; clear hk2))
        cases hf : fo vt with
        | none =>
          simp only [optV, Option.isSome]
          go_wp2
          go_ret2
          exact HPOST.out vt _ w1 _ HK.out.1 HK.out.2.1 HK.out.2.2.1 HK2.out (by rw [hf]; rfl)
        | some y =>
          simp only [optV, Option.isSome]
          obtain ⟨yv, hyv⟩ : ∃ v, v = vv y := ⟨_, rfl⟩
          rw [← hyv]
          have HY := Lib.hid hyv
          have HF := Lib.hid hf
          clear hyv hf
          go_wp2
          go_ret2
          exact HPOST.out vt _ w1 _ HK.out.1 HK.out.2.1 HK.out.2.2.1 HK2.out (by rw [HF.out]; simp only; rw [← HY.out]; rfl)
      · obtain ⟨fo, hfo⟩ : ∃ fo : VT → Option VT, fo = firstT (fun x => asP 4 (kindF x)) := ⟨_, rfl⟩
        rw [← hfo] at HBR HPOST
        clear hfo
        go_enter Tryd.func12, Tryd.ntmps12
        go_upto_region 12 with (first
          | (go_at_call 4; refine HB.out.mono ?_; intro e w1 hp; obtain ⟨vt, x, hx, rfl, hc, HK⟩ := HBR.out e w1 hp; clear hp hx)
          | (go_at_call 18; refine HK.out.2.2.2.2.mono ?_; rintro e w2 ⟨rfl, hk2⟩; have HK2 := Lib.hid hk2; clear hk2))
        cases hf : fo vt with
        | none =>
          simp only [optV, Option.isSome]
          go_wp2
          go_ret2
          exact HPOST.out vt _ w1 _ HK.out.1 HK.out.2.1 HK.out.2.2.1 HK2.out (by rw [hf]; rfl)
        | some y =>
          simp only [optV, Option.isSome]
          obtain ⟨yv, hyv⟩ : ∃ v, v = vv y := ⟨_, rfl⟩
          rw [← hyv]
          have HY := Lib.hid hyv
          have HF := Lib.hid hf
          clear hyv hf
          go_wp2
          go_ret2
          exact HPOST.out vt _ w1 _ HK.out.1 HK.out.2.1 HK.out.2.2.1 HK2.out (by rw [HF.out]; simp only; rw [← HY.out]; rfl)
      · obtain ⟨fo, hfo⟩ : ∃ fo : VT → Option VT, fo = firstT (fun x => asP 5 (kindF x)) := ⟨_, rfl⟩
        rw [← hfo] at HBR HPOST
        clear hfo
        go_enter Tryd.func12, Tryd.ntmps12
        go_upto_region 12 with (first
          | (go_at_call 4; refine HB.out.mono ?_; intro e w1 hp; obtain ⟨vt, x, hx, rfl, hc, HK⟩ := HBR.out e w1 hp; clear hp hx)
          | (go_at_call 18; refine HK.out.2.2.2.2.mono ?_; rintro e w2 ⟨rfl, hk2⟩; have HK2 := Lib.hid hk2; clear hk2))
        cases hf : fo vt with
        | none =>
          simp only [optV, Option.isSome]
          go_wp2
          go_ret2
          exact HPOST.out vt _ w1 _ HK.out.1 HK.out.2.1 HK.out.2.2.1 HK2.out (by rw [hf]; rfl)
        | some y =>
          simp only [optV, Option.isSome]
          obtain ⟨yv, hyv⟩ : ∃ v, v = vv y := ⟨_, rfl⟩
          rw [← hyv]
          have HY := Lib.hid hyv
          have HF := Lib.hid hf
          clear hyv hf
          go_wp2
          go_ret2
          exact HPOST.out vt _ w1 _ HK.out.1 HK.out.2.1 HK.out.2.2.1 HK2.out (by rw [HF.out]; simp only; rw [← HY.out]; rfl)
      · obtain ⟨fo, hfo⟩ : ∃ fo : VT → Option VT, fo = firstT (fun x => asP 7 (kindF x)) := ⟨_, rfl⟩
        rw [← hfo] at HBR HPOST
        clear hfo
        go_enter Tryd.func12, Tryd.ntmps12
        go_upto_region 12 with (first
          | (go_at_call 4; refine HB.out.mono ?_; intro e w1 hp; obtain ⟨vt, x, hx, rfl, hc, HK⟩ := HBR.out e w1 hp; clear hp hx)
          | (go_at_call 18; refine HK.out.2.2.2.2.mono ?_; rintro e w2 ⟨rfl, hk2⟩; have HK2 := Lib.hid hk2; clear hk2))
        cases hf : fo vt with
        | none =>
          simp only [optV, Option.isSome]
          go_wp2
          go_ret2
          exact HPOST.out vt _ w1 _ HK.out.1 HK.out.2.1 HK.out.2.2.1 HK2.out (by rw [hf]; rfl)
        | some y =>
          simp only [optV, Option.isSome]
          obtain ⟨yv, hyv⟩ : ∃ v, v = vv y := ⟨_, rfl⟩
          rw [← hyv]
          have HY := Lib.hid hyv
          have HF := Lib.hid hf
          clear hyv hf
          go_wp2
          go_ret2
          exact HPOST.out vt _ w1 _ HK.out.1 HK.out.2.1 HK.out.2.2.1 HK2.out (by rw [HF.out]; simp only; rw [← HY.out]; rfl)
end Go.Proofs.YtinonjfnhedlpaaDoor
