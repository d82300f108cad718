/-
  Texts put together: MPutW; MNullW; MCleanW.
-/
import Derived.Test.YtdmcioghdindfaaGreatQ31
import Derived.Test.YtdmcioghdindfaaGreatQ34
import Derived.Test.YtdmcioghdindfaaGreatQ33
set_option linter.unusedSimpArgs false
namespace Go.Proofs.YtdmcioghdindfaaGreat
open Go Go.RowKit Go.Aff Go.Json
attribute [local go_sem] Oper.semAt_some
theorem method_whole (v : Value) (w : World) : (Go.method 332 93 v "affidavit/merge.put").run Tryz.prog w = .ok (141, v) w := by kernel_rfl
theorem method_mobj (b : Nat) (w : World) : (Go.method 332 84 (.pointer (some ⟨b, 0, none⟩)) "affidavit/merge.put").run Tryz.prog w = .ok (138, .pointer (some ⟨b, 0, none⟩)) w := by kernel_rfl
/-- Values none of whose wholes is beyond the limits. -/
inductive Fit : JV → Prop
  | mk (j : JV) (h : j.sort ≠ 6 → j.within) (hi : j.sort = 6 → ∀ x, x ∈ j.items → Fit x) : Fit j
/-- What put does: the value is in the row, or it is too long. -/
def PutPost (D : Nat → Prop) (w : World) (p : Nat) (P : List JV) (j : JV) (e : Ending) (w' : World) : Prop :=
  ((e = .returned .nilIface ∧ (∃ A' c' vs', RowAt 134 D w' p A' c' vs' (P ++ [j])) ∧ j.within) ∨ (e = .returned (errE 3) ∧ ¬ (P.length + j.nodes ≤ 65536 ∧ j.within))) ∧ Keeps (fun i => p ≤ i) w w'
/-- A row's own blocks lie behind it. -/
theorem RowPost.hi {T : TypeId} {D : Nat → Prop} {w w' : World} {p : Nat} {A : Option Addr} {c : Nat} {vs : List Value} {P P' : List JV} (h : RowAt T D w p A c vs P) (hr : RowPost T D w p (.slice A P.length c) P' w') : Keeps (fun i => p ≤ i) w w' :=
  hr.2.mono fun i _ e => e.elim (fun e => by omega) fun e => (h.inn i e).2
theorem errE_ne (k : Int) : errE k ≠ .nilIface := by unfold errE; intro h; cases h
set_option maxHeartbeats 4000000 in
set_option maxRecDepth 100000 in
theorem put_whole (D : Nat → Prop) (w : World) (p : Nat) (A : Option Addr) (c : Nat) (vs : List Value) (P : List JV) (h : RowAt 134 D w p A c vs P) (hn : P.length ≤ 1048576) (v : Value) (j : JV) (hj : JAt (fun i => D i ∧ i < p) w v j) (hw : j.within) :
    Calls Tryz.prog 141 #[.agg #[v], .pointer (some ⟨p, 0, none⟩)] w (PutPost D w p P j) := by
  obtain ⟨T, y, hv⟩ := hj.iface
  subst hv
  have hjb : JAt (Bq D p (.slice A P.length c)) w (.iface T y) j := hj.mono fun i hi _ => ⟨hi.1, by have := hi.2; omega, fun e => by have := (h.inn i e).2; have := hi.2; omega⟩
  have hk : Keeps (fun _ => False) w (w.alloc (.cells #[.iface T y] 93)) := (Keeps.refl _ w).alloc _
  have c0 := (Blk.new w 93 [.iface T y]).cell 0
  have HC : Hid (Calls Tryz.prog 142 #[.pointer (some ⟨p, 0, none⟩), .agg #[.iface T y]] (w.alloc (.cells #[.iface T y] 93)) fun e w' => ∃ x, e = .returned x ∧ PutPost D w p P j (.returned x) w') := Lib.hid (by
    refine (copy_any D _ p A c vs P (h.stay hk) hn _ j (hjb.stay hk)).mono fun e w' hh => ?_
    unfold CopyPost at hh
    by_cases hlt : P.length < 65536
    · rw [if_pos hlt] at hh
      exact ⟨_, hh.1, .inl ⟨rfl, hh.2.1, hw⟩, (hk.mono fun _ _ h => h.elim).trans (hh.2.hi (h.stay hk)) fun _ _ h => h⟩
    · rw [if_neg hlt] at hh
      exact ⟨_, hh.1, .inr ⟨rfl, fun h2 => by have := h2.1; have : 1 ≤ j.nodes := by rw [JV.nodes_eq]; omega
                                              omega⟩, (hk.trans hh.2 fun _ _ h => h).mono fun _ _ h => h.elim⟩)
  clear h hn hj hw hjb hk
  go_enter Tryz.func141, Tryz.ntmps141
  go_wp2_with (go_at_call 142; refine HC.out.mono ?_; rintro e w2 ⟨x, rfl, hq⟩)
  go_ret
  exact hq
theorem PutPost.ret {D : Nat → Prop} {w w' : World} {p : Nat} {P : List JV} {j : JV} {e : Ending} (h : PutPost D w p P j e w') : ∃ x, e = .returned x ∧ PutPost D w p P j (.returned x) w' := by
  rcases h with ⟨⟨rfl, h⟩ | ⟨rfl, h⟩, hk⟩
  · exact ⟨_, rfl, .inl ⟨rfl, h⟩, hk⟩
  · exact ⟨_, rfl, .inr ⟨rfl, h⟩, hk⟩
/-- The method that puts a thing. -/
def PutInv (D : Nat → Prop) (w : World) (p : Nat) (v : Value) (x : JV) : Prop :=
  ∃ T y f u, v = .iface T y ∧ (∀ W, (Go.method 332 T y "affidavit/merge.put").run Tryz.prog W = .ok (f, u) W) ∧ Ent f ∧
    ∀ W A c vs P, Keeps (fun i => p ≤ i) w W → RowAt 134 D W p A c vs P → P.length + x.nodes ≤ 1048576 → (∀ j ∈ P, j.within) → Calls Tryz.prog f #[u, .pointer (some ⟨p, 0, none⟩)] W (PutPost D W p P x)
theorem PutInv.keep {D : Nat → Prop} {w W : World} {p : Nat} {v : Value} {x : JV} (h : PutInv D w p v x) (k : Keeps (fun i => p ≤ i) w W) : PutInv D W p v x := by
  obtain ⟨T, y, f, u, h1, h2, h3, h4⟩ := h
  exact ⟨T, y, f, u, h1, h2, h3, fun W2 A c vs P hk => h4 W2 A c vs P (k.trans hk fun _ _ h => h)⟩
set_option maxHeartbeats 4000000 in
set_option maxRecDepth 100000 in
theorem put_obj (D : Nat → Prop) (w : World) (p : Nat) (A : Option Addr) (c : Nat) (vs : List Value) (P : List JV) (h : RowAt 134 D w p A c vs P) (hP : ∀ j ∈ P, j.within)
    {b : Nat} {A2 B2 : Option Addr} {c2 d2 : Nat} {vs2 : List Value} {ks : List ByteArray} {l : List JV} {rf : Value} (hb : Blk w b 88 [rf, .slice B2 ks.length d2, .slice A2 l.length c2]) (hbp : b < p)
    (hk : Rd w B2 ks.length (ks.map .string)) (hok : InB (fun i => i < p) B2 ks.length) (hr : Rd w A2 l.length vs2) (ho : InB (fun i => i < p) A2 l.length)
    (hin : ∀ (i : Nat) (v : Value) (x : JV), vs2[i]? = some v → l[i]? = some x → PutInv D w p v x) (hj : JOk (.obj ks l)) (hn : P.length + (JV.obj ks l).nodes ≤ 1048576) (hby : (JV.obj ks l).bytes ≤ 1099511627776) :
    Calls Tryz.prog 138 #[.pointer (some ⟨b, 0, none⟩), .pointer (some ⟨p, 0, none⟩)] w (PutPost D w p P (.obj ks l)) := by
  obtain ⟨n, hnn⟩ : ∃ n, n = l.length := ⟨_, rfl⟩
  have hkl : ks.length = n := by rw [hnn]; exact hj.form.2.1 rfl
  rw [← hnn, hkl] at hb
  rw [← hnn] at hr ho
  have hno : ∀ i, i < p → ¬ p ≤ i := fun i h => by omega
  have c2' := hb.cell 2
  have HH := Lib.hid (And.intro h hP)
  have HB := Lib.hid (And.intro hb hbp)
  have HK := Lib.hid (And.intro hk hok)
  have HR := Lib.hid (And.intro hr ho)
  have HIN := Lib.hid hin
  have HJ := Lib.hid (And.intro hj (And.intro hn hby))
  have HN := Lib.hid (And.intro hkl hnn)
  have HNO := Lib.hid hno
  have hn0 : n ≤ 1048576 := by have := items_nodes (.obj ks l); have h2 : (JV.obj ks l).items.length = l.length := rfl; omega
  clear h hP hb hbp hk hok hr ho hin hj hn hby hkl hnn hno
  go_enter Tryz.func138, Tryz.ntmps138
  go_wp2
  go_loopg [13] n (fun gk t wx => ∃ (i : Nat) (A1 : Option Addr) (c1 : Nat) (vs1 : List Value), i ≤ n ∧ t = .int .i64 i ∧ gk = n - i ∧ Hid (RowAt 134 D wx p A1 c1 vs1 (P ++ l.take i) ∧ Keeps (fun i => p ≤ i) w wx ∧ ∀ j ∈ l.take i, j.within))
  case atStart => exact ⟨0, A, c, vs, by omega, rfl, rfl, Lib.hid ⟨by rw [List.take_zero, List.append_nil]; exact HH.out.1, Keeps.refl _ _, fun j h => by simp at h⟩⟩
  case round =>
    obtain ⟨i, A1, c1, vs1, hin, rfl, hgk, HO⟩ := hrel
    have HGK := Lib.hid hgk
    clear hgk
    by_cases hlt : i < n
    · obtain ⟨g2, o2, hA2, hc2⟩ := (HR.out.1.keep HO.out.2.1 (HR.out.2.out HNO.out)).2 (by omega)
      subst hA2
      obtain ⟨v, hv⟩ : ∃ v, vs2[i]? = some v := ⟨_, List.getElem?_eq_getElem (by rw [HR.out.1.1]; exact hlt)⟩
      obtain ⟨x, hx⟩ : ∃ x, l[i]? = some x := ⟨_, List.getElem?_eq_getElem (by rw [← HN.out.2]; exact hlt)⟩
      have cvv := hc2 i hlt
      rw [hv] at cvv
      obtain ⟨T, y, f, u, hvy, hm, he, hcall⟩ := HIN.out i v x hv hx
      subst hvy
      have HPW : Hid (∀ j ∈ P ++ l.take i, j.within) := Lib.hid fun j hj => (List.mem_append.1 hj).elim (HH.out.2 j) (HO.out.2.2 j)
      have HSZ : Hid (i + x.nodes + 1 ≤ (JV.obj ks l).nodes ∧ x ∈ (JV.obj ks l).items ∧ (P ++ l.take i).length = P.length + i) := Lib.hid (by
        have hm : x ∈ l := List.mem_of_getElem? hx
        refine ⟨?_, hm, by rw [List.length_append, List.length_take, ← HN.out.2]; omega⟩
        have h1 := sumN_take (l := l.map fun x => x.nodes) (i := i) (x := x.nodes) (by rw [List.getElem?_map, hx]; rfl)
        have h2 := sumN_pre (l.map fun x => x.nodes) (i + 1)
        have h3 : i ≤ sumN ((l.map fun x => x.nodes).take i) := by
          have h4 : ∀ m : List JV, m.length ≤ sumN (m.map fun x => x.nodes) := fun m => by
            induction m with
            | nil => exact Nat.le_refl _
            | cons a m ih =>
              have : 1 ≤ a.nodes := by rw [JV.nodes_eq]; omega
              simp only [List.map_cons, sumN, List.length_cons]; omega
          have h5 := h4 (l.take i)
          rw [List.map_take, List.length_take, ← HN.out.2] at h5
          omega
        rw [JV.nodes_eq (.obj ks l)]
        show i + x.nodes + 1 ≤ 1 + sumN (l.map fun x => x.nodes)
        omega)
      have HCALL : Hid (Calls Tryz.prog f #[u, .pointer (some ⟨p, 0, none⟩)] wr fun e w' => ∃ z, e = .returned z ∧ PutPost D wr p (P ++ l.take i) x (.returned z) w') := Lib.hid ((hcall wr A1 c1 vs1 _ HO.out.2.1 HO.out.1 (by have := HSZ.out.1; have := HSZ.out.2.2; have := HJ.out.2.1; omega) HPW.out).mono fun e w' h => h.ret)
      have HX := Lib.hid hx
      unfold Ent at he
      clear hc2 hv hcall hx
      have hi63 : (0 : Int) ≤ (i : Int) := by omega
      have hiN : (i : Int) < (n : Int) := by omega
      go_upto_region 5 with (go_at_fn f; refine HCALL.out.mono ?_; rintro e w2 ⟨z, rfl, hq⟩; have HQ := Lib.hid hq; clear hq)
      obtain ⟨⟨hz, ⟨A3, c3, vs3, hrow⟩, hwx⟩ | ⟨hz, hne⟩, hk2⟩ := HQ.out
      · injection hz with hz
        subst hz
        have HRW := Lib.hid (And.intro hrow (And.intro hwx hk2))
        clear hrow hwx hk2 HQ
        go_wp2
        go_roundg (n - (i + 1))
        case measure => rw [HGK.out]; omega
        case rel =>
          have ht : l.take (i + 1) = l.take i ++ [x] := by rw [List.take_add_one, HX.out]; rfl
          exact ⟨i + 1, A3, c3, vs3, by omega, by go_num, rfl, Lib.hid ⟨by rw [ht, ← List.append_assoc]; exact HRW.out.1, HO.out.2.1.trans HRW.out.2.2 (fun _ _ h => h), fun j hj => by
            rw [ht] at hj
            rcases List.mem_append.1 hj with h | h
            · exact HO.out.2.2 j h
            · rw [List.mem_singleton.1 h]; exact HRW.out.2.1⟩⟩
      · injection hz with hz
        subst hz
        have HE : Hid (PutPost D w p P (.obj ks l) (.returned (.iface 69 (.int .i64 3))) w2) := Lib.hid ⟨.inr ⟨rfl, fun h2 => hne ⟨by have := HSZ.out.1; have := HSZ.out.2.2; have := h2.1; omega, item_within HSZ.out.2.1 h2.2⟩⟩, HO.out.2.1.trans hk2 fun _ _ h => h⟩
        clear hne hk2 HQ
        unfold errE
        go_wp2
        go_ret
        exact HE.out
    · obtain rfl : i = n := by omega
      have ht : l.take i = l := List.take_of_length_le (by rw [HN.out.2]; omega)
      have hrow := HO.out.1
      rw [ht] at hrow
      have hPW : ∀ j ∈ P ++ l, j.within := fun j hj => (List.mem_append.1 hj).elim (HH.out.2 j) (fun h => HO.out.2.2 j (by rw [ht]; exact h))
      have hsz : i + 1 ≤ (JV.obj ks l).nodes := by
        have := items_nodes (.obj ks l)
        have h2 : (JV.obj ks l).items.length = l.length := rfl
        have := HN.out.2
        omega
      have hbk := HO.out.2.1.blk HB.out.1 (HNO.out _ HB.out.2)
      have c1' := hbk.cell 1
      have hbyF : byF ks ≤ 1099511627776 := by
        have h1 := HJ.out.2.2
        have h2 : (JV.obj ks l).bytes = byF ks + sumN (l.map fun x => x.bytes) := by simp only [JV.bytes]; rfl
        omega
      have HOBJ : Hid (Calls Tryz.prog 139 #[.pointer (some ⟨p, 0, none⟩), .slice B2 i d2] wr fun e w' => ∃ z, e = .returned z ∧ PutPost D w p P (.obj ks l) (.returned z) w') := Lib.hid (by
        have h1 := object_put D wr p A1 c1 vs1 (P ++ l) hrow (by rw [List.length_append, ← HN.out.2]; have := HJ.out.2.1; omega) hPW ks hbyF (by rw [HN.out.1]; have := HJ.out.2.1; omega) B2 d2 (HK.out.1.keep HO.out.2.1 (HK.out.2.out HNO.out))
        rw [HN.out.1] at h1
        refine h1.mono fun e w' hq => PutPost.ret ?_
        unfold DoPost at hq
        rw [doF_members HJ.out.1] at hq
        by_cases hw : (JV.obj ks l).within
        · rw [if_pos hw] at hq
          exact ⟨.inl ⟨hq.1, hq.2.1, hw⟩, HO.out.2.1.trans (hq.2.hi hrow) fun _ _ h => h⟩
        · rw [if_neg hw] at hq
          exact ⟨.inr ⟨hq.1, fun h => hw h.2⟩, HO.out.2.1.trans (hq.2.mono fun _ _ h => h.elim) fun _ _ h => h⟩)
      clear hrow hPW hsz hbk hbyF ht
      go_wp2_with (go_at_call 139; refine HOBJ.out.mono ?_; rintro e w2 ⟨z, rfl, hq⟩)
      go_ret
      exact hq
/-- Whatever the thing: the method that puts it. -/
theorem put_inv {D : Nat → Prop} {w : World} {p : Nat} {v : Value} {j : JV} (h : TAt (fun i => D i ∧ i < p) w v j) : JOk j → Fit j → j.bytes ≤ 1099511627776 → PutInv D w p v j := by
  induction h with
  | @whole it j hj hs =>
    intro _ hf _
    have hw : j.within := by cases hf with | mk _ h _ => exact h hs
    exact ⟨_, _, _, _, rfl, fun W => method_whole _ W, enters_of Tryz.func141 (by kernel_rfl) rfl, fun W A c vs P hk hr hn _ => put_whole D W p A c vs P hr (by omega) it j (hj.keep hk fun i hi e => by have := hi.2; omega) hw⟩
  | @obj b A B c d vs ks l rf hDb hb hrf hk hok hr ho hl ih =>
    intro hj hf hby
    have hfm := hj.form
    have hfi : ∀ x, x ∈ l → Fit x := by cases hf with | mk _ _ h => exact h rfl
    refine ⟨_, _, _, _, rfl, fun W => method_mobj b W, enters_of Tryz.func138 (by kernel_rfl) rfl, fun W A2 c2 vs2 P hK hR hn hP => ?_⟩
    refine put_obj D W p A2 c2 vs2 P hR hP (rf := rf) (hK.blk hb (fun e => by have := hDb.2; omega)) hDb.2 (hk.keep hK (hok.out fun i hi e => by have := hi.2; omega)) (hok.mono fun i hi => hi.2) (hr.keep hK (ho.out fun i hi e => by have := hi.2; omega)) (ho.mono fun i hi => hi.2) (fun i v x h1 h2 => ?_) hj hn hby
    have hm : x ∈ (JV.obj ks l).items := List.mem_of_getElem? h2
    refine (ih i v x h1 h2 (hfm.2.2.2.2.2 x hm) (hfi x hm) ?_).keep hK
    have h3 := sumN_mem (List.mem_map.2 ⟨x, hm, rfl⟩ : x.bytes ∈ (JV.obj ks l).items.map fun x => x.bytes)
    rw [JV.bytes_eq (.obj ks l)] at hby
    omega
end Go.Proofs.YtdmcioghdindfaaGreat

set_option linter.unusedSimpArgs false
namespace Go.Proofs.YtdmcioghdindfaaGreat
open Go Go.RowKit Go.Aff Go.Json Go.Rng Go.Shelf
attribute [local go_sem] Oper.semAt_some
theorem as_whole_whole (v : Value) (w : World) : (Instr.typeAssert (.iface 93 v) 54 93 true).run Tryz.prog w = .ok (.tuple #[v, .bool true]) w := by kernel_rfl
theorem as_mobj_whole (v : Value) (w : World) : (Instr.typeAssert (.iface 84 v) 54 93 true).run Tryz.prog w = .ok (.tuple #[.agg #[.nilIface], .bool false]) w := by kernel_rfl
theorem as_whole_mobj (v : Value) (w : World) : (Instr.typeAssert (.iface 93 v) 54 84 true).run Tryz.prog w = .ok (.tuple #[.pointer none, .bool false]) w := by kernel_rfl
theorem as_mobj_mobj (v : Value) (w : World) : (Instr.typeAssert (.iface 84 v) 54 84 true).run Tryz.prog w = .ok (.tuple #[v, .bool true]) w := by kernel_rfl
/-- What isNull answers. -/
def NullPost (w : World) (j : JV) (e : Ending) (w' : World) : Prop := e = .returned (.bool (j.sort == 1)) ∧ Keeps (fun _ => False) w w'
set_option maxHeartbeats 4000000 in
set_option maxRecDepth 100000 in
theorem isnull_any {D : Nat → Prop} (w : World) (t : Value) (j : JV) (h : TAt D w t j) : Calls Tryz.prog 31 #[t] w (NullPost w j) := by
  cases h with
  | @whole it j hj hs =>
    obtain ⟨T, y, hv⟩ := hj.iface
    subst hv
    have HSO : Hid (∀ W, Calls Tryz.prog 33 #[.agg #[.iface T y]] W fun e w' => e = .returned (.int .i64 j.sort) ∧ Keeps (fun _ => False) W w') := Lib.hid fun W => refsort_any hj W
    obtain ⟨n, hn⟩ : ∃ n, n = j.sort := ⟨_, rfl⟩
    unfold NullPost
    rw [← hn] at HSO ⊢
    clear hj hs hn
    have HA := as_whole_whole (.agg #[.iface T y])
    go_enter Tryz.func31, Tryz.ntmps31
    have HB0 := Lib.hid (Blk.new w 93 [.nilIface])
    have HB1 := Lib.hid (Blk.new w 93 [.iface T y])
    have c0 := HB1.out.cell 0
    have f0 := HB0.out.frozen 0
    go_wp2_with (go_at_call 33; refine (HSO.out _).mono ?_; rintro e w2 ⟨rfl, hk2⟩; have HK2 := Lib.hid hk2; clear hk2)
    all_goals go_ret
    all_goals exact ⟨rfl, ((Keeps.refl (fun _ => False) w).alloc (.cells #[.iface T y] 93)).trans HK2.out (fun _ _ h => h)⟩
  | @obj b A B c d vs ks l rf hD hb hrf hk2 hok hr ho hl =>
    have HA := as_mobj_whole (.pointer (some ⟨b, 0, none⟩))
    have HB0 := Lib.hid (Blk.new w 93 [.nilIface])
    have f0 := HB0.out.frozen 0
    clear hD hb hrf hk2 hok hr ho hl
    go_enter Tryz.func31, Tryz.ntmps31
    go_wp2
    all_goals go_ret
    all_goals exact ⟨rfl, (Keeps.refl (fun _ => False) w).alloc (.cells #[.nilIface] 93)⟩
end Go.Proofs.YtdmcioghdindfaaGreat

set_option linter.unusedSimpArgs false
namespace Go.Proofs.YtdmcioghdindfaaGreat
open Go Go.RowKit Go.Aff Go.Json Go.Rng Go.Shelf
attribute [local go_sem] Oper.semAt_some
set_option maxHeartbeats 4000000 in
set_option maxRecDepth 100000 in
theorem clean_obj {D : Nat → Prop} (w : World) {b : Nat} {A B : Option Addr} {c d : Nat} {vs : List Value} {ks : List ByteArray} {l : List JV} {rf : Value} (hD : ∀ i, D i → i < w.heap.size) (hDb : D b) (hb : Blk w b 88 [rf, .slice B ks.length d, .slice A l.length c])
      (hk : Rd w B ks.length (ks.map .string)) (hr : Rd w A l.length vs)
      (hl : ∀ (i : Nat) (v : Value) (j : JV), vs[i]? = some v → l[i]? = some j → TAt D w v j) (hkl : ks.length = l.length) (hn : l.length ≤ 1048576)
      (ih : ∀ (i : Nat) (v : Value) (j : JV), vs[i]? = some v → l[i]? = some j → ∀ W, Keeps (fun _ => False) w W → Calls Tryz.prog 17 #[v] W (OfPost D W j.clean)) :
    Calls Tryz.prog 17 #[.iface 84 (.pointer (some ⟨b, 0, none⟩))] w (OfPost D w (JV.obj ks l).clean) := by
  obtain ⟨n, hnn⟩ : ∃ n, n = l.length := ⟨_, rfl⟩
  rw [clean_obj_eq ks l n (by omega)]
  rw [hkl, ← hnn] at hb hk
  rw [← hnn] at hr hn
  have hbb := hb.alloc (.cells #[.nilIface, .slice none 0 0, .slice none 0 0] 88)
  obtain ⟨E, hE⟩ : ∃ E : Nat → Prop, E = fun i => D i ∨ w.heap.size ≤ i := ⟨_, rfl⟩
  have hst := ObS.start E w
  have HE := Lib.hid hE
  have HA := as_mobj_mobj (.pointer (some ⟨b, 0, none⟩))
  have c2 := hbb.cell 2
  have HD := Lib.hid (And.intro hD hDb)
  have HB0 := Lib.hid hb
  have HK := Lib.hid hk
  have HR := Lib.hid hr
  have HL := Lib.hid hl
  have HN := Lib.hid (And.intro hkl hnn)
  have HIH := Lib.hid ih
  have HST := Lib.hid hst
  clear hD hDb hb hk hr hl hkl hnn ih hst hbb hE
  go_enter Tryz.func17, Tryz.ntmps17
  go_upto_block 0 with fail
  obtain ⟨p, hp⟩ : ∃ p, p = w.heap.size := ⟨_, rfl⟩
  rw [← hp] at HST ⊢
  refine gen_codeF (fun W => ObS E w W p .nilIface none 0 none 0 [] [] []) HST.out ?_
  intro w1 ho1
  have HO1 := Lib.hid ho1
  have HP := Lib.hid hp
  clear ho1 HST hp c2
  go_wp2
  go_loopg [23] n (fun gk t wx => ∃ (i : Nat) (B1 : Option Addr) (d1 : Nat) (A1 : Option Addr) (c1 : Nat) (vals : List Value), i ≤ n ∧ t = .int .i64 i ∧ gk = n - i ∧ Hid (ObS E w wx p .nilIface B1 d1 A1 c1 ((kept ks l i).map (·.1)) vals ((kept ks l i).map (·.2))))
  case atStart => exact ⟨0, none, 0, none, 0, [], by omega, rfl, rfl, Lib.hid (by simp only [kept, List.take_zero, List.filter_nil, List.map_nil]; exact HO1.out)⟩
  case round =>
    obtain ⟨i, B1, d1, A1, c1, vals, hin, rfl, hgk, HO⟩ := hrel
    have HGK := Lib.hid hgk
    clear hgk
    by_cases hlt : i < n
    · obtain ⟨g, o, k, hB, hk, hck⟩ := textAt (HK.out.keep HO.out.keep (fun _ _ _ h => h)) hlt
      subst hB
      obtain ⟨g2, o2, hA2, hc2⟩ := (HR.out.keep HO.out.keep (fun _ _ _ h => h)).2 (by omega)
      subst hA2
      obtain ⟨v, hv⟩ : ∃ v, vs[i]? = some v := ⟨_, List.getElem?_eq_getElem (by rw [HR.out.1]; exact hlt)⟩
      obtain ⟨x, hx⟩ : ∃ x, l[i]? = some x := ⟨_, List.getElem?_eq_getElem (by rw [← HN.out.2]; exact hlt)⟩
      have cvv := hc2 i hlt
      rw [hv] at cvv
      have htx := (HL.out i v x hv hx).stay HO.out.keep
      obtain ⟨T, y, hvy⟩ := htx.iface
      subst hvy
      have HOF : Hid (∀ V, Keeps (fun _ => False) wr V → Calls Tryz.prog 17 #[.iface T y] V (OfPost D V x.clean)) := Lib.hid fun V hV => HIH.out i _ x hv hx V (HO.out.keep.trans hV fun _ _ h => h)
      have HX := Lib.hid (And.intro hk hx)
      have HCK := Lib.hid hck
      clear hk hx hck hc2 hv
      have hi63 : (0 : Int) ≤ (i : Int) := by omega
      have hiN : (i : Int) < (n : Int) := by omega
      by_cases hx1 : x.sort = 1
      · have HNU : Hid (∀ V, Keeps (fun _ => False) wr V → Calls Tryz.prog 31 #[.iface T y] V fun e w' => e = .returned (.bool true) ∧ Keeps (fun _ => False) V w') := Lib.hid fun V hV => (isnull_any V _ x (htx.stay hV)).mono fun e w' h => ⟨by rw [h.1, hx1]; rfl, h.2⟩
        have HX1 := Lib.hid hx1
        clear hx1 htx
        go_wp2_with (go_at_call 31; refine (HNU.out _ (by first | exact (Keeps.refl _ _) | exact (Keeps.refl _ _).drew)).mono ?_; rintro e w2 ⟨rfl, hk2⟩; have HK2 := Lib.hid hk2; clear hk2)
        go_roundg (n - (i + 1))
        case measure => rw [HGK.out]; omega
        case rel => exact ⟨i + 1, B1, d1, A1, c1, vals, by omega, by go_num, rfl, Lib.hid (by rw [kept_snoc HX.out.1 HX.out.2, if_pos HX1.out, List.append_nil]; exact HO.out.stay HK2.out)⟩
      · have HNU : Hid (∀ V, Keeps (fun _ => False) wr V → Calls Tryz.prog 31 #[.iface T y] V fun e w' => e = .returned (.bool false) ∧ Keeps (fun _ => False) V w') := Lib.hid fun V hV => (isnull_any V _ x (htx.stay hV)).mono fun e w' h => ⟨by rw [h.1, show (x.sort == 1) = false by simpa using hx1], h.2⟩
        have HX1 := Lib.hid hx1
        clear hx1 htx
        go_upto_region 9 with (go_at_call 31; refine (HNU.out _ (by first | exact (Keeps.refl _ _) | exact (Keeps.refl _ _).drew)).mono ?_; rintro e w2 ⟨rfl, hk2⟩; have HK2 := Lib.hid hk2; clear hk2)
        obtain ⟨m, hm⟩ : ∃ m, m = ((kept ks l i).map (·.1)).length := ⟨_, rfl⟩
        have hmi : m ≤ i := by rw [hm, List.length_map]; exact kept_len ks l i
        have HBL : Hid (∀ V, Keeps (fun _ => False) w2 V → V.cell? ⟨b, 1, none⟩ = some (.slice (some ⟨g, o, none⟩) n d) ∧ V.cell? ⟨g, o + i, none⟩ = some (.string k)) := Lib.hid fun V hV => by
          have h1 := hV.blk (HK2.out.blk (HO.out.keep.blk HB0.out (fun h => h)) (fun h => h)) (fun h => h)
          exact ⟨h1.cell 1, cell_keep hV (cell_keep HK2.out HCK.out)⟩
        have HOF2 : Hid (∀ V, Keeps (fun _ => False) w2 V → Calls Tryz.prog 17 #[.iface T y] V (OfPost D V x.clean)) := Lib.hid fun V hV => HOF.out V (HK2.out.trans hV fun _ _ h => h)
        have HADD : Hid (∀ V V2 t, Keeps (fun _ => False) w2 V → Keeps (fun _ => False) V V2 → TAt (fun i => D i ∨ V.heap.size ≤ i) V2 t x.clean → Calls Tryz.prog 32 #[.pointer (some ⟨p, 0, none⟩), .string k, t] V2 fun e w' => e = .returned (.tuple #[]) ∧ ∃ B d A c vals, Hid (ObS E w w' p .nilIface B d A c ((kept ks l (i + 1)).map (·.1)) vals ((kept ks l (i + 1)).map (·.2)))) := Lib.hid fun V V2 t hV hV2 ht => by
          have k2 := HK2.out.trans hV (fun _ _ h => h)
          have k3 := k2.trans hV2 (fun _ _ h => h)
          refine (add_any w V2 p .nilIface B1 d1 A1 c1 _ _ _ (HO.out.stay k3) (by rw [← hm]; omega) k t x.clean (ht.mono fun q hq _ => ?_)).mono ?_
          · have h1 := HO.out.two.two.a
            have h2 := HO.out.two.two.b
            have h3 := HP.out
            have h4 := HO.out.two.blk.lt
            have h5 := k2.size
            rw [HE.out]
            refine ⟨hq.imp id fun h => by have := HO.out.keep.size; omega, fun e => ?_, fun e => ?_, fun e => ?_⟩
            · rcases hq with h | h
              · have := HD.out.1 q h; omega
              · omega
            · rcases hq with h | h
              · have := HD.out.1 q h; have := h1.2.2 q e; omega
              · have := h1.own_lt e; omega
            · rcases hq with h | h
              · have := HD.out.1 q h; have := h2.2.2 q e; omega
              · have := h2.own_lt e; omega
          · rintro e w' ⟨he, ⟨B, d, A, c, vals2, ho⟩, _⟩
            refine ⟨he, B, d, A, c, vals2, Lib.hid ?_⟩
            rw [kept_snoc HX.out.1 HX.out.2, if_neg HX1.out, List.map_append, List.map_append]
            exact ho
        clear hm hmi
        unfold OfPost at HOF2
        refine wp_region_tail (S := Keeps (fun _ => False) w2) 10 (by kernel_rfl) (Keeps.refl _ _).drew (fun hHeld => ?_)
        refine wpAnyT_pure (i := 0) (oi := ⟨some 31, _, _, _, _, _⟩) (v := ?_) rfl (by kernel_rfl) (by kernel_rfl) (by kernel_rfl) (fun _ _ _ h => h) (Or.inl ⟨by rfl, ?_⟩) ?_
        rotate_left
        · intro w' hSw
          go_simp
          first | done | rfl
        try simp only [Act.put, List.setIfInBounds_toArray, List.set_cons_zero, List.set_cons_succ]
        refine wpAnyT_pure (i := 1) (oi := ⟨some 32, _, _, _, _, _⟩) (v := ?_) rfl (by kernel_rfl) (by kernel_rfl) (by kernel_rfl) (fun _ _ _ h => h) (Or.inl ⟨by rfl, ?_⟩) ?_
        rotate_left
        · intro w' hSw
          go_simp
          first | done | rfl
        try simp only [Act.put, List.setIfInBounds_toArray, List.set_cons_zero, List.set_cons_succ]
        refine wpAnyT_pure (i := 2) (oi := ⟨some 33, _, _, _, _, _⟩) (v := ?_) rfl (by kernel_rfl) (by kernel_rfl) (by kernel_rfl) (fun _ _ _ h => h) (Or.inl ⟨by rfl, ?_⟩) ?_
        rotate_left
        · intro w' hSw
          go_simp
          first | done | rfl
        try simp only [Act.put, List.setIfInBounds_toArray, List.set_cons_zero, List.set_cons_succ]
        refine wpAnyT_pure (i := 3) (oi := ⟨some 34, _, _, _, _, _⟩) (v := ?_) rfl (by kernel_rfl) (by kernel_rfl) (by kernel_rfl) (fun _ _ _ h => h) (Or.inl ⟨by rfl, ?_⟩) ?_
        rotate_left
        · intro w' hSw
          go_simp
          first | done | rfl
        try simp only [Act.put, List.setIfInBounds_toArray, List.set_cons_zero, List.set_cons_succ]
        refine wpAnyT_take [4, 6, 7] (i := 4) (oi := ⟨some 35, _, _, _, _, _⟩) (v := ?_) rfl (by kernel_rfl) (by kernel_rfl) (by kernel_rfl) (by kernel_rfl) (by kernel_rfl) (fun _ _ _ h => h) (Or.inl ⟨by rfl, ?_⟩) hHeld ?_
        rotate_left
        · intro w' hSw
          have cv := (HBL.out _ hSw).1
          go_simp
          first | done | rfl
        try simp only [Act.put, List.setIfInBounds_toArray, List.set_cons_zero, List.set_cons_succ]
        refine wpAnyT_pure (i := 5) (oi := ⟨some 36, _, _, _, _, _⟩) (v := ?_) rfl (by kernel_rfl) (by kernel_rfl) (by kernel_rfl) (fun _ _ _ h => h) (Or.inl ⟨by rfl, ?_⟩) ?_
        rotate_left
        · intro w' hSw
          go_simp
          first | done | rfl
        try simp only [Act.put, List.setIfInBounds_toArray, List.set_cons_zero, List.set_cons_succ]
        refine wpAnyT_pure (i := 6) (oi := ⟨some 37, _, _, _, _, _⟩) (v := ?_) rfl (by kernel_rfl) (by kernel_rfl) (by kernel_rfl) (fun _ _ _ h => h) (Or.inl ⟨by rfl, ?_⟩) ?_
        rotate_left
        · intro w' hSw
          go_simp
          first | done | rfl
        try simp only [Act.put, List.setIfInBounds_toArray, List.set_cons_zero, List.set_cons_succ]
        refine wpAnyT_take [7] (i := 7) (oi := ⟨some 38, _, _, _, _, _⟩) (v := ?_) rfl (by kernel_rfl) (by kernel_rfl) (by kernel_rfl) (by kernel_rfl) (by kernel_rfl) (fun _ _ _ h => h) (Or.inl ⟨by rfl, ?_⟩) hHeld ?_
        rotate_left
        · intro w' hSw
          have cv := (HBL.out _ hSw).2
          go_simp
          first | done | rfl
        try simp only [Act.put, List.setIfInBounds_toArray, List.set_cons_zero, List.set_cons_succ]
        refine wpAnyT_pure (i := 8) (oi := ⟨some 39, _, _, _, _, _⟩) (v := ?_) rfl (by kernel_rfl) (by kernel_rfl) (by kernel_rfl) (fun _ _ _ h => h) (Or.inl ⟨by rfl, ?_⟩) ?_
        rotate_left
        · intro w' hSw
          go_simp
          first | done | rfl
        try simp only [Act.put, List.setIfInBounds_toArray, List.set_cons_zero, List.set_cons_succ]
        refine wpAnyT_step (i := 9) (o := ⟨some 40, _, _, _, _, _⟩) (by kernel_rfl) rfl (fun K hK => ?_)
        go_simp
        refine (HOF2.out _ hHeld).mono ?_
        rintro e w9 ⟨t9, rfl, ht9, hk9⟩
        have HADD9 := Lib.hid (HADD.out _ _ _ hHeld hk9 ht9)
        have hS9 := hHeld.trans hk9 (fun _ _ h => h)
        obtain ⟨T9, y9, ht9e⟩ := ht9.iface
        subst ht9e
        clear ht9 hk9
        refine hK.out _ _ hS9 (fun hHeld => ?_)
        clear hK K
        try simp only [Act.put, List.setIfInBounds_toArray, List.set_cons_zero, List.set_cons_succ]
        refine wpAnyT_tail (i := 10) (o := ⟨some 41, _, _, _, _, _⟩) (by kernel_rfl) (by kernel_rfl) rfl (fun K hK => ?_)
        go_simp
        refine HADD9.out.mono ?_
        rintro e w10 ⟨rfl, B10, d10, A10, c10, vals10, HO10⟩
        refine hK.out _ _ ?_
        clear hK K
        try simp only [Act.put, List.setIfInBounds_toArray, List.set_cons_zero, List.set_cons_succ]
        refine wpAnyT_done (by kernel_rfl) ?_
        go_wp2
        go_roundg (n - (i + 1))
        case measure => rw [HGK.out]; omega
        case rel => exact ⟨i + 1, B10, d10, A10, c10, vals10, by omega, by go_num, rfl, HO10⟩
    · obtain rfl : i = n := by omega
      have HTH := Lib.hid (HO.out.thing (by rw [HE.out]; exact fun q h => .inr h))
      have HKW := Lib.hid HO.out.keep
      clear HO
      go_wp2
      go_ret
      refine ⟨_, rfl, ?_, HKW.out⟩
      have := HTH.out
      rwa [HE.out] at this
theorem clean_all {D : Nat → Prop} {w : World} {v : Value} {j : JV} (h : TAt D w v j) (hD : ∀ i, D i → i < w.heap.size) : JOk j → j.nodes ≤ 1048576 → ∀ W, Keeps (fun _ => False) w W → Calls Tryz.prog 17 #[v] W (OfPost D W j.clean) := by
  induction h with
  | @whole it j hj hs =>
    intro _ _ W hW
    have HJ := Lib.hid (And.intro (hj.stay hW) hs)
    have HA := as_whole_mobj (.agg #[it])
    rw [clean_whole j hs]
    clear hj hs
    go_enter Tryz.func17, Tryz.ntmps17
    go_wp2
    go_ret
    exact ⟨_, rfl, .whole (HJ.out.1.mono fun i hi _ => .inl hi) HJ.out.2, Keeps.refl _ _⟩
  | @obj b A B c d vs ks l rf hDb hb hrf hk hok hr ho hl ih =>
    intro hj hn W hW
    have hf := hj.form
    have hkl := hf.2.1 rfl
    have hio := items_nodes (.obj ks l)
    refine clean_obj W (rf := rf) (A := A) (B := B) (c := c) (d := d) (vs := vs) (fun i hi => Nat.lt_of_lt_of_le (hD i hi) hW.size) hDb (hW.blk hb (fun h => h)) (hk.keep hW (fun _ _ _ h => h)) (hr.keep hW (fun _ _ _ h => h)) (fun i v x h1 h2 => (hl i v x h1 h2).stay hW) hkl (by have : (JV.obj ks l).items.length = l.length := rfl; omega) ?_
    intro i v x h1 h2 V hV
    have hm : x ∈ (JV.obj ks l).items := List.mem_of_getElem? h2
    exact ih i v x h1 h2 (hf.2.2.2.2.2 x hm) (Nat.le_trans (item_nodes hm) hn) V (hW.trans hV fun _ _ h => h)
/-- clean, whatever the thing. -/
theorem clean_any {D : Nat → Prop} (w : World) (v : Value) (j : JV) (h : TAt D w v j) (hj : JOk j) (hn : j.nodes ≤ 1048576) : Calls Tryz.prog 17 #[v] w (OfPost D w j.clean) := by
  refine (clean_all (h.mono (C := fun i => D i ∧ i < w.heap.size) fun i h1 h2 => ⟨h1, h2⟩) (fun i h => h.2) hj hn w (Keeps.refl _ _)).mono ?_
  rintro e w' ⟨t, he, ht, hk⟩
  exact ⟨t, he, ht.mono fun i hi _ => hi.imp (fun h => h.1) id, hk⟩
end Go.Proofs.YtdmcioghdindfaaGreat
