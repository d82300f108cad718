/-
  Texts put together: ROverW.
-/
import Derived.Test.YtdmcioghdindfaaGreatDoorQ35
import Derived.Test.YtdmcioghdindfaaGreatDoorQ36
import Derived.Test.YtdmcioghdindfaaGreatDoorQ21
import Derived.Test.YtdmcioghdindfaaGreatDoorQ33
import Derived.Test.YtdmcioghdindfaaGreatDoorQ03
set_option linter.unusedSimpArgs false
set_option maxRecDepth 100000
set_option maxHeartbeats 4000000
namespace Go.Proofs.YtdmcioghdindfaaGreatDoor
open Go Go.RowKit Go.Aff Go.Json
attribute [local go_sem] Oper.semAt_some
def ROverPost (D : Nat → Prop) (w : World) (r : List ByteArray ⊕ JV) (e : Ending) (w' : World) : Prop := Keeps (fun _ => False) w w' ∧ match r with
 | .inl b => ∃ A n c, e = .returned (.tuple #[.agg #[.int .i64 0, .bool false, .int .u64 0, .string .empty, .slice none 0 0, .slice none 0 0], .slice A n c, .bool false]) ∧ b.length = n ∧ Rd w' A n (b.map .string) ∧ InB (fun i => w.heap.size ≤ i) A n
 | .inr j => ∃ v, e = .returned (.tuple #[.agg v.toArray, .slice none 0 0, .bool true]) ∧ RAt (fun i => D i ∨ w.heap.size ≤ i) w' v j
section
variable {P : Program}
theorem step_append_mine {Q : Exit → Act → World → Prop} {K : Act → World → Prop} {ops : Array Oper} {a : Act} {w0 w : World} {o : Oper} (hgd : o.guard = none) (s x : Operand) (t : TypeId)
  (ho : o.op = .call { callee := .builtin .append, args := #[s, x], argTypes := #[t, t] })
  (e : TypeId) (z : Value) (sz bytes : Nat) (ht : P.underlying t = some (.slice e)) (hinfo : (P.info? e).map (fun i => (i.zero, i.size, i.bytes)) = some (some z, sz, bytes)) (hzs : z.cells.size = sz) (hpos : 0 < sz)
  {A0 : Option Addr} {n c0 : Nat} {xs : List Value} (hs : a.eval s = .slice A0 n c0) (hT : MineS sz w0 w e A0 n c0 xs)
  (A : Option Addr) (m c : Nat) (news : List Value) (hx : a.eval x = .slice A m c) (hr : RdS sz w A m news) (h1 : ∀ u ∈ news, u.oneCell' = true)
  (h63 : n + m ≤ maxLen) (hbytes : (n + m) * bytes ≤ 140737488355328) (k : Nat) (hk : n + m = k) (zs : List Value) (hz : xs ++ news = zs)
  (h : ∀ A' c' w', MineS sz w0 w' e A' k c' zs → Keeps (fun i => (Value.slice A0 n c0).ownBlock = some i) w w' → K (a.put o.dst (.slice A' k c')) w') :
  if Region.wanted o (yielded ops a.tmps) = true then Oper.wp P o a w K Q else K (a.put o.dst undef) w := by
 subst hk hz
 rcases A with _ | ad
 ·have hm : m = 0 := by
   rcases Nat.eq_zero_or_pos m with h0 | h0
   ·exact h0
   ·obtain ⟨g, o, e1, _⟩ := hr.2 h0
    cases e1
  subst hm
  have hn : news = [] := List.eq_nil_of_length_eq_zero (by rw [hr.1]; simp)
  subst hn
  obtain ⟨i, hi, hzi⟩ := Option.map_eq_some_iff.1 hinfo
  have hw : Region.wanted o (yielded ops a.tmps) = true := by simp [Region.wanted, hgd]
  rw [if_pos hw]
  have hrun : (Builtin.append_ #[t, t] o.type #[.slice A0 n c0, .slice none 0 c]).run P w = .ok (.slice A0 n c0) w := by
   rcases hT.1.2 with ⟨hv, hn0⟩ | ⟨g, cap, cur, hv, _, _, hnc, _⟩
   ·injection hv with e1 e2 e3
    subst e1 e2 e3
    simp [Builtin.append_, run_underlying ht, sizeOf, typeInfo, hi, Builtin.lenOf, Builtin.firstCells]
   ·injection hv with e1 e2 e3
    subst e1 e3
    simp [Builtin.append_, run_underlying ht, sizeOf, typeInfo, hi, Builtin.lenOf, Builtin.firstCells, hnc, storeCells]
  unfold Oper.wp execOp
  simp only [ho, resolve, invoke, builtin, Sem.run_bind, Sem.run_pure, Result.andThen_ok, List.map_toArray, List.map_cons, List.map_nil, hs, hx, hrun]
  exact h A0 c0 w (by simpa using hT) (Keeps.refl _ _)
 ·refine step_append_own hgd s x t ho e z sz bytes ht hinfo hzs hpos A0 n c0 xs hs hT.1 ad m c news hx hr.1 (fun j u hu => ?_) h1 h63 hbytes fun A' c' w' k1 k2 k3 => h A' c' w' (hT.grown k1 k2 k3) ((Keeps.of_grown k2).mono fun i _ e => e)
  have hj : j < news.length := (List.getElem?_eq_some_iff.1 hu).1
  have hm0 : 0 < m := by
   rcases Nat.eq_zero_or_pos m with h0 | h0
   ·subst h0; rw [hr.1] at hj; simp at hj
   ·exact h0
  obtain ⟨g, o, e1, hc⟩ := hr.2 hm0
  injection e1 with e1
  subst e1
  have hj2 : j < m * sz := by rw [← hr.1]; exact hj
  have := hc j hj2
  rw [hu] at this
  rw [add_at]
  exact this
end
structure ROverIn (D : Nat → Prop) (w : World) (v u : List Value) (ko : List ByteArray) (lo : List JV) (o : Option JV) (W : Option Addr) (wn : Nat) (way : List ByteArray) : Prop where
 at1 : RAt D w v (.obj ko lo)
 at2 : ORAt D w u o
 low : ∀ i, D i → i < w.heap.size
 ok : JOk (.obj ko lo)
 ok2 : OOk o
 few : (mem2 o).1.length + ko.length ≤ 1048576
 right : ∀ s ∈ (mem2 o).1 ++ ko, rightS s = true ∧ s.size ≤ 1099511627776
 row : Rd w W wn (way.map .string)
 len : way.length = wn
 room : wn + (JV.obj ko lo).deep ≤ 65536
 small : ∀ x ∈ (mem2 o).2, JOk x ∧ x.nodes ≤ 1048576
theorem rover_obj {D : Nat → Prop} (w : World) (v u : List Value) (ko : List ByteArray) (lo : List JV) (o : Option JV) (Wa : Option Addr) (wn wc0 : Nat) (way : List ByteArray) (h : ROverIn D w v u ko lo o Wa wn way)
  (ih : ∀ y ∈ lo, ∀ (ou : Option JV), (∀ x, ou = some x → x ∈ (mem2 o).2) → ∀ (D' : Nat → Prop) (W : World) (t s : List Value) (A' : Option Addr) (n' c' : Nat) (way' : List ByteArray), RAt D' W t y → ORAt D' W s ou → Rd W A' n' (way'.map .string) → way'.length = n' → n' + y.deep ≤ 65536 → Calls Tryz.prog 22 #[.agg s.toArray, .agg t.toArray, .slice A' n' c'] W (ROverPost D' W (y.over ou way'))) :
  Calls Tryz.prog 22 #[.agg u.toArray, .agg v.toArray, .slice Wa wn wc0] w (ROverPost D w ((JV.obj ko lo).over o way)) := by
 obtain ⟨r, hr⟩ : ∃ r, r = (JV.obj ko lo).over o way := ⟨_, rfl⟩
 rw [← hr]
 have HR := Lib.hid hr
 clear hr
 have HH := Lib.hid h
 have HIH := Lib.hid ih
 have HL6 : Hid (v.length = 6 ∧ u.length = 6) := Lib.hid ⟨h.at1.len, h.at2.len⟩
 have HSV := Lib.hid (infoV HL6.out.1)
 have HSU := Lib.hid (infoV HL6.out.2)
 have hb2 := ((Blk.new w 31 u).alloc (.cells v.toArray 31)).alloc (.cells #[.int .i64 0, .bool false, .int .u64 0, .string .empty, .slice none 0 0, .slice none 0 0] 31)
 have hb1 := (Blk.new (w.alloc (.cells u.toArray 31)) 31 v).alloc (.cells #[.int .i64 0, .bool false, .int .u64 0, .string .empty, .slice none 0 0, .slice none 0 0] 31)
 have hb3 := Blk.new ((w.alloc (.cells u.toArray 31)).alloc (.cells v.toArray 31)) 31 [.int .i64 0, .bool false, .int .u64 0, .string .empty, .slice none 0 0, .slice none 0 0]
 have hk3 := (((Keeps.refl (fun _ => False) w).alloc (.cells u.toArray 31)).alloc (.cells v.toArray 31)).alloc (.cells #[.int .i64 0, .bool false, .int .u64 0, .string .empty, .slice none 0 0, .slice none 0 0] 31)
 simp only [World.size_alloc] at hb1 hb3
 obtain ⟨b2, hq1⟩ : ∃ b, b = w.heap.size := ⟨_, rfl⟩
 obtain ⟨b1, hq2⟩ : ∃ b, b = w.heap.size + 1 := ⟨_, rfl⟩
 obtain ⟨b3, hq3⟩ : ∃ b, b = w.heap.size + 1 + 1 := ⟨_, rfl⟩
 have HW3 := Lib.hid (And.intro hk3 (And.intro hb1 (And.intro hb2 hb3)))
 clear h ih hb1 hb2 hb3 hk3
 go_enter Tryz.func22, Tryz.ntmps22
 go_upto_region 1 with fail
 rw [← hq3, ← hq2, ← hq1] at HW3
 rw [← hq3, ← hq2, ← hq1]
 refine gen_codeF (fun W => Keeps (fun _ => False) w W ∧ Blk W b1 31 v ∧ Blk W b2 31 u ∧ Blk W b3 31 [.int .i64 0, .bool false, .int .u64 0, .string .empty, .slice none 0 0, .slice none 0 0]) HW3.out ?_
 rintro w1 ⟨k1, g1, g2, g3⟩
 have H1 := Lib.hid (And.intro k1 (And.intro g1 (And.intro g2 (And.intro g3 (And.intro hq1 (And.intro hq2 hq3))))))
 have c0 : w1.cell? ⟨b1, 0, none⟩ = some (.int .i64 6) := by
  obtain ⟨A', c', B', d', cs', hv', _⟩ := HH.out.at1.form
  rw [g1.cell 0, hv']; rfl
 have hz := Blk.new w1 31 [.int .i64 0, .bool false, .int .u64 0, .string .empty, .slice none 0 0, .slice none 0 0]
 have f0 := hz.frozen 0
 have f1 := hz.frozen 1
 have f2 := hz.frozen 2
 have f3 := hz.frozen 3
 have f4 := hz.frozen 4
 have f5 := hz.frozen 5
 clear k1 g1 g2 g3 hq1 hq2 hq3 HW3 hz
 go_upto_region 4 with fail
 obtain ⟨p, hp⟩ : ∃ p, p = w1.heap.size := ⟨_, rfl⟩
 have HS0 : Hid (RbS (fun i => D i ∨ w1.heap.size ≤ i) w1 (w1.alloc (.cells #[.int .i64 6, .bool false, .int .u64 0, .string .empty, .slice none 0 0, .slice none 0 0] 31)) p none 0 none 0 [] [] []) := Lib.hid ⟨by rw [hp]; exact BoxTwo.start w1 31 9 31 1 6 (Keeps.refl _ w1) [.int .i64 6, .bool false, .int .u64 0, .string .empty, .slice none 0 0, .slice none 0 0], RList.nil _ _, rfl⟩
 rw [← hp]
 refine gen_codeF (fun W => RbS (fun i => D i ∨ w1.heap.size ≤ i) w1 W p none 0 none 0 [] [] []) HS0.out ?_
 intro w2 hs2
 have HS2 := Lib.hid hs2
 have HPP := Lib.hid hp
 clear HS0 hs2 hp c0 f0 f1 f2 f3 f4 f5
 have HBU := Lib.hid (HS2.out.two.hold.blk H1.out.2.2.1 (fun h => h))
 have HBV := Lib.hid (HS2.out.two.hold.blk H1.out.2.1 (fun h => h))
 have HKO : Hid (Calls Tryz.prog 40 #[.slice (some ⟨w2.heap.size, 0, none⟩) 2 2] (w2.alloc (.cells (u ++ v).toArray 31)) fun e w' => ∃ (A : Option Addr) (n c : Nat) (cs : List ByteArray), e = .returned (.slice A n c) ∧ n ≤ 1048576 ∧ Hid (cs.length = n ∧ Rd w' A n (cs.map .string) ∧ InB (fun i => w2.heap.size ≤ i) A n ∧ cs.Pairwise ltS ∧ (∀ s, s ∈ cs ↔ s ∈ (mem2 o).1 ++ ko) ∧ Keeps (fun _ => False) w2 w')) := Lib.hid (by
  have hk2 := (H1.out.1.trans HS2.out.two.hold fun _ _ h => h).alloc (.cells (u ++ v).toArray 31)
  have hall : keysTo [o, some (.obj ko lo)] 2 = (mem2 o).1 ++ ko := by simp [keysTo]; rfl
  refine (rkeysof_any (D := D) _ (some ⟨w2.heap.size, 0, none⟩) 2 2 [u, v] [o, some (.obj ko lo)] (by
   have := RdS.blk (n := 2) (s := 6) (Blk.new w2 31 (u ++ v)) (by rw [List.length_append, HL6.out.1, HL6.out.2])
   simpa using this) rfl rfl ?_ (by rw [hall, List.length_append]; exact HH.out.few) (by rw [hall]; exact HH.out.right) (by decide)).mono ?_
  ·intro i cs o' h1 h2
   match i, h1, h2 with
   | 0, h1, h2 => injection h1 with h1; injection h2 with h2; subst h1 h2; exact HH.out.at2.stay hk2
   | 1, h1, h2 => injection h1 with h1; injection h2 with h2; subst h1 h2; exact RAt.stay HH.out.at1 hk2
   | i + 2, h1, h2 => simp at h1
  ·rintro e w' ⟨A, n, c, cs, he, h1, h2, h3, h4, h5, h6, h7⟩
   rw [hall] at h6
   exact ⟨A, n, c, cs, he, h2, Lib.hid ⟨h1, h3, h4.mono fun i hi => Nat.le_trans (by rw [World.size_alloc]; omega) hi, h5, h6, ((Keeps.refl _ w2).alloc _).trans h7 fun _ _ h => h⟩⟩)
 go_upto_block 0 with (first
  | ((with_reducible show wpList _ _ _ (⟨some 24, _, _, _, _, _⟩ :: _) _ _); refine wpList_load_whole rfl 31 _ rfl _ rfl HBU.out Tryz.underlying31 rfl HSU.out ?_)
  | ((with_reducible show wpList _ _ _ (⟨some 25, _, _, _, _, _⟩ :: _) _ _); refine wpList_load_whole rfl 31 _ rfl _ rfl HBV.out Tryz.underlying31 rfl HSV.out ?_)
  | ((with_reducible show wpList _ _ _ (⟨some 26, _, _, _, _, _⟩ :: _) _ _); refine wpList_box2_S _ rfl 28 31 (.tmp 24) (.tmp 25) rfl (.agg #[.int .i64 0, .bool false, .int .u64 0, .string .empty, .slice none 0 0, .slice none 0 0]) 6 Tryz.underlying28 (by kernel_rfl) (by decide) (by decide) u v HL6.out.2 HL6.out.1 rfl rfl ?_)
  | (go_at_call 40; refine HKO.out.mono ?_; rintro e w4 ⟨A, n, c, cs, rfl, hn, H4⟩))
 have HS4 := Lib.hid (RlSt.start (HS2.out.stay H4.out.2.2.2.2.2))
 have HA4 := Lib.hid (Rd.inB H4.out.2.1 H4.out.2.2.1 (C := fun i => w2.heap.size ≤ i ∧ i < w4.heap.size) fun i h1 h2 => ⟨h1, h2⟩)
 have HP3 : Hid (w.heap.size ≤ w1.heap.size ∧ w1.heap.size ≤ p ∧ p < w2.heap.size ∧ w2.heap.size ≤ w4.heap.size) := Lib.hid ⟨H1.out.1.size, by rw [HPP.out]; exact Nat.le_refl _, HS2.out.two.blk.lt, H4.out.2.2.2.2.2.size⟩
 obtain ⟨F, hF⟩ : ∃ F : ByteArray → List ByteArray ⊕ Option JV, F = overF ko lo o way := ⟨_, rfl⟩
 have HFF := Lib.hid hF
 clear hF
 have HLE : Hid (∀ i, (keyed (goodF F) (cs.take i)).length ≤ i) := Lib.hid fun i => Nat.le_trans (keyed_len _ _) (by rw [List.length_take]; omega)
 clear HKO HBU HBV
 go_wp2
 go_loopg [11] n (fun gk t wx => ∃ (i : Nat) (B1 : Option Addr) (d1 : Nat) (A1 : Option Addr) (c1 : Nat) (css : List (List Value)), i ≤ n ∧ t = .int .i64 i ∧ gk = n - i ∧ Hid (RlSt (fun i => D i ∨ w1.heap.size ≤ i) w1 w4 wx p B1 d1 A1 c1 (keyed (goodF F) (cs.take i)) css) ∧ Hid (∀ k ∈ cs.take i, ∃ oo, F k = .inr oo))
 case atStart => exact ⟨0, none, 0, none, 0, [], by omega, rfl, rfl, Lib.hid (by simp only [keyed, List.take_zero, List.filterMap_nil]; exact HS4.out), Lib.hid fun k hk => by simp at hk⟩
 case round =>
  obtain ⟨i, B1, d1, A1, c1, css, hin, rfl, hgk, HO, HPF⟩ := hrel
  have HGK := Lib.hid hgk
  clear hgk
  have HK1 : Hid (Keeps (fun _ => False) w1 wr ∧ Keeps (fun _ => False) w wr) := Lib.hid ⟨HO.out.rb.two.hold, H1.out.1.trans HO.out.rb.two.hold fun _ _ h => h⟩
  by_cases hlt : i < n
  ·obtain ⟨g, o1, key, hA, hky, hck⟩ := textAt (H4.out.2.1.keep HO.out.keep (HA4.out.out fun q hq e => by have := HP3.out; have := hq.1; have := hq.2; omega)) hlt
   subst hA
   have hkin := (H4.out.2.2.2.2.1 key).1 (List.mem_of_getElem? hky)
   have HBU := Lib.hid (HK1.out.1.blk H1.out.2.2.1 (fun h => h))
   have HBV := Lib.hid (HK1.out.1.blk H1.out.2.1 (fun h => h))
   have hm2 := mem2_ok HH.out.ok2
   have hf := HH.out.ok.form
   have HG5 : Hid (∀ V, Keeps (fun _ => False) wr V → Calls Tryz.prog 41 #[.agg u.toArray, .string key] V (ORPost D V (atK (mem2 o).1 (mem2 o).2 key))) := Lib.hid fun V hV => rget_any V u o (HH.out.at2.stay (HK1.out.2.trans hV fun _ _ h => h)) hm2.1 (by have := HH.out.few; omega) key
   have HG11 : Hid (∀ V, Keeps (fun _ => False) wr V → Calls Tryz.prog 41 #[.agg v.toArray, .string key] V (ORPost D V (atK ko lo key))) := Lib.hid fun V hV => rget_any V v (some (.obj ko lo)) (RAt.stay HH.out.at1 (HK1.out.2.trans hV fun _ _ h => h)) (hf.2.1 rfl) (by have := HH.out.few; show ko.length ≤ _; omega) key
   have HKY := Lib.hid (And.intro hky hkin)
   have HCK := Lib.hid hck
   have HML := Lib.hid (And.intro hm2 hf)
   obtain ⟨ou, hou⟩ : ∃ ou, ou = atK (mem2 o).1 (mem2 o).2 key := ⟨_, rfl⟩
   obtain ⟨oy, hoy⟩ : ∃ oy, oy = atK ko lo key := ⟨_, rfl⟩
   rw [← hou] at HG5
   rw [← hoy] at HG11
   have HOU := Lib.hid hou
   have HOY := Lib.hid hoy
   have HLW : Hid (∀ q, D q → q < wr.heap.size) := Lib.hid fun q hq => Nat.lt_of_lt_of_le (HH.out.low q hq) HK1.out.2.size
   have hi63 : (0 : Int) ≤ (i : Int) := by omega
   have hiN : (i : Int) < (n : Int) := by omega
   unfold ORPost at HG5 HG11
   clear hky hkin hck hm2 hf hou hoy
   go_upto_region 8 with fail
   go_cut [12, 13] (fun t s wx => ∃ (p8 p9 : Nat) (X Y : List Value), t = .pointer (some ⟨p8, 0, none⟩) ∧ s = .pointer (some ⟨p9, 0, none⟩) ∧ Hid (TwoV wr wx p8 p9 X Y ∧ ORAt D wx X ou ∧ ORAt D wx Y oy))
   case first =>
    refine wp_region_held_drew (S := Keeps (fun _ => False) wr) (by kernel_rfl) (Keeps.refl _ _).drew (fun hHeld => ?_)
    refine tH (i := 0) (oi := ⟨some 34, _, _, _, _, _⟩) (v := _) rfl (yieldsIf_load_mid (by rfl) _ _ rfl _ _ rfl u _ (fun w' h => blk_rngL (h.blk HBU.out (fun h => h))) Tryz.underlying31 rfl HSU.out) hHeld ?_
    try simp only [pu]
    refine tI 1 35 hHeld ?_
    try simp only [pu]
    refine tI 2 36 hHeld ?_
    try simp only [pu]
    refine tI 3 37 hHeld ?_
    try simp only [pu]
    refine tH (i := 4) (oi := ⟨some 38, _, _, _, _, _⟩) (v := ?_) rfl (Or.inl ⟨by rfl, ?_⟩) hHeld ?_
    rotate_left
    ·intro w' hSw
     have cv := cell_keep hSw HCK.out
     go_simp
     first | done | rfl
    try simp only [pu]
    refine tH (i := 6) (oi := ⟨some 40, _, _, _, _, _⟩) (v := _) rfl (yieldsIf_load_mid (by rfl) _ _ rfl _ _ rfl v _ (fun w' h => blk_rngL (h.blk HBV.out (fun h => h))) Tryz.underlying31 rfl HSV.out) hHeld ?_
    try simp only [pu]
    refine tI 7 41 hHeld ?_
    try simp only [pu]
    refine tI 8 42 hHeld ?_
    try simp only [pu]
    refine tI 9 43 hHeld ?_
    try simp only [pu]
    refine tH (i := 10) (oi := ⟨some 44, _, _, _, _, _⟩) (v := ?_) rfl (Or.inl ⟨by rfl, ?_⟩) hHeld ?_
    rotate_left
    ·intro w' hSw
     have cv := cell_keep hSw HCK.out
     go_simp
     first | done | rfl
    try simp only [pu]
    refine wpAnyH_inv [39, 45, 12, 13] (TwoJ D wr 5 11 12 13 14 15 39 45 12 13 ou oy) [5, 11, 12, 13, 14, 15] (by kernel_rfl) (by kernel_rfl) (by kernel_rfl) (by decide) (fun _ _ _ h => h.keep) (by kernel_rfl) (fun _ _ h => TwoJ.start hHeld h) ?_ ?_
    rotate_left
    ·refine (AllStepsI.cons (o := ⟨some 39, _, _, _, _, _⟩) [] (by decide) rfl rfl (by kernel_rfl) (fun done f w hJ hn hp a ha K hK => ?_) (AllStepsI.cons (o := ⟨some 45, _, _, _, _, _⟩) [5] (by decide) rfl rfl (by kernel_rfl) (fun done f w hJ hn hp a ha K hK => ?_) (AllStepsI.cons (o := ⟨some 12, _, _, _, _, _⟩) [] (by decide) rfl rfl (by kernel_rfl) (fun done f w hJ hn hp a ha K hK => ?_) (AllStepsI.cons (o := ⟨some 13, _, _, _, _, _⟩) [] (by decide) rfl rfl (by kernel_rfl) (fun done f w hJ hn hp a ha K hK => ?_) (AllStepsI.cons (o := ⟨none, _, _, _, _, _⟩) [5, 11, 12, 13] (by decide) rfl rfl (by kernel_rfl) (fun done f w hJ hn hp a ha K hK => ?_) (AllStepsI.cons (o := ⟨none, _, _, _, _, _⟩) [5, 11, 12, 13, 14] (by decide) rfl rfl (by kernel_rfl) (fun done f w hJ hn hp a ha K hK => ?_) AllStepsI.nil))))))
     ·simp only [actsOf, Act.put, List.setIfInBounds_toArray, List.set_cons_zero, List.set_cons_succ] at ha
      subst ha
      go_simp
      refine (HG5.out _ hJ.keep).mono ?_
      rintro e v ⟨X, rfl, hx, k⟩
      exact hK.out _ _ (hJ.got k hx hn (by decide) (by decide))
     ·simp only [actsOf, Act.put, List.setIfInBounds_toArray, List.set_cons_zero, List.set_cons_succ] at ha
      subst ha
      go_simp
      refine (HG11.out _ hJ.keep).mono ?_
      rintro e v ⟨X, rfl, hx, k⟩
      exact hK.out _ _ (hJ.swap.got k hx hn (by decide) (by decide)).swap
     ·simp only [actsOf, Act.put, List.setIfInBounds_toArray, List.set_cons_zero, List.set_cons_succ] at ha
      subst ha
      go_simp
      exact hK.out _ _ (hJ.made rfl hn (by decide) (by decide))
     ·simp only [actsOf, Act.put, List.setIfInBounds_toArray, List.set_cons_zero, List.set_cons_succ] at ha
      subst ha
      go_simp
      exact hK.out _ _ (hJ.swap.made rfl hn (by decide) (by decide)).swap
     ·obtain ⟨p, cs, e1, hb, _, hl, _⟩ := hJ.v1 (hp 12 (by decide))
      obtain ⟨X, e2, hx⟩ := hJ.c1 (hp 5 (by decide))
      simp only [actsOf, Act.put, List.setIfInBounds_toArray, List.set_cons_zero, List.set_cons_succ, e1, e2] at ha
      subst ha
      refine step_store_whole rfl 31 (.tmp 12) (.tmp 39) rfl X rfl rfl hb (by rw [hl, hx.len]) (infoV hx.len) hx.one ?_
      exact hK.out undef _ (hJ.put HLW.out e1 e2 (hp 5 (by decide)) (hp 12 (by decide)) (by decide))
     ·obtain ⟨p, cs, e1, hb, _, hl, _⟩ := hJ.v2 (hp 13 (by decide))
      obtain ⟨X, e2, hx⟩ := hJ.c2 (hp 11 (by decide))
      simp only [actsOf, Act.put, List.setIfInBounds_toArray, List.set_cons_zero, List.set_cons_succ, e1, e2] at ha
      subst ha
      refine step_store_whole rfl 31 (.tmp 13) (.tmp 45) rfl X rfl rfl hb (by rw [hl, hx.len]) (infoV hx.len) hx.one ?_
      exact hK.out undef _ (hJ.swap.put HLW.out e1 e2 (hp 11 (by decide)) (hp 13 (by decide)) (by decide)).swap
    ·intro done f w hJ hall
     obtain ⟨p8, X, e1, hb1, hl1, _, e2⟩ := hJ.v1 (hall 12 (by decide))
     obtain ⟨p9, Y, e3, hb2, hl2, _, e4⟩ := hJ.v2 (hall 13 (by decide))
     obtain ⟨X', e5, hx⟩ := hJ.c1 (hall 5 (by decide))
     obtain ⟨Y', e6, hy⟩ := hJ.c2 (hall 11 (by decide))
     have hne := hJ.ne (hall 12 (by decide)) (hall 13 (by decide))
     have e2 := e2 (hall 14 (by decide))
     have e4 := e4 (hall 15 (by decide))
     obtain rfl : X' = X := by rw [e5] at e2; injection e2 with e2; exact List.toArray_inj e2
     obtain rfl : Y' = Y := by rw [e6] at e4; injection e4 with e4; exact List.toArray_inj e4
     have hne2 : p8 ≠ p9 := fun e => hne (by rw [e1, e3, e])
     have HK := Lib.hid hJ.keep
     simp only [actsOf, Act.put, List.setIfInBounds_toArray, List.set_cons_zero, List.set_cons_succ, e1, e2, e3, e4]
     clear e1 e2 e3 e4 e5 e6 hne hJ hall
     go_wp2
     go_meet
     exact ⟨p8, p9, X', Y', rfl, rfl, Lib.hid ⟨⟨HK.out, hb1, hb2, hne2, hl1, hl2⟩, hx, hy⟩⟩
   case rest =>
    obtain ⟨p8, p9, X, Y, rfl, rfl, HT9⟩ := hcut
    obtain ⟨w5, hw5⟩ : ∃ w5, w5 = wc := ⟨_, rfl⟩
    subst hw5
    obtain ⟨ht5, hx5, hy5⟩ := HT9.out
    have HW5 : Hid (Keeps (fun _ => False) wr w5) := Lib.hid ht5.keep
    have HT5 := Lib.hid (And.intro ht5 (And.intro hx5 hy5))
    have HKW5 : Hid (Keeps (fun _ => False) w w5) := Lib.hid (HK1.out.2.trans ht5.keep fun _ _ h => h)
    have hr5 := RdS.of_rd (HH.out.row.keep HKW5.out fun _ _ _ h => h)
    have HR5 := Lib.hid hr5
    have hwn : wn ≤ 65536 := by have := HH.out.room; omega
    have HCK5 := Lib.hid (cell_keep ht5.keep HCK.out)
    have HZS : Hid ((way.map Value.string) ++ [.string key] = (way ++ [key]).map .string) := Lib.hid (by rw [List.map_append]; rfl)
    have H1C : Hid (∀ u ∈ way.map Value.string, u.oneCell' = true) := Lib.hid fun u hu => by
     obtain ⟨x, _, rfl⟩ := List.mem_map.1 hu; rfl
    clear HT9 ht5 hx5 hy5 hr5
    go_upto_region 9 with fail
    go_cut [14] (fun t wx => ∃ (A9 : Option Addr) (c9 : Nat), t = .slice A9 (wn + 1) c9 ∧ Hid (Rd wx A9 (wn + 1) ((way ++ [key]).map .string) ∧ InB (fun q => w5.heap.size ≤ q) A9 (wn + 1) ∧ Keeps (fun _ => False) w5 wx))
    case first =>
     refine wp_region_held_drew (S := Keeps (fun _ => False) w5) (by kernel_rfl) (Keeps.refl _ _).drew (fun hHeld => ?_)
     refine tI 1 47 hHeld ?_
     try simp only [pu]
     refine tI 3 49 hHeld ?_
     try simp only [pu]
     refine tI 4 50 hHeld ?_
     try simp only [pu]
     refine tI 5 51 hHeld ?_
     try simp only [pu]
     refine tH (i := 6) (oi := ⟨some 52, _, _, _, _, _⟩) (v := ?_) rfl (Or.inl ⟨by rfl, ?_⟩) hHeld ?_
     rotate_left
     ·intro w' hSw
      have cv := cell_keep hSw HCK5.out
      go_simp
      first | done | rfl
     try simp only [pu]
     refine wpAnyH_ready (rs := [0, 7]) (by kernel_rfl) (by simp) ?_
     refine (AllReadyH.cons (o := ⟨some 46, _, _, _, _, _⟩) rfl (fun K hK => ?_) (AllReadyH.cons (o := ⟨some 53, _, _, _, _, _⟩) rfl (fun K hK => ?_) AllReadyH.nil))
     ·go_simp
      refine gen_KA (fun V => Keeps (fun _ => False) w5.drew V ∧ MineS 1 w5 V 9 (some ⟨w5.drew.heap.size, 0, none⟩) 0 0 []) ⟨(Keeps.refl _ _).alloc _, MineS.none0 _ _ _ _ hHeld⟩ ?_
      rintro v0 ⟨k, m⟩
      have lo46 := hHeld.size
      have h0 := hHeld.trans k (fun _ _ h => h)
      clear k
      refine hK.out _ _ h0 (fun hHeld => ?_)
      clear hK K
      try simp only [pu]
      refine wpAnyH_ready (rs := [2, 7]) (by kernel_rfl) (by simp) ?_
      refine (AllReadyH.cons (o := ⟨some 48, _, _, _, _, _⟩) rfl (fun K hK => ?_) (AllReadyH.cons (o := ⟨some 53, _, _, _, _, _⟩) rfl (fun K hK => ?_) AllReadyH.nil))
      ·skip
       refine step_append_mine rfl (.tmp 46) (.tmp 47) 29 rfl 9 (.string .empty) 1 16 Tryz.underlying29 (by kernel_rfl) rfl (by decide) rfl m Wa wn wc0 (way.map .string) rfl (HR5.out.stay hHeld) H1C.out (by unfold maxLen; omega) (by omega) wn (by omega) (way.map .string) (by simp) ?_
       intro A8 c8 v0_2 m' k
       clear m
       have m := m'
       clear m'
       have h0_2 := m.2.1
       clear k
       refine hK.out _ _ h0_2 (fun hHeld => ?_)
       clear hK K
       try simp only [pu]
       refine rH 7 (some 53) fun K hK => ?_
       go_simp
       refine gen_KA (fun V => Keeps (fun _ => False) v0_2 V ∧ Blk V v0_2.heap.size 9 [.string key]) ⟨(Keeps.refl _ _).alloc _, Blk.new _ _ _⟩ ?_
       rintro v0_2_7 ⟨k, b7⟩
       have m' := m.keep k
       clear m
       have m := m'
       clear m'
       have h0_2_7 := hHeld.trans k (fun _ _ h => h)
       clear k
       refine hK.out _ _ h0_2_7 (fun hHeld => ?_)
       clear hK K
       try simp only [pu]
       refine rH 8 (some 54) fun K hK => ?_
       skip
       refine step_append_mine rfl (.tmp 48) (.tmp 53) 29 rfl 9 (.string .empty) 1 16 Tryz.underlying29 (by kernel_rfl) rfl (by decide) rfl m (some ⟨v0_2.heap.size, 0, none⟩) 1 1 [.string key] rfl (RdS.blk b7 rfl) (by intro u hu; rw [List.mem_singleton.1 hu]; rfl) (by unfold maxLen; omega) (by omega) (wn + 1) rfl ((way ++ [key]).map .string) HZS.out ?_
       intro A9 c9 v0_2_7_8 m' k
       clear m
       have m := m'
       clear m'
       have h0_2_7_8 := m.2.1
       refine hK.out _ _ h0_2_7_8 (fun hHeld => ?_)
       clear hK K
       try simp only [pu]
       refine tI 9 14 hHeld ?_
       try simp only [pu]
       refine wpAnyH_done (by kernel_rfl) ?_ _
       go_wp2
       go_meet
       exact ⟨A9, c9, rfl, Lib.hid ⟨MineS.rd m, MineS.inB m, hHeld⟩⟩
      ·go_simp
       refine gen_KA (fun V => Keeps (fun _ => False) v0 V ∧ Blk V v0.heap.size 9 [.string key]) ⟨(Keeps.refl _ _).alloc _, Blk.new _ _ _⟩ ?_
       rintro v0_7 ⟨k, b7⟩
       have hne := Nat.ne_of_lt (m.own_lt rfl)
       have m' := m.keep k
       clear m
       have m := m'
       clear m'
       have h0_7 := hHeld.trans k (fun _ _ h => h)
       clear k
       refine hK.out _ _ h0_7 (fun hHeld => ?_)
       clear hK K
       try simp only [pu]
       refine rH 2 (some 48) fun K hK => ?_
       skip
       refine step_append_mine rfl (.tmp 46) (.tmp 47) 29 rfl 9 (.string .empty) 1 16 Tryz.underlying29 (by kernel_rfl) rfl (by decide) rfl m Wa wn wc0 (way.map .string) rfl (HR5.out.stay hHeld) H1C.out (by unfold maxLen; omega) (by omega) wn (by omega) (way.map .string) (by simp) ?_
       intro A8 c8 v0_7_2 m' k
       clear m
       have m := m'
       clear m'
       have hne2 : v0.heap.size ≠ w5.drew.heap.size := fun e => hne e.symm
       replace b7 := k.blk b7 (fun e => by injection e with e; exact hne2 e.symm)
       have h0_7_2 := m.2.1
       clear k
       refine hK.out _ _ h0_7_2 (fun hHeld => ?_)
       clear hK K
       try simp only [pu]
       refine rH 8 (some 54) fun K hK => ?_
       skip
       refine step_append_mine rfl (.tmp 48) (.tmp 53) 29 rfl 9 (.string .empty) 1 16 Tryz.underlying29 (by kernel_rfl) rfl (by decide) rfl m (some ⟨v0.heap.size, 0, none⟩) 1 1 [.string key] rfl (RdS.blk b7 rfl) (by intro u hu; rw [List.mem_singleton.1 hu]; rfl) (by unfold maxLen; omega) (by omega) (wn + 1) rfl ((way ++ [key]).map .string) HZS.out ?_
       intro A9 c9 v0_7_2_8 m' k
       clear m
       have m := m'
       clear m'
       have h0_7_2_8 := m.2.1
       refine hK.out _ _ h0_7_2_8 (fun hHeld => ?_)
       clear hK K
       try simp only [pu]
       refine tI 9 14 hHeld ?_
       try simp only [pu]
       refine wpAnyH_done (by kernel_rfl) ?_ _
       go_wp2
       go_meet
       exact ⟨A9, c9, rfl, Lib.hid ⟨MineS.rd m, MineS.inB m, hHeld⟩⟩
     ·go_simp
      refine gen_KA (fun V => Keeps (fun _ => False) w5.drew V ∧ Blk V w5.drew.heap.size 9 [.string key]) ⟨(Keeps.refl _ _).alloc _, Blk.new _ _ _⟩ ?_
      rintro v7 ⟨k, b7⟩
      have h7 := hHeld.trans k (fun _ _ h => h)
      clear k
      refine hK.out _ _ h7 (fun hHeld => ?_)
      clear hK K
      try simp only [pu]
      refine rH 0 (some 46) fun K hK => ?_
      go_simp
      refine gen_KA (fun V => Keeps (fun _ => False) v7 V ∧ MineS 1 w5 V 9 (some ⟨v7.heap.size, 0, none⟩) 0 0 []) ⟨(Keeps.refl _ _).alloc _, MineS.none0 _ _ _ _ hHeld⟩ ?_
      rintro v7_0 ⟨k, m⟩
      have lo46 := hHeld.size
      have hne := Nat.ne_of_lt b7.lt
      replace b7 := k.blk b7 (fun h => h)
      have h7_0 := hHeld.trans k (fun _ _ h => h)
      clear k
      refine hK.out _ _ h7_0 (fun hHeld => ?_)
      clear hK K
      try simp only [pu]
      refine rH 2 (some 48) fun K hK => ?_
      skip
      refine step_append_mine rfl (.tmp 46) (.tmp 47) 29 rfl 9 (.string .empty) 1 16 Tryz.underlying29 (by kernel_rfl) rfl (by decide) rfl m Wa wn wc0 (way.map .string) rfl (HR5.out.stay hHeld) H1C.out (by unfold maxLen; omega) (by omega) wn (by omega) (way.map .string) (by simp) ?_
      intro A8 c8 v7_0_2 m' k
      clear m
      have m := m'
      clear m'
      have hne2 : w5.drew.heap.size ≠ v7.heap.size := hne
      replace b7 := k.blk b7 (fun e => by injection e with e; exact hne2 e.symm)
      have h7_0_2 := m.2.1
      clear k
      refine hK.out _ _ h7_0_2 (fun hHeld => ?_)
      clear hK K
      try simp only [pu]
      refine rH 8 (some 54) fun K hK => ?_
      skip
      refine step_append_mine rfl (.tmp 48) (.tmp 53) 29 rfl 9 (.string .empty) 1 16 Tryz.underlying29 (by kernel_rfl) rfl (by decide) rfl m (some ⟨w5.drew.heap.size, 0, none⟩) 1 1 [.string key] rfl (RdS.blk b7 rfl) (by intro u hu; rw [List.mem_singleton.1 hu]; rfl) (by unfold maxLen; omega) (by omega) (wn + 1) rfl ((way ++ [key]).map .string) HZS.out ?_
      intro A9 c9 v7_0_2_8 m' k
      clear m
      have m := m'
      clear m'
      have h7_0_2_8 := m.2.1
      refine hK.out _ _ h7_0_2_8 (fun hHeld => ?_)
      clear hK K
      try simp only [pu]
      refine tI 9 14 hHeld ?_
      try simp only [pu]
      refine wpAnyH_done (by kernel_rfl) ?_ _
      go_wp2
      go_meet
      exact ⟨A9, c9, rfl, Lib.hid ⟨MineS.rd m, MineS.inB m, hHeld⟩⟩
    case rest =>
     obtain ⟨A9, c9, rfl, H9⟩ := hcut
     obtain ⟨w6, hw6⟩ : ∃ w6, w6 = wc := ⟨_, rfl⟩
     subst hw6
     have hzb := Blk.new w6 31 [.int .i64 0, .bool false, .int .u64 0, .string .empty, .slice none 0 0, .slice none 0 0]
     have f0 := hzb.frozen 0
     have f1 := hzb.frozen 1
     have f2 := hzb.frozen 2
     have f3 := hzb.frozen 3
     have f4 := hzb.frozen 4
     have f5 := hzb.frozen 5
     clear hzb
     go_upto_region 11 with fail
     obtain ⟨pz, hpz⟩ : ∃ pz, pz = w6.heap.size := ⟨_, rfl⟩
     have HB7 : Hid (Keeps (fun _ => False) w6 (w6.alloc (.cells #[.int .i64 1, .bool false, .int .u64 0, .string .empty, .slice none 0 0, .slice none 0 0] 31)) ∧ Blk (w6.alloc (.cells #[.int .i64 1, .bool false, .int .u64 0, .string .empty, .slice none 0 0, .slice none 0 0] 31)) pz 31 [.int .i64 1, .bool false, .int .u64 0, .string .empty, .slice none 0 0, .slice none 0 0]) := Lib.hid (by rw [hpz]; exact ⟨(Keeps.refl _ _).alloc _, Blk.new _ _ _⟩)
     rw [← hpz]
     refine gen_codeF (fun W => Keeps (fun _ => False) w6 W ∧ Blk W pz 31 [.int .i64 1, .bool false, .int .u64 0, .string .empty, .slice none 0 0, .slice none 0 0]) HB7.out ?_
     rintro w7 ⟨k7, b7⟩
     have HPZ := Lib.hid hpz
     have HK57 : Hid (Keeps (fun _ => False) w5 w7) := Lib.hid (H9.out.2.2.trans k7 fun _ _ h => h)
     have HB77 := Lib.hid b7
     have H97 : Hid (Rd w7 A9 (wn + 1) ((way ++ [key]).map .string)) := Lib.hid (H9.out.1.keep k7 fun _ _ _ h => h)
     have HX7 : Hid (ORAt D w7 X ou ∧ ORAt D w7 Y oy) := Lib.hid ⟨HT5.out.2.1.stay HK57.out, HT5.out.2.2.stay HK57.out⟩
     have HP8 : Hid (Blk w7 p8 31 X ∧ Blk w7 p9 31 Y) := Lib.hid ⟨HK57.out.blk HT5.out.1.b8 (fun h => h), HK57.out.blk HT5.out.1.b9 (fun h => h)⟩
     have HXL : Hid (X.length = 6 ∧ Y.length = 6) := Lib.hid ⟨HX7.out.1.len, HX7.out.2.len⟩
     have HSX := Lib.hid (infoV HXL.out.1)
     have HSY := Lib.hid (infoV HXL.out.2)
     have HKW7 : Hid (Keeps (fun _ => False) w w7) := Lib.hid (HKW5.out.trans HK57.out fun _ _ h => h)
     have HK17 : Hid (Keeps (fun _ => False) wr w7) := Lib.hid (HW5.out.trans HK57.out fun _ _ h => h)
     obtain ⟨so, hso⟩ : ∃ so, so = osort oy := ⟨_, rfl⟩
     have y0 : w7.cell? ⟨p9, 0, none⟩ = some (.int .i64 so) := by
      obtain ⟨u1, u2, u3, A', na, c', B', nb, d', hv'⟩ := HX7.out.2.six
      rw [HP8.out.2.cell 0, hv', hso]; rfl
     have HSO := Lib.hid hso
     have HSN : Hid (∀ oo, F key = .inr oo → (keyed (goodF F) (cs.take (i + 1)) = keyed (goodF F) (cs.take i) ++ (oo.map fun z => (key, z)).toList) ∧ ∀ k ∈ cs.take (i + 1), ∃ oo, F k = .inr oo) := Lib.hid fun oo hoo => by
      have hg : goodF F key = oo := by unfold goodF; rw [hoo]; cases oo <;> rfl
      refine ⟨by rw [keyed_snoc HKY.out.1, hg], fun k hk => ?_⟩
      rw [List.take_add_one, HKY.out.1] at hk
      rcases List.mem_append.1 hk with h | h
      ·exact HPF.out k h
      ·simp at h
       exact ⟨oo, by rw [h]; exact hoo⟩
     have HINL : Hid (∀ bb, F key = .inl bb → r = .inl bb) := Lib.hid fun bb hbb => by
      have hun : unionK ((mem2 o).1 ++ ko) = cs := unionK_eq H4.out.2.2.2.1 H4.out.2.2.2.2.1
      rw [HR.out, over_obj, hun, ← HFF.out, overAll_inl HPF.out HKY.out.1 hbb]
     have HBO : Hid (Blk w7 b3 31 [.int .i64 0, .bool false, .int .u64 0, .string .empty, .slice none 0 0, .slice none 0 0] ∧ w.heap.size ≤ b3 ∧ b3 < w5.heap.size) := Lib.hid (by
      have h1 := HK1.out.1.blk H1.out.2.2.2.1 (fun h => h)
      have h2 := HT5.out.1.keep.blk h1 (fun h => h)
      refine ⟨HK57.out.blk h2 (fun h => h), ?_, h2.lt⟩
      have := H1.out.2.2.2.2.2.2
      omega)
     clear k7 b7 hpz HB7 f0 f1 f2 f3 f4 f5 hso
     go_upto_if 58 with fail
     go_cut [59] (fun t wx => ∃ (Z : List Value) (z : JV), Hid (F key = .inr (some z) ∧ Blk wx pz 31 Z ∧ RAt (fun q => D q ∨ w5.heap.size ≤ q) wx Z z ∧ Keeps (fun q => q = pz) w7 wx))
     case first =>
      cases hoy : oy with
      | none =>
       have hs0 : so = 0 := by rw [HSO.out, hoy]; rfl
       have hne : (so != 0) = false := by rw [hs0]; rfl
       have HFK : Hid (F key = .inr (some .null)) := Lib.hid (by rw [HFF.out]; exact overF_none (by rw [← HOY.out]; exact hoy))
       clear hs0 hoy
       go_wp2
       go_meet
       exact ⟨_, .null, Lib.hid ⟨HFK.out, HB77.out, RAt.leaf .null rfl rfl, Keeps.refl _ _⟩⟩
      | some y =>
       have hyl : y ∈ lo := atK_mem (by rw [← HOY.out]; exact hoy)
       have hs0 : so ≠ 0 := by
        rw [HSO.out, hoy]
        show y.sort ≠ 0
        cases y <;> simp [JV.sort]
       have hsy : so = y.sort := by rw [HSO.out, hoy]; rfl
       have hne : (so != 0) = true := by simpa using hs0
       have hay : atK ko lo key = some y := by rw [← HOY.out]; exact hoy
       have HSM : Hid (Calls Tryz.prog 39 #[.agg X.toArray, .agg Y.toArray] w7 (OSamePost w7 ou oy)) := Lib.hid (rsame18_any w7 X Y ou oy HX7.out.1 HX7.out.2 (fun j hj => HH.out.small j (atK_mem (by rw [← HOU.out]; exact hj))))
       have hdp : y.deep + 1 ≤ (JV.obj ko lo).deep := by
        have h4 := maxN_mem (List.mem_map.2 ⟨y, hyl, rfl⟩ : y.deep ∈ lo.map fun x => x.deep)
        simp only [JV.deep]
        omega
       have hwl : (way ++ [key]).length = wn + 1 := by rw [List.length_append, HH.out.len]; rfl
       have hroom : wn + 1 + y.deep ≤ 65536 := by have := HH.out.room; omega
       have HLN := Lib.hid hwl
       by_cases hsame : ou = some y
       ·have HNX := Lib.hid (HSN.out none (by rw [HFF.out]; exact overF_same hay (by rw [← HOU.out]; exact hsame)))
        have HSM1 : Hid (Calls Tryz.prog 39 #[.agg X.toArray, .agg Y.toArray] w7 fun e w' => e = .returned (.bool true) ∧ Keeps (fun _ => False) w7 w') := Lib.hid (by
         refine HSM.out.mono ?_
         rintro e w' ⟨bb, he, hbb, hk⟩
         exact ⟨by rw [he, hbb.2 (hsame.trans hoy.symm)], hk⟩)
        clear hyl hs0 hsy hay hdp hwl hroom hsame hoy HSM
        go_wp2_with (first
         | ((with_reducible show wpList _ _ _ (⟨some 59, _, _, _, _, _⟩ :: _) _ _); refine wpList_load_whole rfl 31 _ rfl _ rfl HP8.out.1 Tryz.underlying31 rfl HSX.out ?_)
         | ((with_reducible show wpList _ _ _ (⟨some 60, _, _, _, _, _⟩ :: _) _ _); refine wpList_load_whole rfl 31 _ rfl _ rfl HP8.out.2 Tryz.underlying31 rfl HSY.out ?_)
         | (go_at_call 39; refine HSM1.out.mono ?_; rintro e w8 ⟨rfl, hk8⟩; have HK8 := Lib.hid hk8; clear hk8))
        go_roundg (n - (i + 1))
        case measure => rw [HGK.out]; omega
        case rel => exact ⟨i + 1, B1, d1, A1, c1, css, by omega, by go_num, rfl, Lib.hid (by rw [HNX.out.1]; simp only [Option.map_none, Option.toList_none, List.append_nil]; exact (HO.out.stay HK17.out).stay HK8.out), Lib.hid HNX.out.2⟩
       ·have HSM0 : Hid (Calls Tryz.prog 39 #[.agg X.toArray, .agg Y.toArray] w7 fun e w' => e = .returned (.bool false) ∧ Keeps (fun _ => False) w7 w') := Lib.hid (by
         refine HSM.out.mono ?_
         rintro e w' ⟨bb, he, hbb, hk⟩
         exact ⟨by rw [he, Bool.eq_false_iff.2 fun h => hsame ((hbb.1 h).trans hoy)], hk⟩)
        have hsame2 : ¬ atK (mem2 o).1 (mem2 o).2 key = some y := by rw [← HOU.out]; exact hsame
        by_cases hy1 : y.sort = 1
        ·have he1 : (so == 1) = true := by rw [hsy, hy1]; rfl
         have HFB := Lib.hid (HINL.out _ (by rw [HFF.out]; exact overF_null hay hsame2 hy1))
         clear hyl hs0 hsy hay hdp hwl hroom hsame hoy HSM hsame2 hy1
         go_wp2_with (first
          | ((with_reducible show wpList _ _ _ (⟨some 59, _, _, _, _, _⟩ :: _) _ _); refine wpList_load_whole rfl 31 _ rfl _ rfl HP8.out.1 Tryz.underlying31 rfl HSX.out ?_)
          | ((with_reducible show wpList _ _ _ (⟨some 60, _, _, _, _, _⟩ :: _) _ _); refine wpList_load_whole rfl 31 _ rfl _ rfl HP8.out.2 Tryz.underlying31 rfl HSY.out ?_)
          | (go_at_call 39; refine HSM0.out.mono ?_; rintro e w8 ⟨rfl, hk8⟩; have HK8 := Lib.hid hk8; have y0 := cell_keep hk8 y0; have hbp := hk8.blk HBO.out.1 (fun h => h); have HBP := Lib.hid hbp; have g0 := hbp.cell 0; have g1 := hbp.cell 1; have g2 := hbp.cell 2; have g3 := hbp.cell 3; have g4 := hbp.cell 4; have g5 := hbp.cell 5; have f0 := hbp.frozen 0; have f1 := hbp.frozen 1; have f2 := hbp.frozen 2; have f3 := hbp.frozen 3; have f4 := hbp.frozen 4; have f5 := hbp.frozen 5; clear hk8 hbp))
         refine bodyPost_ret (results_blk_tt rfl _ _ rfl (six_blk HBP.out _ _ _ _ _ _) Tryz.underlying31 rfl (by kernel_rfl)) rfl ⟨?_, ?_⟩
         ·exact (HKW7.out.trans HK8.out (fun _ _ h => h)).trans (six_keeps _ b3 _ _ _ _ _ _) (fun i hi e => by have := HBO.out.2.1; omega)
         ·rw [HFB.out]
          exact ⟨A9, wn + 1, c9, rfl, HLN.out, (H97.out.keep HK8.out fun _ _ _ h => h).keep (six_keeps _ b3 _ _ _ _ _ _) (H9.out.2.1.out fun q hq e => by have := HBO.out.2.2; omega), H9.out.2.1.mono fun q hq => Nat.le_trans HKW5.out.size hq⟩
        ·have he1 : (so == 1) = false := by rw [hsy]; simpa using hy1
         have hFo := overF_deep (way := way) hay hsame2 hy1
         rw [← HOU.out, ← HFF.out] at hFo
         have HOV : Hid (∀ W, Keeps (fun _ => False) w7 W → Calls Tryz.prog 22 #[.agg X.toArray, .agg Y.toArray, .slice A9 (wn + 1) c9] W (ROverPost D W (y.over ou (way ++ [key])))) := Lib.hid fun W hW =>
          HIH.out y hyl ou (fun x hx => atK_mem (by rw [← HOU.out]; exact hx)) D W Y X A9 (wn + 1) c9 (way ++ [key]) (by have h2 := HX7.out.2; rw [hoy] at h2; exact RAt.stay h2 hW) (HX7.out.1.stay hW) (H97.out.keep hW fun _ _ _ h => h) hwl hroom
         cases hov : y.over ou (way ++ [key]) with
         | inl bb =>
          rw [hov] at hFo
          have HFB := Lib.hid (HINL.out _ hFo)
          have HOV1 : Hid (∀ W, Keeps (fun _ => False) w7 W → Calls Tryz.prog 22 #[.agg X.toArray, .agg Y.toArray, .slice A9 (wn + 1) c9] W fun e w' => ∃ A n c, e = .returned (.tuple #[.agg #[.int .i64 0, .bool false, .int .u64 0, .string .empty, .slice none 0 0, .slice none 0 0], .slice A n c, .bool false]) ∧ Hid (bb.length = n ∧ Rd w' A n (bb.map .string) ∧ InB (fun q => w7.heap.size ≤ q) A n ∧ Keeps (fun _ => False) w7 w')) := Lib.hid fun W hW => by
           refine (HOV.out W hW).mono ?_
           rintro e w' ⟨hk, he⟩
           rw [hov] at he
           obtain ⟨A, n, c, he, h1, h2, h3⟩ := he
           exact ⟨A, n, c, he, Lib.hid ⟨h1, h2, h3.mono fun q hq => Nat.le_trans hW.size hq, hW.trans hk fun _ _ h => h⟩⟩
          clear hyl hs0 hsy hay hdp hwl hroom hsame hoy HSM hsame2 hy1 hFo hov HOV
          go_wp2_with (first
           | ((with_reducible show wpList _ _ _ (⟨some 59, _, _, _, _, _⟩ :: _) _ _); refine wpList_load_whole rfl 31 _ rfl _ rfl HP8.out.1 Tryz.underlying31 rfl HSX.out ?_)
           | ((with_reducible show wpList _ _ _ (⟨some 60, _, _, _, _, _⟩ :: _) _ _); refine wpList_load_whole rfl 31 _ rfl _ rfl HP8.out.2 Tryz.underlying31 rfl HSY.out ?_)
           | (go_at_call 39; refine HSM0.out.mono ?_; rintro e w8 ⟨rfl, hk8⟩; have HK8 := Lib.hid hk8; have y0 := cell_keep hk8 y0; clear hk8)
           | ((with_reducible show wpList _ _ _ (⟨some 68, _, _, _, _, _⟩ :: _) _ _); refine wpList_load_whole rfl 31 _ rfl _ rfl (HK8.out.blk HP8.out.1 (fun h => h)) Tryz.underlying31 rfl HSX.out ?_)
           | ((with_reducible show wpList _ _ _ (⟨some 69, _, _, _, _, _⟩ :: _) _ _); refine wpList_load_whole rfl 31 _ rfl _ rfl (HK8.out.blk HP8.out.2 (fun h => h)) Tryz.underlying31 rfl HSY.out ?_)
           | (go_at_call 22; refine (HOV1.out _ HK8.out).mono ?_; rintro e w9 ⟨A10, n10, c10, rfl, H10⟩; have hzb := Blk.new w9 31 [.int .i64 0, .bool false, .int .u64 0, .string .empty, .slice none 0 0, .slice none 0 0]; have hbp := (H10.out.2.2.2.blk HBO.out.1 (fun h => h)).alloc (.cells #[.int .i64 0, .bool false, .int .u64 0, .string .empty, .slice none 0 0, .slice none 0 0] 31); have HBP := Lib.hid hbp; have g0 := hbp.cell 0; have g1 := hbp.cell 1; have g2 := hbp.cell 2; have g3 := hbp.cell 3; have g4 := hbp.cell 4; have g5 := hbp.cell 5; have f0 := hbp.frozen 0; have f1 := hbp.frozen 1; have f2 := hbp.frozen 2; have f3 := hbp.frozen 3; have f4 := hbp.frozen 4; have f5 := hbp.frozen 5; have e0 := hzb.frozen 0; have e1 := hzb.frozen 1; have e2 := hzb.frozen 2; have e3 := hzb.frozen 3; have e4 := hzb.frozen 4; have e5 := hzb.frozen 5; clear hbp hzb))
          refine bodyPost_ret (results_blk_tt rfl _ _ rfl (six_blk HBP.out _ _ _ _ _ _) Tryz.underlying31 rfl (by kernel_rfl)) rfl ⟨?_, ?_⟩
          ·exact (HKW7.out.trans (H10.out.2.2.2.alloc _) (fun _ _ h => h)).trans (six_keeps _ b3 _ _ _ _ _ _) (fun i hi e => by have := HBO.out.2.1; omega)
          ·rw [HFB.out]
           exact ⟨A10, n10, c10, rfl, H10.out.1, (H10.out.2.1.keep ((Keeps.refl (fun _ => False) w9).alloc _) fun _ _ _ h => h).keep (six_keeps _ b3 _ _ _ _ _ _) (H10.out.2.2.1.out fun q hq e => by have := HBO.out.2.2; have := HK57.out.size; omega), H10.out.2.2.1.mono fun q hq => Nat.le_trans HKW7.out.size hq⟩
         | inr z =>
          rw [hov] at hFo
          have HFK := Lib.hid hFo
          have HOV1 : Hid (∀ W, Keeps (fun _ => False) w7 W → Calls Tryz.prog 22 #[.agg X.toArray, .agg Y.toArray, .slice A9 (wn + 1) c9] W fun e w' => ∃ v, e = .returned (.tuple #[.agg v.toArray, .slice none 0 0, .bool true]) ∧ Hid (RAt (fun q => D q ∨ w7.heap.size ≤ q) w' v z ∧ Keeps (fun _ => False) w7 w')) := Lib.hid fun W hW => by
           refine (HOV.out W hW).mono ?_
           rintro e w' ⟨hk, he⟩
           rw [hov] at he
           obtain ⟨v, he, h1⟩ := he
           exact ⟨v, he, Lib.hid ⟨h1.mono fun q hq _ => hq.imp id fun h => Nat.le_trans hW.size h, hW.trans hk fun _ _ h => h⟩⟩
          clear hyl hs0 hsy hay hdp hwl hroom hsame hoy HSM hsame2 hy1 hFo hov HOV
          go_wp2_with (first
           | ((with_reducible show wpList _ _ _ (⟨some 59, _, _, _, _, _⟩ :: _) _ _); refine wpList_load_whole rfl 31 _ rfl _ rfl HP8.out.1 Tryz.underlying31 rfl HSX.out ?_)
           | ((with_reducible show wpList _ _ _ (⟨some 60, _, _, _, _, _⟩ :: _) _ _); refine wpList_load_whole rfl 31 _ rfl _ rfl HP8.out.2 Tryz.underlying31 rfl HSY.out ?_)
           | (go_at_call 39; refine HSM0.out.mono ?_; rintro e w8 ⟨rfl, hk8⟩; have HK8 := Lib.hid hk8; have y0 := cell_keep hk8 y0; clear hk8)
           | ((with_reducible show wpList _ _ _ (⟨some 68, _, _, _, _, _⟩ :: _) _ _); refine wpList_load_whole rfl 31 _ rfl _ rfl (HK8.out.blk HP8.out.1 (fun h => h)) Tryz.underlying31 rfl HSX.out ?_)
           | ((with_reducible show wpList _ _ _ (⟨some 69, _, _, _, _, _⟩ :: _) _ _); refine wpList_load_whole rfl 31 _ rfl _ rfl (HK8.out.blk HP8.out.2 (fun h => h)) Tryz.underlying31 rfl HSY.out ?_)
           | (go_at_call 22; refine (HOV1.out _ HK8.out).mono ?_; rintro e w9 ⟨v10, rfl, H10⟩; have hrv := H10.out.1.one; have HV10 := Lib.hid (And.intro H10.out.1.len hrv); have HQ : Hid (Blk ((w9.alloc (.cells #[.int .i64 0, .bool false, .int .u64 0, .string .empty, .slice none 0 0, .slice none 0 0] 31)).setRow w9.heap.size v10.toArray) w9.heap.size 31 v10) := Lib.hid ((Blk.new w9 31 [.int .i64 0, .bool false, .int .u64 0, .string .empty, .slice none 0 0, .slice none 0 0]).setRow _); have HQZ : Hid (Blk ((w9.alloc (.cells #[.int .i64 0, .bool false, .int .u64 0, .string .empty, .slice none 0 0, .slice none 0 0] 31)).setRow w9.heap.size v10.toArray) pz 31 [.int .i64 1, .bool false, .int .u64 0, .string .empty, .slice none 0 0, .slice none 0 0]) := Lib.hid ((setRow_keep _ _ _).blk ((H10.out.2.blk HB77.out (fun h => h)).alloc _) (fun e => by have h1 := HB77.out.lt; have h2 := H10.out.2.size; omega)); clear hrv)
           | ((with_reducible show wpList _ _ _ (⟨none, Op.store _ _ _, _, _, _, _⟩ :: _) _ _); refine wpList_store_whole rfl 31 _ _ rfl v10 rfl rfl (Blk.new w9 31 [.int .i64 0, .bool false, .int .u64 0, .string .empty, .slice none 0 0, .slice none 0 0]) (by rw [HV10.out.1]; rfl) (infoV HV10.out.1) HV10.out.2 ?_)
           | ((with_reducible show wpList _ _ _ (⟨some 79, _, _, _, _, _⟩ :: _) _ _); refine wpList_load_whole rfl 31 _ rfl _ rfl HQ.out Tryz.underlying31 rfl (infoV HV10.out.1) ?_)
           | ((with_reducible show wpList _ _ _ (⟨none, Op.store _ _ _, _, _, _, _⟩ :: _) _ _); refine wpList_store_whole rfl 31 _ _ rfl v10 rfl rfl HQZ.out (by rw [HV10.out.1]; rfl) (infoV HV10.out.1) HV10.out.2 ?_))
          go_meet
          have hb1 := (H10.out.2.blk HB77.out (fun h => h)).alloc (.cells #[.int .i64 0, .bool false, .int .u64 0, .string .empty, .slice none 0 0, .slice none 0 0] 31)
          have hp7 := HB77.out.lt
          have hp9 := H10.out.2.size
          have hp5 := HK57.out.size
          have hb2 : Blk ((w9.alloc (.cells #[.int .i64 0, .bool false, .int .u64 0, .string .empty, .slice none 0 0, .slice none 0 0] 31)).setRow w9.heap.size v10.toArray) pz 31 [.int .i64 1, .bool false, .int .u64 0, .string .empty, .slice none 0 0, .slice none 0 0] := (setRow_keep _ _ _).blk hb1 (fun e => by omega)
          refine ⟨v10, z, Lib.hid ⟨HFK.out, hb2.setRow _, ?_, ?_⟩⟩
          ·refine (((((H10.out.1.mono (C := fun i => (D i ∨ w7.heap.size ≤ i) ∧ i < w9.heap.size) fun i h1 h2 => ⟨h1, h2⟩).stay ((Keeps.refl (fun _ => False) w9).alloc _)).keep (setRow_keep _ w9.heap.size _) fun i hi e => by have := hi.2; omega).keep (setRow_keep _ pz _) fun i hi e => ?_).mono fun i hi _ => hi.1.imp id fun h => Nat.le_trans hp5 h)
           rcases hi.1 with h | h
           ·have h1 := HLW.out i h
            have h2 := HPZ.out
            have h3 := H9.out.2.2.size
            have h4 := HW5.out.size
            omega
           ·omega
          ·exact (((H10.out.2.alloc _).trans (setRow_keep _ w9.heap.size _) fun i hi e => by omega).mono (G := fun q => q = pz) fun _ _ h => h.elim).trans (setRow_keep _ pz _) fun i hi e => e
     case rest =>
      obtain ⟨Z, z, HR6⟩ := hcut
      obtain ⟨m, hm⟩ : ∃ m, m = ((keyed (goodF F) (cs.take i)).map (·.1)).length := ⟨_, rfl⟩
      have hmi : m ≤ i := by rw [hm, List.length_map]; exact HLE.out i
      have HM := Lib.hid hm
      have hpz : wr.heap.size ≤ pz := by rw [HPZ.out]; exact Nat.le_trans HW5.out.size H9.out.2.2.size
      have hkc : Keeps (fun _ => False) wr wc := ((HK17.out.mono (G := fun q => q = pz) fun _ _ h => h.elim).trans HR6.out.2.2.2 fun _ _ h => h).mono fun q hq e => by omega
      have hO6 := HO.out.stay hkc
      have HO6 := Lib.hid hO6
      have HT0 : Hid (BoxTwo w1 wc p 31 [.int .i64 6, .bool false, .int .u64 0, .string .empty, .slice A1 m c1, .slice B1 m d1] 9 1 B1 m d1 (((keyed (goodF F) (cs.take i)).map (·.1)).map .string) 31 6 A1 m c1 css.flatten) := Lib.hid (by rw [hm]; exact hO6.rb.two)
      have HNF : Hid (∀ q, ((Value.slice B1 m d1).ownBlock = some q ∨ (Value.slice A1 m c1).ownBlock = some q) → w4.heap.size ≤ q ∧ q < wr.heap.size) := Lib.hid fun q e => by
       rw [hm] at e
       exact e.elim (fun e => ⟨HO.out.ob q e, HO.out.rb.two.two.a.own_lt e⟩) (fun e => ⟨HO.out.oa q e, HO.out.rb.two.two.b.own_lt e⟩)
      have HCE : Hid (∀ V, Keeps (fun q => (Value.slice B1 m d1).ownBlock = some q ∨ (Value.slice A1 m c1).ownBlock = some q) wc V → V.cell? ⟨p, 5, none⟩ = some (.slice B1 m d1) ∧ V.cell? ⟨p, 4, none⟩ = some (.slice A1 m c1) ∧ V.cell? ⟨g, o1 + i, none⟩ = some (.string key) ∧ Blk V pz 31 Z) := Lib.hid fun V hV => by
       have h1 := hV.blk HT0.out.blk (fun e => e.elim HT0.out.na HT0.out.nb)
       have hcw := cell_keep hkc HCK.out
       have hg4 : g < w4.heap.size := (HA4.out (by omega) _ rfl).2
       exact ⟨h1.cell 5, h1.cell 4, (hV.cell (World.block_lt_of_cell? _ _ hcw) (fun e => by have h3 := (HNF.out _ e).1; have h4 : w4.heap.size ≤ g := h3; omega)).trans hcw, hV.blk HR6.out.2.1 (fun e => by have h3 := (HNF.out _ e).2; omega)⟩
      have HZ6 : Hid (Z.length = 6) := Lib.hid HR6.out.2.2.1.len
      have HZ1 : Hid (∀ u ∈ Z, u.oneCell' = true) := Lib.hid HR6.out.2.2.1.one
      have HSZ := Lib.hid (infoV HZ6.out)
      have HRB : Hid (RAt (Rb_ (fun i => D i ∨ w1.heap.size ≤ i) p (.slice B1 m d1) (.slice A1 m c1)) wc Z z) := Lib.hid (HR6.out.2.2.1.mono fun q hq _ => by
       have h1 := HP3.out
       have h2 := HW5.out.size
       have h3 := HO.out.rb.two.blk.lt
       have h4 := HK1.out.1.size
       have h5 := HO.out.keep.size
       rcases hq with h | h
       ·have h6 := HH.out.low q h
        exact ⟨.inl h, fun e => by omega, fun e => by have := (HNF.out q (.inl e)).1; omega, fun e => by have := (HNF.out q (.inr e)).1; omega⟩
       ·exact ⟨.inr (by omega), fun e => by omega, fun e => by have := (HNF.out q (.inl e)).2; omega, fun e => by have := (HNF.out q (.inr e)).2; omega⟩)
      clear hm hkc hpz hO6
      go_upto_region 19 with fail
      refine wp_region_tail (S := (fun V => Keeps (fun q => (Value.slice B1 m d1).ownBlock = some q ∨ (Value.slice A1 m c1).ownBlock = some q) wc V)) 14 (by kernel_rfl) (Keeps.refl _ _).drew (fun hHeld => ?_)
      refine tJ 0 80 ?_
      try simp only [pu]
      refine tT [1] (i := 1) (oi := ⟨some 81, _, _, _, _, _⟩) (v := ?_) rfl (Or.inl ⟨by rfl, ?_⟩) hHeld ?_
      rotate_left
      ·intro w' hSw
       have cv := (HCE.out _ hSw).1
       go_simp
       first | done | rfl
      try simp only [pu]
      refine tJ 2 82 ?_
      try simp only [pu]
      refine tJ 3 83 ?_
      try simp only [pu]
      refine tJ 4 84 ?_
      try simp only [pu]
      refine tT [5] (i := 5) (oi := ⟨some 85, _, _, _, _, _⟩) (v := ?_) rfl (Or.inl ⟨by rfl, ?_⟩) hHeld ?_
      rotate_left
      ·intro w' hSw
       have cv := (HCE.out _ hSw).2.2.1
       go_simp
       first | done | rfl
      try simp only [pu]
      refine tJ 8 88 ?_
      try simp only [pu]
      refine tT [9] (i := 9) (oi := ⟨some 89, _, _, _, _, _⟩) (v := ?_) rfl (Or.inl ⟨by rfl, ?_⟩) hHeld ?_
      rotate_left
      ·intro w' hSw
       have cv := (HCE.out _ hSw).2.1
       go_simp
       first | done | rfl
      try simp only [pu]
      refine tT [10, 11, 12] (i := 10) (oi := ⟨some 90, _, _, _, _, _⟩) (v := _) rfl (yieldsIf_load_mid (by rfl) _ _ rfl _ _ rfl Z _ (fun w' h => blk_rngL (HCE.out _ h).2.2.2) Tryz.underlying31 rfl HSZ.out) hHeld ?_
      try simp only [pu]
      refine wpAnyT_two (i := 6) (j := 11) (oi := ⟨some 86, _, _, _, _, _⟩) (oj := ⟨some 91, _, _, _, _, _⟩) (by kernel_rfl) rfl rfl (fun K hK => ?_) (fun K hK => ?_)
      ·go_simp
       refine gen_KA (fun V => Keeps (fun _ => False) wc.drew V ∧ Blk V wc.drew.heap.size 9 [.string key]) ⟨(Keeps.refl _ _).alloc _, Blk.new _ _ _⟩ ?_
       rintro v6 ⟨k6, b6⟩
       have h6 := hHeld.trans k6 (fun _ _ h => h.elim)
       refine hK.out _ _ h6 (fun hHeld => ?_)
       clear hK K
       try simp only [pu]
       refine wpAnyT_two (i := 7) (j := 11) (oi := ⟨some 87, _, _, _, _, _⟩) (oj := ⟨some 91, _, _, _, _, _⟩) (by kernel_rfl) rfl rfl (fun K hK => ?_) (fun K hK => ?_)
       ·refine step_append_own rfl (.tmp 81) (.tmp 86) 29 rfl 9 (.string .empty) 1 16 Tryz.underlying29 (by kernel_rfl) rfl (by decide) B1 m d1 _ rfl (HT0.out.keep (((Keeps.refl (fun _ => False) wc).drew).trans k6 (fun _ _ h => h))).two.a.1 ⟨wc.drew.heap.size, 0, none⟩ 1 1 [.string key] rfl rfl (fun j u hu => by rw [add_at, Nat.zero_add, b6.cell]; exact hu) (by intro u hu; rw [List.mem_singleton.1 hu]; rfl) (by simp only [maxLen]; omega) (by omega) ?_
        intro B7 d7 v6_7 ho7 hg7 hb7
        have HT7 := Lib.hid ((HT0.out.keep (((Keeps.refl (fun _ => False) wc).drew).trans k6 (fun _ _ h => h))).app ho7 hg7 hb7)
        have hB7 : ∀ g, (Value.slice B7 (m + 1) d7).ownBlock = some g → (Value.slice B1 m d1).ownBlock = some g ∨ wc.heap.size ≤ g := fun g e => hb7.elim (fun h1 => .inl (h1 ▸ e)) (fun h1 => .inr (by rw [h1] at e; injection e with e; rw [← e]; exact hHeld.size))
        have hS7 := hHeld.grown hg7 (fun g e => .inl (.inl e))
        refine hK.out _ _ hS7 (fun hHeld => ?_)
        clear hK K
        try simp only [pu]
        refine tJ 13 93 ?_
        try simp only [pu]
        refine wpAnyT_step (i := 11) (o := ⟨some 91, _, _, _, _, _⟩) (by kernel_rfl) rfl (fun K hK => ?_)
        refine step_box_S rfl 28 31 (.tmp 90) rfl (.agg #[.int .i64 0, .bool false, .int .u64 0, .string .empty, .slice none 0 0, .slice none 0 0]) 6 Tryz.underlying28 (by kernel_rfl) (by decide) (by decide) Z HZ6.out rfl ?_
        refine gen_KA (fun V => Keeps (fun _ => False) v6_7 V ∧ Blk V v6_7.heap.size 31 Z) ⟨(Keeps.refl _ _).alloc _, Blk.new _ _ _⟩ ?_
        rintro v6_7_11 ⟨k6_7_11, b11⟩
        have h6_7_11 := hHeld.trans k6_7_11 (fun _ _ h => h.elim)
        refine hK.out _ _ h6_7_11 (fun hHeld => ?_)
        clear hK K
        try simp only [pu]
        refine wpAnyT_step (i := 12) (o := ⟨some 92, _, _, _, _, _⟩) (by kernel_rfl) rfl (fun K hK => ?_)
        refine step_append_own rfl (.tmp 89) (.tmp 91) 28 rfl 31 (.agg #[.int .i64 0, .bool false, .int .u64 0, .string .empty, .slice none 0 0, .slice none 0 0]) 6 88 Tryz.underlying28 (by kernel_rfl) rfl (by decide) A1 m c1 _ rfl (HT7.out.swap.keep ((Keeps.refl (fun _ => False) _).trans k6_7_11 (fun _ _ h => h))).two.a.1 ⟨v6_7.heap.size, 0, none⟩ 1 1 Z rfl (by rw [HZ6.out]) (fun j u hu => by rw [add_at, Nat.zero_add, b11.cell]; exact hu) HZ1.out (by simp only [maxLen]; omega) (by omega) ?_
        intro A12 c12 v12 ho12 hg12 hb12
        have HT12 := Lib.hid (((HT7.out.swap.keep ((Keeps.refl (fun _ => False) _).trans k6_7_11 (fun _ _ h => h))).app ho12 hg12 hb12).swap)
        have hA12 : ∀ g, (Value.slice A12 (m + 1) c12).ownBlock = some g → (Value.slice A1 m c1).ownBlock = some g ∨ wc.heap.size ≤ g := fun g e => hb12.elim (fun h1 => .inl (h1 ▸ e)) (fun h1 => .inr (by rw [h1] at e; injection e with e; rw [← e]; exact hHeld.size))
        have hS12 := hHeld.grown hg12 (fun g e => .inl (.inr e))
        refine hK.out _ _ hS12 (fun hHeld => ?_)
        clear hK K
        try simp only [pu]
        refine wpAnyT_tail (i := 14) (o := ⟨none, _, _, _, _, _⟩) (by kernel_rfl) (by kernel_rfl) rfl (fun K hK => ?_)
        have cv1 := HT12.out.blk.cell 5
        have fz1 := HT12.out.blk.frozen 5
        go_simp
        have HT14 := Lib.hid (HT12.out.set 5 (.slice B7 (m + 1) d7))
        refine hK.out _ _ ?_
        clear hK K
        try simp only [pu]
        refine wpAnyT_tail (i := 15) (o := ⟨some 94, _, _, _, _, _⟩) (by kernel_rfl) (by kernel_rfl) rfl (fun K hK => ?_)
        go_simp
        refine hK.out _ _ ?_
        clear hK K
        try simp only [pu]
        refine wpAnyT_tail (i := 16) (o := ⟨none, _, _, _, _, _⟩) (by kernel_rfl) (by kernel_rfl) rfl (fun K hK => ?_)
        have cv2 := HT14.out.blk.cell 4
        have fz2 := HT14.out.blk.frozen 4
        go_simp
        refine hK.out _ _ ?_
        clear hK K
        try simp only [pu]
        refine wpAnyT_done (by kernel_rfl) ?_
        have HEND := Lib.hid (rl_more HO6.out HM.out HRB.out hS12 HT12.out hB7 hA12)
        obtain ⟨w22, hw22⟩ : ∃ w22, w22 = (v12.setCell ⟨p, 5, none⟩ (.slice B7 (m + 1) d7)).setCell ⟨p, 4, none⟩ (.slice A12 (m + 1) c12) := ⟨_, rfl⟩
        rw [← hw22] at HEND ⊢
        clear hw22 cv1 fz1 cv2 fz2 hS12 hB7 hA12
        go_wp2
        go_roundg (n - (i + 1))
        case measure => rw [HGK.out]; omega
        case rel => exact ⟨i + 1, B7, d7, A12, c12, _, by omega, by go_num, rfl, Lib.hid (by rw [(HSN.out _ HR6.out.1).1]; exact HEND.out), Lib.hid (HSN.out _ HR6.out.1).2⟩
       ·refine step_box_S rfl 28 31 (.tmp 90) rfl (.agg #[.int .i64 0, .bool false, .int .u64 0, .string .empty, .slice none 0 0, .slice none 0 0]) 6 Tryz.underlying28 (by kernel_rfl) (by decide) (by decide) Z HZ6.out rfl ?_
        refine gen_KA (fun V => Keeps (fun _ => False) v6 V ∧ Blk V v6.heap.size 31 Z) ⟨(Keeps.refl _ _).alloc _, Blk.new _ _ _⟩ ?_
        rintro v6_11 ⟨k6_11, b11⟩
        replace b6 := k6_11.blk b6 (fun h => h)
        have h6_11 := hHeld.trans k6_11 (fun _ _ h => h.elim)
        refine hK.out _ _ h6_11 (fun hHeld => ?_)
        clear hK K
        try simp only [pu]
        refine wpAnyT_step (i := 7) (o := ⟨some 87, _, _, _, _, _⟩) (by kernel_rfl) rfl (fun K hK => ?_)
        refine step_append_own rfl (.tmp 81) (.tmp 86) 29 rfl 9 (.string .empty) 1 16 Tryz.underlying29 (by kernel_rfl) rfl (by decide) B1 m d1 _ rfl (HT0.out.keep ((((Keeps.refl (fun _ => False) wc).drew).trans k6 (fun _ _ h => h)).trans k6_11 (fun _ _ h => h))).two.a.1 ⟨wc.drew.heap.size, 0, none⟩ 1 1 [.string key] rfl rfl (fun j u hu => by rw [add_at, Nat.zero_add, b6.cell]; exact hu) (by intro u hu; rw [List.mem_singleton.1 hu]; rfl) (by simp only [maxLen]; omega) (by omega) ?_
        intro B7 d7 v6_11_7 ho7 hg7 hb7
        have HT7 := Lib.hid ((HT0.out.keep ((((Keeps.refl (fun _ => False) wc).drew).trans k6 (fun _ _ h => h)).trans k6_11 (fun _ _ h => h))).app ho7 hg7 hb7)
        have hB7 : ∀ g, (Value.slice B7 (m + 1) d7).ownBlock = some g → (Value.slice B1 m d1).ownBlock = some g ∨ wc.heap.size ≤ g := fun g e => hb7.elim (fun h1 => .inl (h1 ▸ e)) (fun h1 => .inr (by rw [h1] at e; injection e with e; rw [← e]; exact hHeld.size))
        replace b11 := (Keeps.of_grown hg7).blk b11 (fun e => by have h1 := HT0.out.two.a.own_lt e; have h2 := (((Keeps.refl (fun _ => False) wc).drew).trans k6 (fun _ _ h => h)).size; omega)
        have hS7 := hHeld.grown hg7 (fun g e => .inl (.inl e))
        refine hK.out _ _ hS7 (fun hHeld => ?_)
        clear hK K
        try simp only [pu]
        refine tJ 13 93 ?_
        try simp only [pu]
        refine wpAnyT_step (i := 12) (o := ⟨some 92, _, _, _, _, _⟩) (by kernel_rfl) rfl (fun K hK => ?_)
        refine step_append_own rfl (.tmp 89) (.tmp 91) 28 rfl 31 (.agg #[.int .i64 0, .bool false, .int .u64 0, .string .empty, .slice none 0 0, .slice none 0 0]) 6 88 Tryz.underlying28 (by kernel_rfl) rfl (by decide) A1 m c1 _ rfl (HT7.out.swap.keep (Keeps.refl (fun _ => False) _)).two.a.1 ⟨v6.heap.size, 0, none⟩ 1 1 Z rfl (by rw [HZ6.out]) (fun j u hu => by rw [add_at, Nat.zero_add, b11.cell]; exact hu) HZ1.out (by simp only [maxLen]; omega) (by omega) ?_
        intro A12 c12 v12 ho12 hg12 hb12
        have HT12 := Lib.hid (((HT7.out.swap.keep (Keeps.refl (fun _ => False) _)).app ho12 hg12 hb12).swap)
        have hA12 : ∀ g, (Value.slice A12 (m + 1) c12).ownBlock = some g → (Value.slice A1 m c1).ownBlock = some g ∨ wc.heap.size ≤ g := fun g e => hb12.elim (fun h1 => .inl (h1 ▸ e)) (fun h1 => .inr (by rw [h1] at e; injection e with e; rw [← e]; exact hHeld.size))
        have hS12 := hHeld.grown hg12 (fun g e => .inl (.inr e))
        refine hK.out _ _ hS12 (fun hHeld => ?_)
        clear hK K
        try simp only [pu]
        refine wpAnyT_tail (i := 14) (o := ⟨none, _, _, _, _, _⟩) (by kernel_rfl) (by kernel_rfl) rfl (fun K hK => ?_)
        have cv1 := HT12.out.blk.cell 5
        have fz1 := HT12.out.blk.frozen 5
        go_simp
        have HT14 := Lib.hid (HT12.out.set 5 (.slice B7 (m + 1) d7))
        refine hK.out _ _ ?_
        clear hK K
        try simp only [pu]
        refine wpAnyT_tail (i := 15) (o := ⟨some 94, _, _, _, _, _⟩) (by kernel_rfl) (by kernel_rfl) rfl (fun K hK => ?_)
        go_simp
        refine hK.out _ _ ?_
        clear hK K
        try simp only [pu]
        refine wpAnyT_tail (i := 16) (o := ⟨none, _, _, _, _, _⟩) (by kernel_rfl) (by kernel_rfl) rfl (fun K hK => ?_)
        have cv2 := HT14.out.blk.cell 4
        have fz2 := HT14.out.blk.frozen 4
        go_simp
        refine hK.out _ _ ?_
        clear hK K
        try simp only [pu]
        refine wpAnyT_done (by kernel_rfl) ?_
        have HEND := Lib.hid (rl_more HO6.out HM.out HRB.out hS12 HT12.out hB7 hA12)
        obtain ⟨w22, hw22⟩ : ∃ w22, w22 = (v12.setCell ⟨p, 5, none⟩ (.slice B7 (m + 1) d7)).setCell ⟨p, 4, none⟩ (.slice A12 (m + 1) c12) := ⟨_, rfl⟩
        rw [← hw22] at HEND ⊢
        clear hw22 cv1 fz1 cv2 fz2 hS12 hB7 hA12
        go_wp2
        go_roundg (n - (i + 1))
        case measure => rw [HGK.out]; omega
        case rel => exact ⟨i + 1, B7, d7, A12, c12, _, by omega, by go_num, rfl, Lib.hid (by rw [(HSN.out _ HR6.out.1).1]; exact HEND.out), Lib.hid (HSN.out _ HR6.out.1).2⟩
      ·refine step_box_S rfl 28 31 (.tmp 90) rfl (.agg #[.int .i64 0, .bool false, .int .u64 0, .string .empty, .slice none 0 0, .slice none 0 0]) 6 Tryz.underlying28 (by kernel_rfl) (by decide) (by decide) Z HZ6.out rfl ?_
       refine gen_KA (fun V => Keeps (fun _ => False) wc.drew V ∧ Blk V wc.drew.heap.size 31 Z) ⟨(Keeps.refl _ _).alloc _, Blk.new _ _ _⟩ ?_
       rintro v11 ⟨k11, b11⟩
       have h11 := hHeld.trans k11 (fun _ _ h => h.elim)
       refine hK.out _ _ h11 (fun hHeld => ?_)
       clear hK K
       try simp only [pu]
       refine wpAnyT_step (i := 6) (o := ⟨some 86, _, _, _, _, _⟩) (by kernel_rfl) rfl (fun K hK => ?_)
       go_simp
       refine gen_KA (fun V => Keeps (fun _ => False) v11 V ∧ Blk V v11.heap.size 9 [.string key]) ⟨(Keeps.refl _ _).alloc _, Blk.new _ _ _⟩ ?_
       rintro v11_6 ⟨k11_6, b6⟩
       replace b11 := k11_6.blk b11 (fun h => h)
       have h11_6 := hHeld.trans k11_6 (fun _ _ h => h.elim)
       refine hK.out _ _ h11_6 (fun hHeld => ?_)
       clear hK K
       try simp only [pu]
       refine wpAnyT_step (i := 7) (o := ⟨some 87, _, _, _, _, _⟩) (by kernel_rfl) rfl (fun K hK => ?_)
       refine step_append_own rfl (.tmp 81) (.tmp 86) 29 rfl 9 (.string .empty) 1 16 Tryz.underlying29 (by kernel_rfl) rfl (by decide) B1 m d1 _ rfl (HT0.out.keep ((((Keeps.refl (fun _ => False) wc).drew).trans k11 (fun _ _ h => h)).trans k11_6 (fun _ _ h => h))).two.a.1 ⟨v11.heap.size, 0, none⟩ 1 1 [.string key] rfl rfl (fun j u hu => by rw [add_at, Nat.zero_add, b6.cell]; exact hu) (by intro u hu; rw [List.mem_singleton.1 hu]; rfl) (by simp only [maxLen]; omega) (by omega) ?_
       intro B7 d7 v11_6_7 ho7 hg7 hb7
       have HT7 := Lib.hid ((HT0.out.keep ((((Keeps.refl (fun _ => False) wc).drew).trans k11 (fun _ _ h => h)).trans k11_6 (fun _ _ h => h))).app ho7 hg7 hb7)
       have hB7 : ∀ g, (Value.slice B7 (m + 1) d7).ownBlock = some g → (Value.slice B1 m d1).ownBlock = some g ∨ wc.heap.size ≤ g := fun g e => hb7.elim (fun h1 => .inl (h1 ▸ e)) (fun h1 => .inr (by rw [h1] at e; injection e with e; rw [← e]; exact hHeld.size))
       replace b11 := (Keeps.of_grown hg7).blk b11 (fun e => by have h1 := HT0.out.two.a.own_lt e; have h2 := ((Keeps.refl (fun _ => False) wc).drew).size; omega)
       have hS7 := hHeld.grown hg7 (fun g e => .inl (.inl e))
       refine hK.out _ _ hS7 (fun hHeld => ?_)
       clear hK K
       try simp only [pu]
       refine tJ 13 93 ?_
       try simp only [pu]
       refine wpAnyT_step (i := 12) (o := ⟨some 92, _, _, _, _, _⟩) (by kernel_rfl) rfl (fun K hK => ?_)
       refine step_append_own rfl (.tmp 89) (.tmp 91) 28 rfl 31 (.agg #[.int .i64 0, .bool false, .int .u64 0, .string .empty, .slice none 0 0, .slice none 0 0]) 6 88 Tryz.underlying28 (by kernel_rfl) rfl (by decide) A1 m c1 _ rfl (HT7.out.swap.keep (Keeps.refl (fun _ => False) _)).two.a.1 ⟨wc.drew.heap.size, 0, none⟩ 1 1 Z rfl (by rw [HZ6.out]) (fun j u hu => by rw [add_at, Nat.zero_add, b11.cell]; exact hu) HZ1.out (by simp only [maxLen]; omega) (by omega) ?_
       intro A12 c12 v12 ho12 hg12 hb12
       have HT12 := Lib.hid (((HT7.out.swap.keep (Keeps.refl (fun _ => False) _)).app ho12 hg12 hb12).swap)
       have hA12 : ∀ g, (Value.slice A12 (m + 1) c12).ownBlock = some g → (Value.slice A1 m c1).ownBlock = some g ∨ wc.heap.size ≤ g := fun g e => hb12.elim (fun h1 => .inl (h1 ▸ e)) (fun h1 => .inr (by rw [h1] at e; injection e with e; rw [← e]; exact hHeld.size))
       have hS12 := hHeld.grown hg12 (fun g e => .inl (.inr e))
       refine hK.out _ _ hS12 (fun hHeld => ?_)
       clear hK K
       try simp only [pu]
       refine wpAnyT_tail (i := 14) (o := ⟨none, _, _, _, _, _⟩) (by kernel_rfl) (by kernel_rfl) rfl (fun K hK => ?_)
       have cv1 := HT12.out.blk.cell 5
       have fz1 := HT12.out.blk.frozen 5
       go_simp
       have HT14 := Lib.hid (HT12.out.set 5 (.slice B7 (m + 1) d7))
       refine hK.out _ _ ?_
       clear hK K
       try simp only [pu]
       refine wpAnyT_tail (i := 15) (o := ⟨some 94, _, _, _, _, _⟩) (by kernel_rfl) (by kernel_rfl) rfl (fun K hK => ?_)
       go_simp
       refine hK.out _ _ ?_
       clear hK K
       try simp only [pu]
       refine wpAnyT_tail (i := 16) (o := ⟨none, _, _, _, _, _⟩) (by kernel_rfl) (by kernel_rfl) rfl (fun K hK => ?_)
       have cv2 := HT14.out.blk.cell 4
       have fz2 := HT14.out.blk.frozen 4
       go_simp
       refine hK.out _ _ ?_
       clear hK K
       try simp only [pu]
       refine wpAnyT_done (by kernel_rfl) ?_
       have HEND := Lib.hid (rl_more HO6.out HM.out HRB.out hS12 HT12.out hB7 hA12)
       obtain ⟨w22, hw22⟩ : ∃ w22, w22 = (v12.setCell ⟨p, 5, none⟩ (.slice B7 (m + 1) d7)).setCell ⟨p, 4, none⟩ (.slice A12 (m + 1) c12) := ⟨_, rfl⟩
       rw [← hw22] at HEND ⊢
       clear hw22 cv1 fz1 cv2 fz2 hS12 hB7 hA12
       go_wp2
       go_roundg (n - (i + 1))
       case measure => rw [HGK.out]; omega
       case rel => exact ⟨i + 1, B7, d7, A12, c12, _, by omega, by go_num, rfl, Lib.hid (by rw [(HSN.out _ HR6.out.1).1]; exact HEND.out), Lib.hid (HSN.out _ HR6.out.1).2⟩
  ·obtain rfl : i = n := by omega
   have hcsl : cs.take i = cs := List.take_of_length_le (by rw [H4.out.1]; exact Nat.le_refl _)
   have hun : unionK ((mem2 o).1 ++ ko) = cs := unionK_eq H4.out.2.2.2.1 H4.out.2.2.2.2.1
   have hall : r = .inr (.obj ((keyed (goodF F) cs).map (·.1)) ((keyed (goodF F) cs).map (·.2))) := by
    rw [HR.out, over_obj, hun, ← HFF.out, overAll_inr (by have := HPF.out; rwa [hcsl] at this)]
   have hrb := HO.out.rb
   rw [hcsl] at hrb
   have hbb := HK1.out.1.blk H1.out.2.2.2.1 (fun h => h)
   obtain ⟨ks, hks⟩ : ∃ ks, ks = (keyed (goodF F) cs).map (·.1) := ⟨_, rfl⟩
   obtain ⟨js, hjs⟩ : ∃ js, js = (keyed (goodF F) cs).map (·.2) := ⟨_, rfl⟩
   rw [← hks, ← hjs] at hrb hall
   have HKJ := Lib.hid hall
   obtain ⟨m, hm⟩ : ∃ m, m = ks.length := ⟨_, rfl⟩
   have hend := rl_fin hrb HH.out.low H1.out.1 (by have := H1.out.2.2.2.2.2.2; omega) H1.out.2.2.2.1.lt hbb
   have hpp := hrb.two.blk
   rw [← hm] at hend hpp
   have HEND := Lib.hid hend
   have HPB := Lib.hid hpp
   have HBB := Lib.hid hbb
   clear hend hpp hbb hks hjs hall hrb hm hcsl hun
   go_wp2_with (first
    | ((with_reducible show wpList _ _ _ (⟨some 95, _, _, _, _, _⟩ :: _) _ _); refine wpList_load_whole rfl 31 _ rfl _ rfl HPB.out Tryz.underlying31 rfl (by kernel_rfl) ?_)
    | ((with_reducible show wpList _ _ _ (⟨none, Op.store _ _ _, _, _, _, _⟩ :: _) _ _); refine wpList_store_whole rfl 31 _ _ rfl [.int .i64 6, .bool false, .int .u64 0, .string .empty, .slice A1 m c1, .slice B1 m d1] rfl rfl HBB.out rfl (by kernel_rfl) (by intro x hx; simp only [List.mem_cons, List.not_mem_nil, or_false] at hx; rcases hx with rfl | rfl | rfl | rfl | rfl | rfl <;> rfl) ?_))
   obtain ⟨v9, he9, hr9, hk9⟩ := HEND.out.2
   refine bodyPost_ret (results_blk_tt rfl _ _ rfl HEND.out.1 Tryz.underlying31 rfl (by kernel_rfl)) rfl ⟨hk9, ?_⟩
   rw [HKJ.out]
   injection he9 with he9
   exact ⟨v9, by rw [← he9]; rfl, hr9⟩
end Go.Proofs.YtdmcioghdindfaaGreatDoor
