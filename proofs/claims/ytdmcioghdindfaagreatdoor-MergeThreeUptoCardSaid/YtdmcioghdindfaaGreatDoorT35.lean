/- Texts. -/
import Derived.Test.YtdmcioghdindfaaGreatDoorT34
import Derived.Test.YtdmcioghdindfaaGreatDoorT30
import Derived.Lib.AppendStr
set_option linter.unusedSimpArgs false
set_option maxRecDepth 100000
set_option maxHeartbeats 4000000
namespace Go.Proofs.YtdmcioghdindfaaGreatDoor
open Go Go.RowKit Go.Aff Go.Json
attribute [local go_sem] Oper.semAt_some
def OSamePost (w : World) (o1 o2 : Option JV) (e : Ending) (w' : World) : Prop := ∃ b, e = .returned (.bool b) ∧ (b = true ↔ o1 = o2) ∧ Keeps (fun _ => False) w w'
theorem osort_zero {o : Option JV} (h : osort o = 0) : o = none := by
 cases o with
 | none => rfl
 | some j => cases j <;> exact absurd h (by simp [osort, JV.sort])
theorem rsame18_any {D E : Nat → Prop} (w : World) (v v2 : List Value) (o1 o2 : Option JV) (h : ORAt D w v o1) (h2 : ORAt E w v2 o2) (hok : ∀ j, o1 = some j → JOk j ∧ j.nodes ≤ 1048576) :
  Calls Tryz.prog 39 #[.agg v.toArray, .agg v2.toArray] w (OSamePost w o1 o2) := by
 obtain ⟨z, hz⟩ : ∃ z, z = osort o1 := ⟨_, rfl⟩
 obtain ⟨z2, hz2⟩ : ∃ z, z = osort o2 := ⟨_, rfl⟩
 have HSV := H_ (infoV h.len)
 have HSU := H_ (infoV h2.len)
 have hB0 : Box2V w ((w.alloc (.cells v.toArray 31)).alloc (.cells v2.toArray 31)) w.heap.size (w.heap.size + 1) v v2 := by
  have h1 := Blk.new w 31 v
  have h2 := Blk.new (w.alloc (.cells v.toArray 31)) 31 v2
  rw [World.size_alloc] at h2
  exact ⟨((Keeps.refl _ w).alloc _).alloc _, h1.alloc _, h2⟩
 have HB0 := H_ hB0
 have HH := H_ (And.intro h h2)
 have HZ := H_ (And.intro hz hz2)
 have HCZ : Hid (v[0]? = some (.int .i64 z) ∧ v2[0]? = some (.int .i64 z2)) := H_ (by
  obtain ⟨u1, u2, u3, A, na, c, B, nb, d, hv⟩ := h.six
  obtain ⟨t1, t2, t3, A2, na2, c2, B2, nb2, d2, hv2⟩ := h2.six
  rw [hv, hv2, hz, hz2]; exact ⟨rfl, rfl⟩)
 have HSA : Hid (∀ W, Keeps (fun _ => False) w W → z ≠ 0 → z2 ≠ 0 → Calls Tryz.prog 68 #[.agg v.toArray, .agg v2.toArray] W fun e w' => ∃ b, e = .returned (.bool b) ∧ Hid ((b = true ↔ o1 = o2) ∧ Keeps (fun _ => False) w w')) := H_ fun W hW n1 n2 => by
  cases o1 with
  | none => exact absurd hz n1
  | some j => cases o2 with
   | none => exact absurd hz2 n2
   | some k =>
    refine (rsame_any j (hok j rfl).1 (hok j rfl).2 k D E W v v2 (RAt.stay h hW) (RAt.stay h2 hW)).mono ?_
    rintro e w' ⟨b, he, hb, hk⟩
    exact ⟨b, he, H_ ⟨hb.trans ⟨fun h => by rw [h], fun h => by injection h⟩, hW.trans hk fun _ _ h => h⟩⟩
 clear h h2 hok hz hz2 hB0
 obtain ⟨b1, hb1⟩ : ∃ b, b = w.heap.size := ⟨_, rfl⟩
 obtain ⟨b2, hb2⟩ : ∃ b, b = w.heap.size + 1 := ⟨_, rfl⟩
 go_enter Tryz.func39, Tryz.ntmps39
 go_upto_region 1 with fail
 rw [← hb2, ← hb1] at HB0
 rw [← hb2, ← hb1]
 clear hb1 hb2
 refine gen_codeF (fun W => Box2V w W b1 b2 v v2) HB0.out ?_
 intro w1 hbx
 have x0 : w1.cell? ⟨b1, 0, none⟩ = some (.int .i64 z) := (hbx.k1.cell 0).trans HCZ.out.1
 have y0 : w1.cell? ⟨b2, 0, none⟩ = some (.int .i64 z2) := (hbx.k2.cell 0).trans HCZ.out.2
 have HBX := H_ hbx
 clear hbx HB0
 by_cases h0 : z = 0
 ·subst h0
  have HO1 : Hid (o1 = none) := H_ (osort_zero HZ.out.1.symm)
  obtain ⟨q, hq⟩ : ∃ q, q = ((0 : Int) == z2) := ⟨_, rfl⟩
  have HQ := H_ hq
  have hq2 : ((0 : Int) == z2) = q := hq.symm
  clear hq
  go_wp2
  go_ret
  refine ⟨q, rfl, ?_, HBX.out.keep⟩
  rw [HQ.out, beq_iff_eq, HO1.out]
  exact ⟨fun h => (osort_zero (HZ.out.2.symm.trans h.symm)).symm, fun h => by rw [HZ.out.2, ← h]; rfl⟩
 have q0 : (z == 0) = false := by simpa using h0
 by_cases h1 : z2 = 0
 ·subst h1
  have HO2 : Hid (o2 = none) := H_ (osort_zero HZ.out.2.symm)
  have HN0 : Hid (z ≠ 0) := H_ h0
  clear h0
  go_wp2
  go_ret
  refine ⟨false, rfl, ⟨fun h => (by cases h), fun h => ?_⟩, HBX.out.keep⟩
  exact absurd (by rw [HZ.out.1, h, HO2.out]; rfl) HN0.out
 have q1 : (z2 == 0) = false := by simpa using h1
 have HSB := H_ fun W hW => HSA.out W hW h0 h1
 clear h0 h1 HSA
 go_wp2_with (first
  | ((with_reducible show wpList _ _ _ (⟨some 18, _, _, _, _, _⟩ :: _) _ _); refine wpList_load_whole rfl 31 _ rfl _ rfl HBX.out.k1 Tryz.underlying31 rfl HSV.out ?_)
  | ((with_reducible show wpList _ _ _ (⟨some 19, _, _, _, _, _⟩ :: _) _ _); refine wpList_load_whole rfl 31 _ rfl _ rfl HBX.out.k2 Tryz.underlying31 rfl HSU.out ?_)
  | (go_at_call 68; refine (HSB.out _ HBX.out.keep).mono ?_; rintro e w3 ⟨b, rfl, H3⟩))
 go_ret
 exact ⟨b, rfl, H3.out⟩
theorem run_bytep {s : ByteArray} {j : Nat} {x : Int} (h : (sb s)[j]? = some x) (W : World) : (Instr.index 9 (.string s) (.int .i64 (j : Int))).run Tryz.prog W = .ok (.int .u8 x) W := by
 have h2 := (List.getElem?_eq_some_iff.1 h).1
 rw [sb_len] at h2
 have hx : x = ((s.get j h2).toNat : Int) := by
  unfold sb at h
  rw [List.getElem?_map, List.getElem?_eq_getElem (by simpa using h2)] at h
  injection h with h
  rw [← h]; rfl
 rw [run_index_string W 9 s .i64 j Tryz.underlying9, dif_pos ⟨by omega, by omega⟩, hx]
 rfl
theorem vb_app (a b : List Int) : vb (a ++ b) = vb a ++ vb b := List.map_append
theorem vb_one' (l : List Int) : ∀ u ∈ vb l, u.oneCell' = true := fun u hu => by
 obtain ⟨x, _, rfl⟩ := List.mem_map.1 hu
 rfl
theorem rpiece_any (w : World) (t : ByteArray) (ht : t.size ≤ 1099511627776) : Calls Tryz.prog 53 #[.string t] w fun e w' => e = .returned (.string (pieceB t)) ∧ Keeps (fun _ => False) w w' := by
 obtain ⟨n, hn⟩ : ∃ n, n = t.size := ⟨_, rfl⟩
 have HN : Hid (n = t.size ∧ n = (sb t).length) := H_ ⟨hn, by rw [sb_len, hn]⟩
 have hm0 : Mine w (w.alloc (.cells #[.int .u8 47] 5)) 5 (some ⟨w.heap.size, 0, none⟩) 1 1 (vb [47]) := Mine.built w w 5 1 (vb [47]) (Keeps.refl _ w) rfl (by decide)
 have HM0 := H_ hm0
 have HSZ : (t.size : Int) = (n : Int) := by omega
 have hsz2 := hn.symm
 rw [← hn] at ht
 clear hm0 hn
 go_enter Tryz.func53, Tryz.ntmps53
 go_upto_block 0 with fail
 refine gen_codeF (fun W => Mine w W 5 (some ⟨w.heap.size, 0, none⟩) 1 1 (vb [47])) HM0.out ?_
 intro w1 hm1
 have HM1 := H_ hm1
 clear hm1 HM0
 obtain ⟨bk, hbk⟩ : ∃ b, b = w.heap.size := ⟨_, rfl⟩
 rw [← hbk] at HM1 ⊢
 have HK := H_ hbk
 clear hbk
 go_wp2
 go_loopg [3, 4] n (fun gk y t' wx => ∃ (i : Nat) (A : Option Addr) (m c : Nat), i ≤ n ∧ y = .slice A m c ∧ t' = .int .i64 i ∧ gk = n - i ∧ m ≤ 2 * i + 1 ∧ Hid (Mine w wx 5 A m c (vb (47 :: ((sb t).take i).flatMap pieceZ))))
 case atStart => exact ⟨0, _, 1, 1, by omega, rfl, rfl, rfl, by omega, H_ (by simpa using HM1.out)⟩
 case round =>
  obtain ⟨i, A, m, c, hin, rfl, rfl, hgk, hm, HO⟩ := hrel
  have HGK := H_ hgk
  clear hgk
  have hlen : (t.size : Int) = (n : Int) := by omega
  by_cases hlt : i < n
  ·obtain ⟨x, hx⟩ : ∃ x, (sb t)[i]? = some x := ⟨_, List.getElem?_eq_getElem (by rw [← HN.out.2]; exact hlt)⟩
   have HX := H_ (flatZ_next hx)
   have hbx := run_bytep hx
   have hi63 : (0 : Int) ≤ (i : Int) := by omega
   have hiN : (i : Int) < (n : Int) := by omega
   clear hx
   by_cases h1 : x = 126
   ·have hq1 : (x == 126) = true := by rw [h1]; rfl
    have HZ : Hid (pieceZ x = [126, 48]) := H_ (by rw [h1]; rfl)
    clear h1
    go_wp2_with (at_builtin; refine wpList_append_mine w _ rfl (.tmp 16) (.tmp 17) 127 rfl 5 (.int .u8 0) 1 1 Tryz.underlying127 (by kernel_rfl) rfl (by decide) rfl (MineS.alloc HO.out _) _ 2 2 (vb [126, 48]) rfl (RdS.blk (Blk.new _ 5 (vb [126, 48])) rfl) (vb_one' _) (by unfold maxLen; omega) (by omega) ?_; intro A5 c5 w5 hM5; have HM5 := H_ hM5; clear hM5)
    go_roundg (n - (i + 1))
    case measure => rw [HGK.out]; omega
    case rel => exact ⟨i + 1, A5, m + 2, c5, by omega, rfl, by go_num, rfl, by omega, H_ (by
     rw [HX.out, HZ.out, ← List.cons_append, vb_app]
     exact HM5.out)⟩
   have hq1 : (x == 126) = false := by simpa using h1
   by_cases h2 : x = 47
   ·have hq2 : (x == 47) = true := by rw [h2]; rfl
    have HZ : Hid (pieceZ x = [126, 49]) := H_ (by rw [h2]; rfl)
    clear h1 h2
    go_wp2_with (at_builtin; refine wpList_append_mine w _ rfl (.tmp 23) (.tmp 24) 127 rfl 5 (.int .u8 0) 1 1 Tryz.underlying127 (by kernel_rfl) rfl (by decide) rfl (MineS.alloc HO.out _) _ 2 2 (vb [126, 49]) rfl (RdS.blk (Blk.new _ 5 (vb [126, 49])) rfl) (vb_one' _) (by unfold maxLen; omega) (by omega) ?_; intro A5 c5 w5 hM5; have HM5 := H_ hM5; clear hM5)
    go_roundg (n - (i + 1))
    case measure => rw [HGK.out]; omega
    case rel => exact ⟨i + 1, A5, m + 2, c5, by omega, rfl, by go_num, rfl, by omega, H_ (by
     rw [HX.out, HZ.out, ← List.cons_append, vb_app]
     exact HM5.out)⟩
   have hq2 : (x == 47) = false := by simpa using h2
   have HZ : Hid (pieceZ x = [x]) := H_ (by unfold pieceZ; rw [if_neg h1, if_neg h2])
   clear h1 h2
   go_wp2_with (at_builtin; refine wpList_append_mine w _ rfl (.tmp 26) (.tmp 30) 127 rfl 5 (.int .u8 0) 1 1 Tryz.underlying127 (by kernel_rfl) rfl (by decide) rfl (MineS.alloc HO.out _) _ 1 1 (vb [x]) rfl (RdS.blk (Blk.new _ 5 (vb [x])) rfl) (vb_one' _) (by unfold maxLen; omega) (by omega) ?_; intro A5 c5 w5 hM5; have HM5 := H_ hM5; clear hM5)
   go_roundg (n - (i + 1))
   case measure => rw [HGK.out]; omega
   case rel => exact ⟨i + 1, A5, m + 1, c5, by omega, rfl, by go_num, rfl, by omega, H_ (by
    rw [HX.out, HZ.out, ← List.cons_append, vb_app]
    exact HM5.out)⟩
  obtain rfl : i = n := by omega
  have hcv := fun c => convert_rd wr (src := 127) (e := 5) (dst := 9) Tryz.underlying127 Tryz.underlying5 Tryz.underlying9 c (Mine.rd HO.out)
  have HST : Hid (strOfNums (47 :: ((sb t).take i).flatMap pieceZ) = pieceB t) := H_ (by rw [List.take_of_length_le (by rw [← HN.out.2]; exact Nat.le_refl _), ← sb_piece, str_sb])
  rw [HST.out] at hcv
  go_wp2
  go_ret
  exact ⟨rfl, HO.out.2.1⟩
end Go.Proofs.YtdmcioghdindfaaGreatDoor
namespace Go.Aff
open Go Go.RowKit Go.Json
theorem vb_str (s : ByteArray) : Lib.strCells s = vb (sb s) := by
 unfold Lib.strCells vb sb
 rw [List.map_map]; rfl
theorem own_raise {w : World} {b b' : Nat} {e : TypeId} {sz n : Nat} {v : Value} {xs : List Value} (h : w.ownsRow b e sz v n xs) (hb : ∀ g, v.ownBlock = some g → b' ≤ g) : w.ownsRow b' e sz v n xs :=
 ⟨h.1, h.2.imp id fun ⟨g, cap, cur, h1, _, h3⟩ => ⟨g, cap, cur, h1, hb g (by rw [h1]; rfl), h3⟩⟩
theorem wpList_append_text {P : Program} (w0 w : World) {ops : Array Oper} {rest : List Oper} {o : Oper} {a : Act} {Q : Exit → Act → World → Prop} (hgd : o.guard = none) (sl x : Operand) (t u : TypeId)
  (ho : o.op = .call { callee := .builtin .append, args := #[sl, x], argTypes := #[t, u] })
  (e : TypeId) (i : TypeInfo) (ht : P.underlying t = some (.slice e)) (hu : P.underlying u = some .string) (hi : P.info? e = some i) (hz : i.zero = some (.int .u8 0))
  (hsize : i.size = 1) (hby : i.bytes = 1) {A : Option Addr} {n c : Nat} {xs : List Value} (hs : a.eval sl = .slice A n c) (hT : Mine w0 w e A n c xs) (s : ByteArray) (hx : a.eval x = .string s)
  (h63 : n + s.size ≤ maxLen) (hbytes : n + s.size ≤ 140737488355328)
  (h : ∀ A' c' w', Mine w0 w' e A' (n + s.size) c' (xs ++ vb (sb s)) → wpList P ops Q rest (a.put o.dst (.slice A' (n + s.size) c')) w') : wpList P ops Q (o :: rest) a w := by
 refine Lib.wpList_append_own_string w hgd sl x t u ho w0.heap.size e i ht hu hi hz hsize hby (.slice A n c) n xs hs (own_raise hT.1 hT.2.2) s hx h63 hbytes hT.2.1.size fun v' w' k1 k2 _ => ?_
 rw [vb_str] at k1
 have k3 : Keeps (fun _ => False) w0 w' := hT.2.1.trans (Keeps.of_grown k2) fun i hi e => by have := hT.2.2 i e; omega
 have k4 : w'.ownsRow 0 e 1 v' (n + s.size) (xs ++ vb (sb s)) := own_raise k1 fun _ _ => Nat.zero_le _
 rcases k1.2 with ⟨rfl, h0⟩ | ⟨g, cap, cur, rfl, hg, _⟩
 ·have e0 : n + s.size = 0 := h0
  rw [e0] at k4 h
  exact h none 0 w' ⟨k4, k3, fun g hg => by simp [Value.ownBlock] at hg⟩
 exact h _ cap w' ⟨k4, k3, fun g' hg' => by have e1 : some g = some g' := hg'; injection e1 with e1; omega⟩
end Go.Aff
namespace Go.Proofs.YtdmcioghdindfaaGreatDoor
open Go Go.RowKit Go.Aff Go.Json
attribute [local go_sem] Oper.semAt_some
theorem textAtP {w : World} {A : Option Addr} {n : Nat} {ks : List ByteArray} (h : Rd w A n (ks.map .string)) {j : Nat} (hj : j < n) : ∃ g o s, A = some ⟨g, o, none⟩ ∧ ks[j]? = some s ∧ w.cell? ⟨g, o + j, none⟩ = some (.string s) := by
 obtain ⟨g, o, e, q⟩ := h.2 (by omega)
 have hl : ks.length = n := by simpa using h.1
 obtain ⟨s, hs⟩ : ∃ s, ks[j]? = some s := ⟨_, List.getElem?_eq_getElem (by omega)⟩
 refine ⟨g, o, s, e, hs, ?_⟩
 rw [q j hj, List.getElem?_map, hs]; rfl
theorem info8 : ∃ i, Tryz.prog.info? 5 = some i ∧ i.zero = some (.int .u8 0) ∧ i.size = 1 ∧ i.bytes = 1 := by
 have h : (Tryz.prog.info? 5).map (fun i => (i.zero, i.size, i.bytes)) = some (some (.int .u8 0), 1, 1) := by kernel_rfl
 obtain ⟨i, hi, he⟩ := Option.map_eq_some_iff.1 h
 simp only [Prod.mk.injEq] at he
 exact ⟨i, hi, he.1, he.2.1, he.2.2⟩
theorem rprint_any (w : World) (A : Option Addr) (n c : Nat) (ts : List ByteArray) (hts : ts.length = n) (hr : Rd w A n (ts.map .string)) (hb : ∀ t ∈ ts, t.size ≤ 2097152) (hn : n ≤ 1048576) :
  Calls Tryz.prog 24 #[.slice A n c] w fun e w' => e = .returned (.string (printB ts)) ∧ Keeps (fun _ => False) w w' := by
 obtain ⟨i8, hi8, hz8, hs8, hb8⟩ := info8
 have HI8 := H_ (And.intro hi8 (And.intro hz8 (And.intro hs8 hb8)))
 have HR := H_ (And.intro hr hts)
 have HB := H_ hb
 clear hr hts hb hi8 hz8 hs8 hb8
 go_enter Tryz.func24, Tryz.ntmps24
 go_upto_block 0 with fail
 go_wp2
 go_loopg [3, 4] n (fun gk y t' wx => ∃ (i : Nat) (A : Option Addr) (m c : Nat), i ≤ n ∧ y = .slice A m c ∧ t' = .int .i64 i ∧ gk = n - i ∧ m ≤ i * 4194305 ∧ Hid (Mine w wx 5 A m c (vb ((ts.take i).flatMap fun t => sb (pieceB t)))))
 case atStart => exact ⟨0, none, 0, 0, by omega, rfl, rfl, rfl, by omega, H_ (by rw [List.take_zero]; exact MineS.nil 1 w _)⟩
 case round =>
  obtain ⟨i, A1, m, c1, hin, rfl, rfl, hgk, hm, HO⟩ := hrel
  have HGK := H_ hgk
  clear hgk
  by_cases hlt : i < n
  ·obtain ⟨g, o, t, hA, hti, hck⟩ := textAtP (HR.out.1.keep HO.out.2.1 (fun _ _ _ h => h)) hlt
   subst hA
   have htb := HB.out t (List.mem_of_getElem? hti)
   have HPI := H_ (rpiece_any wr t (Nat.le_trans htb (by decide)))
   have hps := pieceB_size t
   obtain ⟨z, hz⟩ : ∃ z, z = pieceB t := ⟨_, rfl⟩
   obtain ⟨q, hq⟩ : ∃ q, q = z.size := ⟨_, rfl⟩
   rw [← hz] at HPI hps
   rw [← hq] at hps
   have hqb : q ≤ 4194305 := by omega
   have HZ : Hid ((ts.take (i + 1)).flatMap (fun t => sb (pieceB t)) = (ts.take i).flatMap (fun t => sb (pieceB t)) ++ sb z ∧ q = z.size) := H_ ⟨by rw [List.take_add_one, hti, List.flatMap_append, hz]; simp, hq⟩
   have hi63 : (0 : Int) ≤ (i : Int) := by omega
   have hiN : (i : Int) < (n : Int) := by omega
   have hmq : m + q ≤ (i + 1) * 4194305 := by omega
   have HMB : Hid (m + z.size ≤ 140737488355328) := H_ (by rw [← hq]; omega)
   clear hti htb hps hz hq
   go_wp2_with (first
    | (go_at_call 53; refine HPI.out.mono ?_; rintro e w5 ⟨rfl, hk5⟩; have HK5 := H_ hk5; clear hk5)
    | (at_builtin; refine wpList_append_text w _ rfl (.tmp 11) (.tmp 16) 127 9 rfl 5 i8 Tryz.underlying127 Tryz.underlying9 HI8.out.1 HI8.out.2.1 HI8.out.2.2.1 HI8.out.2.2.2 rfl (Mine.keep HO.out HK5.out) z rfl (by have := HMB.out; unfold maxLen; omega) HMB.out ?_; intro A6 c6 w6 hM6; rw [← HZ.out.2] at hM6 ⊢; have HM6 := H_ hM6; clear hM6))
   go_roundg (n - (i + 1))
   case measure => rw [HGK.out]; omega
   case rel => exact ⟨i + 1, A6, m + q, c6, by omega, rfl, by go_num, rfl, hmq, H_ (by rw [HZ.out.1, vb_app]; exact HM6.out)⟩
  obtain rfl : i = n := by omega
  have hcv := fun c => convert_rd wr (src := 127) (e := 5) (dst := 9) Tryz.underlying127 Tryz.underlying5 Tryz.underlying9 c (Mine.rd HO.out)
  have HST : Hid (strOfNums ((ts.take i).flatMap fun t => sb (pieceB t)) = printB ts) := H_ (by rw [List.take_of_length_le (by rw [HR.out.2]; exact Nat.le_refl _), ← sb_print, str_sb])
  rw [HST.out] at hcv
  go_wp2
  go_ret
  exact ⟨rfl, HO.out.2.1⟩
end Go.Proofs.YtdmcioghdindfaaGreatDoor
namespace Go.Aff
open Go Go.RowKit
theorem Two.aside {F : Nat → Prop} {w wr w' : World} {e f : TypeId} {s t : Nat} {A B : Option Addr} {n c m d : Nat} {xs ys : List Value} (h : Two w wr e s A n c xs f t B m d ys) (hk : Keeps F wr w') (h0 : ∀ i, F i → w.heap.size ≤ i)
  (h1 : ∀ g, (Value.slice A n c).ownBlock = some g → ¬ F g) (h2 : ∀ g, (Value.slice B m d).ownBlock = some g → ¬ F g) : Two w w' e s A n c xs f t B m d ys :=
 have hw : Keeps (fun _ => False) w w' := h.a.2.1.trans hk fun i hi e => by have := h0 i e; omega
 ⟨⟨hk.own h.a.1 h1, hw, h.a.2.2⟩, ⟨hk.own h.b.1 h2, hw, h.b.2.2⟩, h.ap⟩
end Go.Aff
namespace Go.Json
def keysTo (os : List (Option JV)) (i : Nat) : List ByteArray := ((os.take i).map fun o => (mem2 o).1).flatten
theorem keysTo_next {os : List (Option JV)} {i : Nat} {o : Option JV} (h : os[i]? = some o) : keysTo os (i + 1) = keysTo os i ++ (mem2 o).1 := by
 unfold keysTo
 rw [List.take_add_one, h, List.map_append, List.flatten_append]
 simp
theorem keysTo_sub (os : List (Option JV)) (i : Nat) : (keysTo os i).Sublist (keysTo os os.length) := by
 unfold keysTo
 rw [List.take_length]
 have h : ∀ a b : List (List ByteArray), a.flatten.Sublist (a ++ b).flatten := fun a b => by rw [List.flatten_append]; exact List.sublist_append_left _ _
 have := h ((os.take i).map fun o => (mem2 o).1) ((os.drop i).map fun o => (mem2 o).1)
 rwa [← List.map_append, List.take_append_drop] at this
end Go.Json
namespace Go.Proofs.YtdmcioghdindfaaGreatDoor
open Go Go.RowKit Go.Aff Go.Json
attribute [local go_sem] Oper.semAt_some
def MetMap (D : DataW Unit) (ks : List ByteArray) : Prop := Maps.IsMap D ∧ (∀ s, s ∈ ks → D.atKey (kS s) (.lit (.int .i64 0)) = .lit (.int .i64 1)) ∧ ∀ s, s ∉ ks → D.atKey (kS s) (.lit (.int .i64 0)) = .lit (.int .i64 0)
theorem MetMap.zero : MetMap (.map []) [] := ⟨⟨[], rfl⟩, fun s h => absurd h List.not_mem_nil, fun s _ => Maps.atKey_of_not_has (by simp [Maps.has]) _⟩
theorem MetMap.step {D : DataW Unit} {ks : List ByteArray} {s : ByteArray} (h : MetMap D ks) (hsz : s.size ≤ maxLen) : MetMap (D.put (kS s) (.lit (.int .i64 1))) (ks ++ [s]) := by
 obtain ⟨h1, h2, h3⟩ := h
 refine ⟨?_, fun t ht => ?_, fun t ht => ?_⟩
 ·obtain ⟨es, rfl⟩ := h1
  exact ⟨_, rfl⟩
 ·by_cases e : t = s
  ·subst e
   exact Maps.atKey_put_same h1 (kS_key t hsz) _ _
  rw [Maps.atKey_put_other (fun e' => e (kS_inj e'))]
  exact h2 t ((List.mem_append.1 ht).resolve_right fun h => e (List.mem_singleton.1 h))
 have e : t ≠ s := fun e => ht (List.mem_append_right _ (List.mem_singleton.2 e))
 rw [Maps.atKey_put_other (fun e' => e (kS_inj e'))]
 exact h3 t fun h => ht (List.mem_append_left _ h)
theorem field_val5 (u0 : Int) (u1 : Bool) (u2 : Int) (u3 : ByteArray) (M : Option Addr) (u4 u5 : Nat) (A : Option Addr) (m c : Nat) (w : World) : (Instr.field 31 (.agg #[.int .i64 u0, .bool u1, .int .u64 u2, .string u3, .slice M u4 u5, .slice A m c]) 5).run Tryz.prog w = .ok (.slice A m c) w := by kernel_rfl
def nullC : List Value := [.int .i64 1, .bool false, .int .u64 0, .string .empty, .slice none 0 0, .slice none 0 0]
def nullsC (n : Nat) : List Value := (List.replicate n nullC).flatten
theorem nullsC_next (n : Nat) : nullsC (n + 1) = nullsC n ++ nullC := by
 unfold nullsC
 rw [List.replicate_succ', List.flatten_append]
 simp
structure KSt (w wx : World) (mb : Nat) (ks : List ByteArray) (Dm : DataW Unit) (L : Option Addr) (q cl : Nat) (M : Option Addr) (cm : Nat) : Prop where
 len : q = ks.length
 two : Two w wx 9 1 L q cl (ks.map .string) 31 6 M q cm (nullsC q)
 own : wx.ownsMap Tryz.prog 9 (plainElem Tryz.prog 3) mb q Dm
 lo : w.heap.size ≤ mb
 na : (Value.slice L q cl).ownBlock ≠ some mb
 nb : (Value.slice M q cm).ownBlock ≠ some mb
 map : MetMap Dm ks
 nodup : ks.Nodup
theorem rd_low {w : World} {A : Option Addr} {n : Nat} {xs : List Value} (h : Rd w A n xs) (hn : 0 < n) {a : Addr} (e : A = some a) : a.block < w.heap.size := by
 obtain ⟨g, o, e1, h1⟩ := h.2 hn
 have h2 := h1 0 hn
 rw [e] at e1
 injection e1 with e1
 subst e1
 rw [List.getElem?_eq_getElem (by rw [h.1]; exact hn)] at h2
 exact World.block_lt_of_cell? _ _ h2
theorem map_lt {H : Type} {P : Program} {k : TypeId} {R : Value → Option (DataW H × List MemPlace)} {w : World} {b n : Nat} {D : DataW H} (h : w.ownsMap P k R b n D) : b < w.heap.size := by
 obtain ⟨es, clock, hb, _⟩ := h
 exact (Array.getElem?_eq_some_iff.1 hb).1
theorem keys_end {w w' : World} {v : List Value} {ks : List ByteArray} {n : Nat} {all : List ByteArray} (h : RAt (fun i => False ∨ w.heap.size ≤ i) w' v (mkObj ks (List.replicate n .null))) (hn : ks.length = n) (hnd : ks.Nodup) (hri : ∀ s ∈ ks, rightS s = true) (hall : ∀ s, s ∈ ks ↔ s ∈ all) :
  ∃ (u0 : Int) (u1 : Bool) (u2 : Int) (u3 : ByteArray) (M : Option Addr) (u4 u5 : Nat) (A : Option Addr) (m c : Nat) (cs : List ByteArray), v = [.int .i64 u0, .bool u1, .int .u64 u2, .string u3, .slice M u4 u5, .slice A m c] ∧ cs.length = m ∧ m = n ∧ Rd w' A m (cs.map .string) ∧ InB (fun i => w.heap.size ≤ i) A m ∧ cs.Pairwise ltS ∧ ∀ s, s ∈ cs ↔ s ∈ all := by
 obtain ⟨A, c, B, d, cs, hv, _, _, hB, oB, _⟩ := h.form
 have hl : ks.length = (List.replicate n JV.null).length := by rw [List.length_replicate, hn]
 have hk : (mkObj ks (List.replicate n JV.null)).keys = (sortM (ks.zip (List.replicate n JV.null))).map (·.1) := rfl
 have hp := fst_perm hl
 refine ⟨_, _, _, _, A, _, c, B, _, d, (mkObj ks (List.replicate n JV.null)).keys, hv, rfl, ?_, hB, oB.mono fun i hi => hi.elim False.elim id, ?_, fun s => ?_⟩
 ·rw [hk, hp.length_eq, hn]
 ·rw [hk]
  exact rising_map (sorted_rising hl hnd hri)
 rw [hk, hp.mem_iff, hall]
theorem rkeysof_any {D : Nat → Prop} (w : World) (A : Option Addr) (n c : Nat) (css : List (List Value)) (os : List (Option JV)) (hA : RdS 6 w A n css.flatten) (hcl : css.length = n) (hol : os.length = n) (hx : ∀ (i : Nat) cs o, css[i]? = some cs → os[i]? = some o → ORAt D w cs o)
  (hm : (keysTo os n).length ≤ 1048576) (hri : ∀ s ∈ keysTo os n, rightS s = true ∧ s.size ≤ 1099511627776) (hn : n ≤ 1048576) :
  Calls Tryz.prog 40 #[.slice A n c] w fun e w' => ∃ (A' : Option Addr) (m c' : Nat) (cs : List ByteArray), e = .returned (.slice A' m c') ∧ cs.length = m ∧ m ≤ 1048576 ∧ Rd w' A' m (cs.map .string) ∧ InB (fun i => w.heap.size ≤ i) A' m ∧ cs.Pairwise ltS ∧ (∀ s, s ∈ cs ↔ s ∈ keysTo os n) ∧ Keeps (fun _ => False) w w' := by
 have h6 : ∀ cs ∈ css, cs.length = 6 := fun cs hc => by
  obtain ⟨i, hi⟩ := List.mem_iff_getElem?.1 hc
  have hlt := (List.getElem?_eq_some_iff.1 hi).1
  obtain ⟨o, ho⟩ : ∃ o, os[i]? = some o := ⟨_, List.getElem?_eq_getElem (by omega)⟩
  exact (hx i cs o hi ho).len
 have HA := H_ (And.intro hA h6)
 have HX := H_ hx
 have HN := H_ (And.intro hcl hol)
 have HM := H_ (And.intro hm hri)
 have HMK : Hid (∀ W (L : Option Addr) (q cl : Nat) (M : Option Addr) (cm : Nat) (ks : List ByteArray), Keeps (fun _ => False) w W → ks.length = q → Rd W L q (ks.map .string) → RdS 6 W M q (nullsC q) → ks.Nodup → (∀ s, s ∈ ks ↔ s ∈ keysTo os n) → q ≤ 1048576 → Calls Tryz.prog 69 #[.slice L q cl, .slice M q cm] W fun e w' => ∃ (u0 : Int) (u1 : Bool) (u2 : Int) (u3 : ByteArray) (M : Option Addr) (u4 u5 : Nat) (A : Option Addr) (m c : Nat) (cs : List ByteArray), e = .returned (.agg #[.int .i64 u0, .bool u1, .int .u64 u2, .string u3, .slice M u4 u5, .slice A m c]) ∧ Hid (cs.length = m ∧ m = q ∧ Rd w' A m (cs.map .string) ∧ InB (fun i => w.heap.size ≤ i) A m ∧ cs.Pairwise ltS ∧ (∀ s, s ∈ cs ↔ s ∈ keysTo os n) ∧ Keeps (fun _ => False) w w')) := H_ fun W L q cl M cm ks hW hkl hL hM hnd hall hq => by
  refine (rmade_any (D := fun _ => False) W L q cl ks hkl hL M cm (List.replicate q nullC) (List.replicate q .null) hM ⟨by simp, fun i cs x h1 h2 => ?_⟩ (by simp) hnd (fun s hs => (hri s ((hall s).1 hs)).1) (fun s hs => (hri s ((hall s).1 hs)).2) hq).mono ?_
  ·have e1 : cs = nullC := List.eq_of_mem_replicate (List.mem_of_getElem? h1)
   have e2 : x = .null := List.eq_of_mem_replicate (List.mem_of_getElem? h2)
   subst e1 e2
   exact RAt.leaf .null rfl rfl
  rintro e w' ⟨v, he, hr, hk⟩
  obtain ⟨u0, u1, u2, u3, M', u4, u5, A, m, c, cs, hv, h1, h2, h3, h4, h5, h6⟩ := keys_end hr hkl hnd (fun s hs => (hri s ((hall s).1 hs)).1) hall
  subst hv
  exact ⟨u0, u1, u2, u3, M', u4, u5, A, m, c, cs, he, H_ ⟨h1, h2, h3, h4.mono fun i hi => Nat.le_trans hW.size hi, h5, h6, hW.trans hk fun _ _ h => h⟩⟩
 clear hA h6 hcl hol hx hm hri
 go_enter Tryz.func40, Tryz.ntmps40
 have hmm := @run_makeMap Tryz.prog
 go_upto_region 2 with fail
 clear hmm
 obtain ⟨mb, hmbq⟩ : ∃ b, b = w.heap.size := ⟨_, rfl⟩
 have hM0 : KSt w (w.alloc (.map #[] 0)) mb [] (.map []) none 0 0 none 0 := by
  rw [hmbq]
  exact ⟨rfl, (Two.nil w 9 31 1 6).alloc _, World.ownsMap_made (H := Unit) w Tryz.prog 9 (plainElem Tryz.prog 3), Nat.le_refl _, by simp [Value.ownBlock], by simp [Value.ownBlock], MetMap.zero, .nil⟩
 rw [← hmbq]
 have HM0 := H_ hM0
 clear hM0 hmbq
 refine gen_codeF (fun W => KSt w W mb [] (.map []) none 0 0 none 0) HM0.out ?_
 clear HM0
 intro w2 hs2
 have HS2 := H_ hs2
 clear hs2
 go_upto_block 0 with fail
 go_wp2
 go_loopg [4, 5, 6] n (fun gk y z t wx => ∃ (i : Nat) (ks : List ByteArray) (Dm : DataW Unit) (L : Option Addr) (q cl : Nat) (M : Option Addr) (cm : Nat), i ≤ n ∧ y = .slice L q cl ∧ z = .slice M q cm ∧ t = .int .i64 i ∧ gk = n - i ∧ q ≤ 1048576 ∧ Hid (KSt w wx mb ks Dm L q cl M cm) ∧ Hid ((∀ s, s ∈ ks ↔ s ∈ keysTo os i) ∧ q ≤ (keysTo os i).length))
 case atStart => exact ⟨0, [], .map [], none, 0, 0, none, 0, by omega, rfl, rfl, rfl, rfl, by omega, HS2, H_ ⟨fun s => by simp [keysTo], by omega⟩⟩
 case round =>
  obtain ⟨i, ks, Dm, L, q, cl, M, cm, hin, rfl, rfl, rfl, hgk, hq, HO, HKS⟩ := hrel
  have HGK := H_ hgk
  clear hgk
  by_cases hlt : i < n
  ·obtain ⟨g, o, hAe, hc⟩ := (HA.out.1.keep HO.out.two.a.2.1 (fun _ _ _ h => h)).2 (by omega)
   subst hAe
   obtain ⟨cs, hcs⟩ : ∃ cs, css[i]? = some cs := ⟨_, List.getElem?_eq_getElem (by rw [HN.out.1]; exact hlt)⟩
   obtain ⟨ov, hov⟩ : ∃ ov, os[i]? = some ov := ⟨_, List.getElem?_eq_getElem (by rw [HN.out.2]; exact hlt)⟩
   have hrg := item_range hc hlt HA.out.2 hcs
   have hox := HX.out i cs ov hcs hov
   have HKN := H_ (keysTo_next hov)
   obtain ⟨u1, u2, u3, A4, na, c4, B, nb, d, hv⟩ := hox.six
   obtain ⟨so, hso⟩ : ∃ so, so = osort ov := ⟨_, rfl⟩
   rw [← hso] at hv
   subst hv
   have x0 : wr.cell? ⟨g, o + i * 6, none⟩ = some (.int .i64 so) := by have := hrg 0 _ rfl; simpa using this
   have x5 : wr.cell? ⟨g, o + i * 6 + 5, none⟩ = some (.slice B nb d) := hrg 5 _ rfl
   have hi63 : (0 : Int) ≤ (i : Int) := by omega
   have hiN : (i : Int) < (n : Int) := by omega
   by_cases h6 : so = 6
   ·have hne : (so != 6) = false := by rw [h6]; rfl
    obtain ⟨k0, l0, ho⟩ := osort_obj (hso ▸ h6)
    subst ho
    have hnb : nb = k0.length ∧ Rd w B nb (k0.map .string) := by
     obtain ⟨A', c', B', d', cs', hv', _, _, hB', _⟩ := RAt.form hox
     injection hv' with _ hv'
     injection hv' with _ hv'
     injection hv' with _ hv'
     injection hv' with _ hv'
     injection hv' with _ hv'
     injection hv' with hv' _
     injection hv' with e1 e2 e3
     subst e1 e2 e3
     exact ⟨rfl, hB'⟩
    have HKB := H_ hnb
    have HXL : Hid (g < w.heap.size ∧ w.cell? ⟨g, o + i * 6 + 5, none⟩ = some (.slice B nb d)) := H_ (by
     obtain ⟨g', o', e1, e2⟩ := HA.out.1.2 (by omega)
     injection e1 with e1
     injection e1 with e1 e3
     subst e1 e3
     have h5 := item_range e2 hlt HA.out.2 hcs 5 _ rfl
     exact ⟨World.block_lt_of_cell? _ _ h5, h5⟩)
    have hnbl : nb ≤ 1048576 := by
     have h1 := (keysTo_sub os (i + 1)).length_le
     rw [HN.out.2, HKN.out, List.length_append] at h1
     have h2 := HM.out.1
     have h3 : (mem2 (some (JV.obj k0 l0))).1.length = k0.length := rfl
     have := hnb.1
     omega
    have HBD : Hid ((keysTo os i).length + nb ≤ 1048576 ∧ ∀ s ∈ k0, rightS s = true ∧ s.size ≤ 1099511627776) := H_ (by
     have h1 := (keysTo_sub os (i + 1)).length_le
     have h0 := fun s => (keysTo_sub os (i + 1)).subset (a := s)
     rw [HN.out.2, HKN.out] at h0 h1
     rw [List.length_append] at h1
     have h2 := HM.out.1
     have h3 : (mem2 (some (JV.obj k0 l0))).1 = k0 := rfl
     have := hnb.1
     rw [h3] at h0 h1
     exact ⟨by omega, fun s hs => HM.out.2 s (h0 s (List.mem_append_right _ hs))⟩)
    clear hox hso h6 hnb hc hcs hov hrg
    have hIX : (i : Int) < (n : Int) := hiN
    go_upto_block 2 with fail
    go_wp2
    go_loopg [4, 5, 7] nb (fun gk y z t wx => ∃ (k : Nat) (ks : List ByteArray) (Dm : DataW Unit) (L : Option Addr) (q cl : Nat) (M : Option Addr) (cm : Nat), k ≤ nb ∧ y = .slice L q cl ∧ z = .slice M q cm ∧ t = .int .i64 k ∧ gk = nb - k ∧ q ≤ 1048576 ∧ Hid (KSt w wx mb ks Dm L q cl M cm) ∧ Hid ((∀ s, s ∈ ks ↔ s ∈ keysTo os i ++ k0.take k) ∧ q ≤ (keysTo os i).length + k))
    case atStart => exact ⟨0, ks, Dm, L, q, cl, M, cm, by omega, rfl, rfl, rfl, rfl, by omega, HO, H_ ⟨fun s => by rw [List.take_zero, List.append_nil]; exact HKS.out.1 s, HKS.out.2⟩⟩
    case round =>
     clear x0 x5 HO HKS hq ks Dm L cl M cm q
     obtain ⟨k, ks, Dm, L, q, cl, M, cm, hkn, rfl, rfl, rfl, hgk2, hq, HO, HKS⟩ := hrel
     have HGK2 := H_ hgk2
     clear hgk2
     have HCE : Hid (∀ V, Keeps (fun i => w.heap.size ≤ i) w V → V.cell? ⟨g, o + i * 6 + 5, none⟩ = some (.slice B nb d) ∧ Rd V B nb (k0.map .string)) := H_ fun V hV => ⟨(hV.cell HXL.out.1 (fun e => by have h2 : w.heap.size ≤ g := e; have := HXL.out.1; omega)).trans HXL.out.2, HKB.out.2.keep hV fun hn a e h => by have := rd_low HKB.out.2 hn e; have h2 : w.heap.size ≤ a.block := h; omega⟩
     have x5 := (HCE.out wr (HO.out.two.a.2.1.mono fun _ _ h => h.elim)).1
     by_cases hlk : k < nb
     ·obtain ⟨g3, o3, t, hB, hkt, hck⟩ := textAt (HCE.out wr (HO.out.two.a.2.1.mono fun _ _ h => h.elim)).2 hlk
      subst hB
      have HT3 : Hid (∀ V, Keeps (fun i => w.heap.size ≤ i) wr V → V.cell? ⟨g, o + i * 6 + 5, none⟩ = some (.slice (some ⟨g3, o3, none⟩) nb d) ∧ V.cell? ⟨g3, o3 + k, none⟩ = some (.string t)) := H_ fun V hV => by
       obtain ⟨h1, h2⟩ := HCE.out V ((HO.out.two.a.2.1.mono (G := fun i => w.heap.size ≤ i) fun _ _ h => h.elim).trans hV fun _ _ h => h)
       obtain ⟨g', o', t', e1, e2, e3⟩ := textAt h2 hlk
       injection e1 with e1
       injection e1 with e1 e4
       subst e1 e4
       rw [hkt] at e2
       injection e2 with e2
       subst e2
       exact ⟨h1, e3⟩
      have htk : k0[k]? = some t := hkt
      have hto := HBD.out.2 t (List.mem_of_getElem? hkt)
      have HKT : Hid (k0.take (k + 1) = k0.take k ++ [t]) := H_ (by rw [List.take_add_one, hkt]; rfl)
      have HKEY := H_ (kS_of t (by have := hto.2; unfold maxLen; omega))
      have HZ : Hid (t.size ≤ maxLen) := H_ (by have := hto.2; unfold maxLen; omega)
      have HMX : Hid (q < maxLen) := H_ (by unfold maxLen; omega)
      have HIR : Hid (plainElem (H := Unit) Tryz.prog 3 (.int .i64 1) = some (.lit (.int .i64 1), [])) := H_ (plainInt _ ⟨by decide, by decide⟩)
      have hk0 : (0 : Int) ≤ (k : Int) := by omega
      have hkN : (k : Int) < (nb : Int) := by omega
      have HCK := H_ hck
      have ckk := hck
      clear hkt htk hto hck
      by_cases hin2 : t ∈ ks
      ·have HAT : Hid (∀ cc : Int, Dm.atKey (kS t) (.lit (.int .i64 0)) = .lit (.int .i64 cc) → cc = 1) := H_ fun cc h => by
        have h2 := HO.out.map.2.1 t hin2
        rw [h] at h2
        injection h2 with h2
        injection h2
       have HIN := H_ hin2
       clear hin2
       go_wp2_with (at_lookup; refine wpList_lookup_own_int _ rfl _ _ 154 rfl 9 3 .i64 strKeyed Tryz.underlying154 Tryz.underlying3 (zeroInt _) mb q Dm rfl HO.out.own _ _ rfl HKEY.out ?_; intro cc hcc _; obtain rfl := HAT.out cc hcc; clear hcc)
       go_roundg (nb - (k + 1))
       case measure => rw [HGK2.out]; omega
       case rel => exact ⟨k + 1, ks, Dm, L, q, cl, M, cm, by omega, rfl, rfl, by go_num, rfl, hq, HO, H_ ⟨fun s => by
        rw [HKT.out, ← List.append_assoc, List.mem_append, ← HKS.out.1 s, List.mem_singleton]
        exact ⟨.inl, fun h => h.elim id fun e => by rw [e]; exact HIN.out⟩, by have := HKS.out.2; omega⟩⟩
      ·have HAT : Hid (∀ cc : Int, Dm.atKey (kS t) (.lit (.int .i64 0)) = .lit (.int .i64 cc) → cc = 0) := H_ fun cc h => by
        have h2 := HO.out.map.2.2 t hin2
        rw [h] at h2
        injection h2 with h2
        injection h2
       have HIN := H_ hin2
       have hq1 : q + 1 ≤ 1048576 := by have := HKS.out.2; have := HBD.out.1; omega
       clear hin2
       go_wp2_with (first
        | (at_lookup; refine wpList_lookup_own_int _ rfl _ _ 154 rfl 9 3 .i64 strKeyed Tryz.underlying154 Tryz.underlying3 (zeroInt _) mb q Dm rfl HO.out.own _ _ rfl HKEY.out ?_; intro cc hcc _; obtain rfl := HAT.out cc hcc; clear hcc)
        | (at_mapUpdate; refine wpList_mapUpdate_own _ rfl _ _ _ 154 rfl 9 3 strKeyed Tryz.underlying154 _ mb q Dm rfl HO.out.own HMX.out _ _ _ rfl rfl HKEY.out (.lit (.int .i64 1)) [] HIR.out ?_; intro w9 hown9 hg9; have HO9 := H_ hown9; have HK9 : Hid (Keeps (fun i => i = mb) wr w9) := H_ ((Keeps.of_grown hg9).mono fun i _ e => by injection e with e; exact e.symm); obtain ⟨cv5, cvk⟩ := HT3.out w9 (HK9.out.mono fun i _ e => by have := HO.out.lo; omega); have HT9 : Hid (Two w w9 9 1 L q cl (ks.map .string) 31 6 M q cm (nullsC q)) := H_ (HO.out.two.aside HK9.out (fun i e => by have := HO.out.lo; omega) (fun g hg e => HO.out.na (by rw [hg, e])) (fun g hg e => HO.out.nb (by rw [hg, e]))); clear hown9 hg9)
        | (at_builtin; refine wpList_append_S _ rfl (.tmp 51) (.tmp 60) 29 rfl 9 (.string .empty) 1 16 Tryz.underlying29 (by kernel_rfl) rfl (by decide) L q cl _ rfl (HT9.out.alloc _).a.1 _ 1 1 [.string t] rfl (RdS.blk (Blk.new _ 9 [.string t]) rfl) (by intro u hu; rw [List.mem_singleton.1 hu]; rfl) (by unfold maxLen; omega) (by omega) ?_; intro A4 c4 w4 ho4 hg4 hb4; have HT4 := H_ ((HT9.out.alloc _).grown ho4 hg4 hb4); have HB4 := H_ hb4; have HK4 := H_ (((Keeps.refl (fun i => (Value.slice L q cl).ownBlock = some i) w9).alloc (.cells #[.string t] 9)).trans ((Keeps.of_grown hg4).mono fun i _ e => e) (fun _ _ h => h)); clear ho4 hg4 hb4)
        | (at_builtin; refine wpList_append_S _ rfl (.tmp 62) (.tmp 64) 28 rfl 31 (.agg #[.int .i64 0, .bool false, .int .u64 0, .string .empty, .slice none 0 0, .slice none 0 0]) 6 88 Tryz.underlying28 (by kernel_rfl) rfl (by decide) M q cm _ rfl (HT4.out.alloc _).b.1 _ 1 1 nullC rfl (RdS.blk (Blk.new _ 31 nullC) rfl) (by decide) (by unfold maxLen; omega) (by omega) ?_; intro A5 c5 w5 ho5 hg5 hb5; have HT5 := H_ (((HT4.out.swap.alloc _).grown ho5 hg5 hb5).swap); have HB5 := H_ hb5; have HK5 := H_ (((Keeps.refl (fun i => (Value.slice M q cm).ownBlock = some i) w4).alloc (.cells nullC.toArray 31)).trans ((Keeps.of_grown hg5).mono fun i _ e => e) (fun _ _ h => h)); clear ho5 hg5 hb5))
       go_roundg (nb - (k + 1))
       case measure => rw [HGK2.out]; omega
       case rel =>
        refine ⟨k + 1, ks ++ [t], Dm.put (kS t) (.lit (.int .i64 1)), A4, q + 1, c4, A5, c5, by omega, rfl, rfl, by go_num, rfl, hq1, H_ ⟨?_, ?_, ?_, HO.out.lo, ?_, ?_, HO.out.map.step HZ.out, ?_⟩, H_ ⟨fun s => ?_, by have := HKS.out.2; omega⟩⟩
        ·rw [List.length_append, ← HO.out.len]; rfl
        ·rw [List.map_append, nullsC_next]; exact HT5.out
        ·exact Keeps.mapS HK5.out (Keeps.mapS HK4.out HO9.out HO.out.na) HO.out.nb
        ·have := map_lt HO9.out
         rcases HB4.out with h | h
         ·rw [h]; exact HO.out.na
         rw [h, World.size_alloc]; intro e; injection e with e; omega
        ·have := map_lt HO9.out
         have := HK4.out.size
         rcases HB5.out with h | h
         ·rw [h]; exact HO.out.nb
         rw [h, World.size_alloc]; intro e; injection e with e; omega
        ·exact List.nodup_append.2 ⟨HO.out.nodup, by simp, fun a ha b hb e => HIN.out (by rw [← List.mem_singleton.1 hb, ← e]; exact ha)⟩
        rw [HKT.out, ← List.append_assoc, List.mem_append, HKS.out.1 s]
        exact List.mem_append.symm
     obtain rfl : k = nb := by omega
     have HKE : Hid (∀ s, s ∈ ks ↔ s ∈ keysTo os (i + 1)) := H_ fun s => by
      rw [HKS.out.1 s, HKN.out, List.take_of_length_le (by rw [HKB.out.1]; exact Nat.le_refl _)]; rfl
     have HQE : Hid (q ≤ (keysTo os (i + 1)).length) := H_ (by
      rw [HKN.out, List.length_append]
      have h3 : (mem2 (some (JV.obj k0 l0))).1.length = k0.length := rfl
      have := HKS.out.2; have := HKB.out.1; omega)
     go_wp2
     go_roundg (n - (i + 1))
     case measure => rw [HGK.out]; omega
     case rel => exact ⟨i + 1, ks, Dm, L, q, cl, M, cm, by omega, rfl, rfl, by go_num, rfl, hq, HO, H_ ⟨HKE.out, HQE.out⟩⟩
   have hne : (so != 6) = true := by simpa using h6
   have HE0 : Hid (keysTo os (i + 1) = keysTo os i) := H_ (by rw [HKN.out, mem2_none (by rw [← hso]; exact h6), List.append_nil])
   clear hox hso h6 hc hcs hov hrg
   go_wp2
   go_roundg (n - (i + 1))
   case measure => rw [HGK.out]; omega
   case rel => exact ⟨i + 1, ks, Dm, L, q, cl, M, cm, by omega, rfl, rfl, by go_num, rfl, hq, HO, H_ (by rw [HE0.out]; exact HKS.out)⟩
  obtain rfl : i = n := by omega
  have HMK2 := H_ (HMK.out wr L q cl M cm ks HO.out.two.a.2.1 HO.out.len.symm (MineS.rd HO.out.two.a) (MineS.rdS HO.out.two.b) HO.out.nodup HKS.out.1 hq)
  clear HMK
  go_wp2_with (go_at_call 69; refine HMK2.out.mono ?_; rintro e w9 ⟨u0, u1, u2, u3, M9, u4, u5, A9, m9, c9, cs9, rfl, H9⟩; have hfld := fun W => field_val5 u0 u1 u2 u3 M9 u4 u5 A9 m9 c9 W)
  go_ret
  exact ⟨A9, m9, c9, cs9, rfl, H9.out.1, by rw [H9.out.2.1]; exact hq, H9.out.2.2.1, H9.out.2.2.2.1, H9.out.2.2.2.2.1, H9.out.2.2.2.2.2.1, H9.out.2.2.2.2.2.2⟩
end Go.Proofs.YtdmcioghdindfaaGreatDoor
