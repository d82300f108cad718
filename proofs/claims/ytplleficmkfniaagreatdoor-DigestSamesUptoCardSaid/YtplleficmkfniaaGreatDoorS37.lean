/- Texts. -/
import Derived.Shelf.Bytes.Small
import Derived.Test.YtplleficmkfniaaGreatDoorS36
set_option linter.unusedSimpArgs false
set_option maxRecDepth 100000
set_option maxHeartbeats 4000000
namespace Go.Proofs
open Go.Shelf
def Tryz.lays115_ren : Go.Shelf.Ren := ⟨fun | 115 => 64 | n => n, fun | 37 => 48 | 4 => 4 | 9 => 9 | 5 => 5 | n => n, fun | n => n⟩
theorem Tryz.lays115 : Go.Proofs.Lays.n115 Tryz.prog Tryz.lays115_ren := {
 mixed := by kernel_rfl
 f115 := Tryz.func64.trans (congrArg some (by kernel_rfl))
 t4 := Tryz.underlying4
 a4 := Tryz.isAgg4
 z4 := Tryz.sizeOf4
 v4 := Tryz.zeroValue4
 t9 := Tryz.underlying9
 a9 := Tryz.isAgg9
 z9 := Tryz.sizeOf9
 v9 := Tryz.zeroValue9
 t37 := Tryz.underlying48
 a37 := Tryz.isAgg48
 z37 := Tryz.sizeOf48
 v37 := Tryz.zeroValue48 }
theorem Tryz.bytes_Equal (v1 v2 : Value) (xs ys : List Int) (w : World) (h1 : (convert 48 9 v1).run Tryz.prog w = .ok (.string (strOfNums xs)) w) (h2 : (convert 48 9 v2).run Tryz.prog w = .ok (.string (strOfNums ys)) w) :
  Calls Tryz.prog 64 #[v1, v2] w fun e w' => e = .returned (.bool (Lib.bytesOf xs == Lib.bytesOf ys)) ∧ w' = w := Any.bytes_Equal Tryz.lays115 v1 v2 xs ys w h1 h2
end Go.Proofs
namespace Go.Proofs.YtplleficmkfniaaGreatDoor
open Go Go.RowKit Go.Aff Go.Sha Go.Dig Go.ChangeShapes
attribute [local go_sem] Oper.semAt_some
theorem wpList_mapEntry {P : Program} (w : World) {ops : Array Oper} {rest : List Oper} {o : Oper} {a : Act} {Q : Exit → Act → World → Prop} (hg : o.guard = none) (m x : Operand) (t : TypeId) (hop : o.op = Op.mapEntry t m x)
  {M K v : Value} {w1 : World} (hm : a.eval m = M) (hx : a.eval x = K) (hrun : (Instr.mapEntry t M K).run P w = .ok v w1) (h : wpList P ops Q rest (a.put o.dst v) w1) : wpList P ops Q (o :: rest) a w := by
 refine wpList_plain hg fun K' hK' => ?_
 unfold Oper.wp
 simp [execOp, hop, hm, hx, hrun, Result.andThen]
 exact hK' _ _ h
theorem wpList_entryStore {P : Program} (w : World) {ops : Array Oper} {rest : List Oper} {o : Oper} {a : Act} {Q : Exit → Act → World → Prop} (hg : o.guard = none) (m s x : Operand) (t : TypeId) (hop : o.op = Op.entryStore t m s x)
  {M S v : Value} {w1 : World} (hm : a.eval m = M) (hs : a.eval s = S) (hx : a.eval x = v) (hrun : (Instr.entryStore t M S v).run P w = .ok () w1) (h : wpList P ops Q rest (a.put o.dst undef) w1) : wpList P ops Q (o :: rest) a w := by
 refine wpList_plain hg fun K' hK' => ?_
 unfold Oper.wp
 simp [execOp, hop, hm, hs, hx, hrun, Result.andThen]
 exact hK' _ _ h
theorem infoI64 : ∃ i, Tryz.prog.info? 3 = some i ∧ i.zero = some (.int .i64 0) ∧ i.size = 1 ∧ i.bytes = 8 := by
 have h : (Tryz.prog.info? 3).map (fun i => (i.zero, i.size, i.bytes)) = some (some (.int .i64 0), 1, 8) := by kernel_rfl
 obtain ⟨i, hi, he⟩ := Option.map_eq_some_iff.1 h
 simp only [Prod.mk.injEq] at he
 exact ⟨i, hi, he.1, he.2.1, he.2.2⟩
theorem ints_shape {w : World} {base : Nat} {e : TypeId} {v : Value} {zs : List Int} (h : w.ownsInts base e .i64 v zs) : ∃ A c, v = .slice A zs.length c := by
 rcases h.1.2 with ⟨hv, h0⟩ | ⟨g, c1, cur, hv, _⟩
 ·exact ⟨none, 0, by rw [h0]; exact hv⟩
 ·exact ⟨_, c1, hv⟩
theorem one_news {w : World} {g : Nat} {x : Value} (h : Rd w (some ⟨g, 0, none⟩) 1 [x]) : ∀ (j : Nat) u, [x][j]? = some u → w.cell? ((⟨g, 0, none⟩ : Addr).add j) = some u := fun j u hj => by
 obtain ⟨g2, o2, e, hc⟩ := h.2 (by omega)
 injection e with e
 injection e with e1 e2
 subst e1 e2
 have hj1 : j < 1 := by simpa using (List.getElem?_eq_some_iff.1 hj).1
 have := hc j hj1
 rw [hj] at this
 rw [add_at]
 exact this
def ClPost (w : World) (a b : List (List Int)) (e : Ending) (w' : World) : Prop := Keeps (fun _ => False) w w' ∧ ((e = .returned (.tuple #[.slice none 0 0, .slice none 0 0, .bool false]) ∧ NoClash a b) ∨ ∃ (i k : Nat) (x y : List Int) (A B : Option Addr) (c d n m : Nat), IsFirst a b i k ∧ a[i]? = some x ∧ b[k]? = some y ∧ e = .returned (.tuple #[.slice A n c, .slice B m d, .bool true]) ∧ x.length = n ∧ y.length = m ∧ Rd w' A n (vb x) ∧ Rd w' B m (vb y))
theorem parts_at {w : World} {A : Option Addr} {n : Nat} {a : List (List Int)} (hl : a.length = n) (hp : RdPartsO (fun _ => False) w A a) (W : World) (hW : Keeps (fun _ => False) w W) (k : Nat) (hk : k < n) :
  ∃ g o A' q c' x, A = some ⟨g, o, none⟩ ∧ a[k]? = some x ∧ x.length = q ∧ IsBytes x ∧ q ≤ 140737488351232 ∧ q ≤ c' ∧ ∀ V, Keeps (fun _ => False) W V → V.cell? ⟨g, o + k, none⟩ = some (.slice A' q c') ∧ Rd V A' q (vb x) := by
 obtain ⟨vals, hv, _, hparts⟩ := hp
 obtain ⟨g, o, e, _⟩ := hv.2 (by omega)
 obtain ⟨x, hx⟩ : ∃ x, a[k]? = some x := ⟨_, List.getElem?_eq_getElem (show k < a.length by rw [hl]; exact hk)⟩
 obtain ⟨A', c', h1, h2, _, h4, h5, h6⟩ := hparts k x hx
 refine ⟨g, o, A', x.length, c', x, e, hx, rfl, h4, h6, h5, fun V hV => ?_⟩
 have hk2 := hW.trans hV fun _ _ h => h
 obtain ⟨g2, o2, e2, hc2⟩ := (hv.keep hk2 (no_out _ _)).2 (by omega)
 rw [e] at e2
 injection e2 with e2
 injection e2 with e2 e3
 subst e2 e3
 exact ⟨(hc2 k (by omega)).trans h1, h2.keep hk2 (no_out _ _)⟩
theorem bytes_eq {xs ys : List Int} (hx : IsBytes xs) (hy : IsBytes ys) : (Lib.bytesOf xs == Lib.bytesOf ys) = decide (xs = ys) := by
 rw [Bool.eq_iff_iff, beq_iff_eq, decide_eq_true_iff, ← Lib.strOfNums_toList, ← Lib.strOfNums_toList]
 exact ⟨fun h => str_inj hx hy (toList_inj h), fun h => by rw [h]⟩
theorem clash_any (w : World) (hG : GW w) (A : Option Addr) (n c : Nat) (a : List (List Int)) (ha : a.length = n) (pa : RdPartsO (fun _ => False) w A a) (B : Option Addr) (m d : Nat) (b : List (List Int)) (hb : b.length = m) (pb : RdPartsO (fun _ => False) w B b) (hn : n ≤ 1099511627776) (hm : m ≤ 1099511627776) :
  Calls Tryz.prog 21 #[.slice A n c, .slice B m d] w (ClPost w a b) := by
 have HA := H_ (parts_at ha pa)
 have HB := H_ (parts_at hb pb)
 have HLA := H_ (And.intro ha hb)
 have HG := H_ hG
 obtain ⟨N, hN⟩ : ∃ N, N = w.heap.size := ⟨_, rfl⟩
 have HST : Hid (∃ D : DataW Unit, (w.alloc (.map #[] 0)).ownsGroups Tryz.prog 23 (N + 1) 3 .i64 N 0 D ∧ GrpMap D b 0 ∧ Keeps (fun _ => False) w (w.alloc (.map #[] 0))) := H_ ⟨.map [], by rw [hN]; exact World.ownsGroups_made w _ _ _ _, GrpMap.zero b, (Keeps.refl _ w).alloc _⟩
 have HNN := H_ hN
 have HML : Hid (∀ k, k ≤ 1099511627776 → k < maxLen) := H_ fun k hk => Nat.lt_of_le_of_lt hk (by decide)
 clear pa pb ha hb hG hN
 go_enter Tryz.func21, Tryz.ntmps21
 have hmm := @run_makeMap Tryz.prog
 go_upto_block 0 with fail
 go_wp2
 clear hmm
 have hNN := HNN.out
 rw [← hNN]
 clear hNN
 go_loopw [18] (fun t wx => ∃ k : Nat, k ≤ m ∧ t = .int .i64 k ∧ Hid (∃ D : DataW Unit, wx.ownsGroups Tryz.prog 23 (N + 1) 3 .i64 N k D ∧ GrpMap D b k ∧ Keeps (fun _ => False) w wx)) (fun t _ => m - (intOf t).toNat)
 case atStart => exact ⟨0, by omega, rfl, HST⟩
 case round =>
  obtain ⟨k, hkm, rfl, HD⟩ := hrel
  by_cases hlt : k < m
  ·obtain ⟨D, hown, hgm, hkw⟩ := HD.out
   obtain ⟨g, o, B', q, c', x, hBe, hx, hxl, hxb, hxm, hxc, hxv⟩ := HB.out wr hkw k hlt
   subst hBe
   have hcell := (hxv wr (Keeps.refl _ _)).1
   have hrd := (hxv wr (Keeps.refl _ _)).2
   obtain ⟨DV, hDV⟩ : ∃ DV, DV = vb (hsh x) := ⟨_, rfl⟩
   have HD1 : Hid (∀ u ∈ DV, u.oneCell' = true) := H_ (by rw [hDV]; exact vb_one _)
   have HDL : Hid (DV.length = 32) := H_ (by rw [hDV, vb_length]; exact hsh_len _)
   have HIN : Hid ((Tryz.prog.info? 23).map (·.size) = some DV.length) := H_ (infoDg DV HDL.out)
   have HSU : Hid (Calls Tryz.prog 63 #[.slice (some ⟨wr.heap.size, 0, none⟩) 1 1] (wr.alloc (.cells #[.slice B' q c'] 48)) fun e w' => e = .returned (.agg DV.toArray) ∧ Keeps (fun _ => False) wr w') := H_ (by
    rw [hDV]
    exact (sums_one wr (HG.out.stay hkw).sha B' q c' x hxl hrd hxb hxc hxm).mono fun e w' h1 => h1)
   have HDD := H_ (And.intro hDV (And.intro hx (And.intro hgm (And.intro hown hkw))))
   clear HD hown hgm hkw hx hxl hxb hxm hxc hxv hrd hDV
   go_upto_region 6 with (first
    | (go_at_call 63; refine HSU.out.mono ?_; rintro e w5 ⟨rfl, hk5⟩; have HK5 := H_ hk5; have HZ := H_ (Blk.new w5 23 (List.replicate 32 (Value.int .u8 0))); clear hk5)
    | ((with_reducible show wpList _ _ _ (⟨none, Op.store 23 _ _, _, _, _, _⟩ :: _) _ _); refine wpList_store_whole rfl 23 _ _ rfl DV rfl rfl HZ.out (by rw [HDL.out]; simp) HIN.out HD1.out ?_))
   obtain ⟨P, hP⟩ : ∃ P, P = w5.heap.size := ⟨_, rfl⟩
   have HW6 : Hid (Keeps (fun _ => False) wr ((w5.alloc (.cells (List.replicate 32 (Value.int .u8 0)).toArray 23)).setRow w5.heap.size DV.toArray) ∧ Blk ((w5.alloc (.cells (List.replicate 32 (Value.int .u8 0)).toArray 23)).setRow w5.heap.size DV.toArray) P 23 DV) := H_ ⟨(HK5.out.alloc _).setRow (.inr HK5.out.size) _, by rw [hP]; exact HZ.out.setRow DV⟩
   rw [← hP] at HW6 ⊢
   refine gen_codeF (fun W => Keeps (fun _ => False) wr W ∧ Blk W P 23 DV) HW6.out ?_
   rintro w6 ⟨k6, b6⟩
   obtain ⟨hDV, hx, hgm, hown, hkw⟩ := HDD.out
   have ka : Keeps (fun _ => False) wr (w6.alloc (.cells #[.int .i64 k] 3)) := k6.alloc _
   have hown6 := ka.groups hown fun _ _ h => h
   have hkey : keyOf Tryz.prog 23 (.agg DV.toArray) = some (kOf (hsh x)) := by rw [hDV]; exact kOf_eq (dig_hsh x)
   obtain ⟨v7, zs, st, w7, hrun, hg7, hat, hoi, hzl, hback⟩ := groups_entry hown6 key_low Tryz.underlying153 zero_ints (HML.out k (by omega)) hkey
   have hzs := hgm.row (dig_hsh x) hat hoi
   obtain ⟨A7, c7, hv7⟩ := ints_shape hoi
   subst hv7
   have hNl : N < wr.heap.size := by
    obtain ⟨es, clock, hb, _⟩ := hown
    exact (Array.getElem?_eq_some_iff.1 hb).1
   have HNW : Hid (Rd w7 (some ⟨w6.heap.size, 0, none⟩) 1 [.int .i64 k]) := H_ ((Rd.of_blk (Blk.new w6 3 [.int .i64 k]) (n := 1) rfl).keep (Keeps.of_grown hg7) fun _ ad e hf => by
    injection e with e
    subst e
    injection hf with hf
    have := k6.size
    simp only at hf
    omega)
   have HFIN : Hid (∀ v8 w8, w8.ownsRow (N + 1) 3 1 v8 (zs.length + 1) (zs.map (Value.int .i64) ++ [.int .i64 k]) → w7.grownBy w8 (Value.slice A7 zs.length c7).ownBlock → (v8.ownBlock = (Value.slice A7 zs.length c7).ownBlock ∨ v8.ownBlock = some w7.heap.size) →
     ∃ w9, (Instr.entryStore 153 (.map (some N)) (goInt st) v8).run Tryz.prog w8 = .ok () w9 ∧ Hid (∃ D : DataW Unit, w9.ownsGroups Tryz.prog 23 (N + 1) 3 .i64 N (k + 1) D ∧ GrpMap D b (k + 1) ∧ Keeps (fun _ => False) w w9)) := H_ fun v8 w8 h1 h2 h3 => by
    have h4 := hoi.appended h1 (wf_nat k (by omega))
    obtain ⟨w9, h5, h6, h7⟩ := hback w8 v8 _ h2 h4 (by rw [List.length_append]; simp; omega) (h3.imp id fun e => ⟨_, e, Nat.le_refl _⟩)
    refine ⟨w9, h5, H_ ⟨_, h6, ?_, ?_⟩⟩
    ·rw [hzs] at h4 ⊢
     exact hgm.step hx h4
    ·have hNw := HNN.out
     refine (((hkw.trans ka fun _ _ h => h).grown hg7 fun g hg => ?_).grown h2 fun g hg => ?_).grown h7 fun g hg => ?_
     ·injection hg with hg; omega
     ·have := (hoi.1.lt g hg).1; omega
     ·injection hg with hg; omega
   have HRUN := H_ hrun
   have HB6 := H_ b6
   have HOI := H_ hoi.1
   have HZL := H_ hzl
   have HBS : Hid (N + 1 ≤ w7.heap.size) := H_ (by have := hg7.size; rw [World.size_alloc] at this; have := k6.size; omega)
   obtain ⟨ii, hii, hi1, hi2, hi3⟩ := infoI64
   have HII := H_ (And.intro hii (And.intro hi1 (And.intro hi2 hi3)))
   have hgi : goInt st = .int .i64 (st : Int) := rfl
   rw [hgi] at HRUN HFIN
   clear hDV hx hgm hown hkw ka hown6 hkey hrun hg7 hat hoi hzl hback hzs hNl k6 b6 HW6 hP hii hi1 hi2 hi3 hgi
   go_wp2_with (first
    | ((with_reducible show wpList _ _ _ (⟨some 27, Op.load 23 _, _, _, _, _⟩ :: _) _ _); refine wpList_load_whole rfl 23 _ rfl _ rfl HB6.out Tryz.underlying23 rfl HIN.out ?_)
    | ((with_reducible show wpList _ _ _ (⟨some 31, _, _, _, _, _⟩ :: _) _ _); refine wpList_mapEntry _ rfl (.tmp 26) (.tmp 27) 153 rfl rfl rfl HRUN.out ?_)
    | (at_builtin; refine wpList_append_own_at _ rfl (.tmp 28) (.tmp 30) 155 rfl (N + 1) 3 ii (.int .i64 0) 1 8 Tryz.underlying155 HII.out.1 HII.out.2.1 HII.out.2.2.1 HII.out.2.2.2 rfl (by decide) (.slice A7 zs.length c7) zs.length _ rfl HOI.out ⟨w6.heap.size, 0, none⟩ 1 1 [.int .i64 k] rfl rfl (one_news HNW.out) (by intro u hu; rw [List.mem_singleton.1 hu]; rfl) (Nat.le_of_lt (HML.out _ (by have := HZL.out; omega))) (by have := HZL.out; omega) HBS.out ?_; intro v8 w8 ho8 hg8 _ hb8; obtain ⟨w9, hr9, HN9⟩ := HFIN.out v8 w8 ho8 hg8 hb8; have HR9 := H_ hr9; clear ho8 hg8 hb8 hr9)
    | ((with_reducible show wpList _ _ _ (⟨none, Op.entryStore _ _ _ _, _, _, _, _⟩ :: _) _ _); refine wpList_entryStore _ rfl (.tmp 26) (.tmp 33) (.tmp 32) 153 rfl rfl rfl rfl HR9.out ?_))
   go_roundw
   case rel => exact ⟨k + 1, by omega, by go_num, HN9⟩
   case measure => simp [intOf]; omega
  ·obtain rfl : k = m := by omega
   obtain ⟨D, hown, hgm, hkw⟩ := HD.out
   obtain ⟨w2, hw2⟩ : ∃ w2, w2 = wr := ⟨_, rfl⟩
   subst hw2
   have HOWN := H_ (And.intro hown (And.intro hgm hkw))
   clear HD HST hown hgm hkw
   go_upto_block 2 with fail
   go_wp2
   go_loopw [37] (fun t wx => ∃ i : Nat, i ≤ n ∧ t = .int .i64 i ∧ Hid (Keeps (fun _ => False) w2 wx) ∧ Hid (∀ i' k', i' < i → ¬ ClashAt a b i' k')) (fun t _ => n - (intOf t).toNat)
   case atStart => exact ⟨0, by omega, rfl, H_ (Keeps.refl _ _), H_ fun i' _ h => by omega⟩
   case round =>
    obtain ⟨i, hin, rfl, HK, HI⟩ := hrel
    by_cases hlt : i < n
    ·have hkw := HOWN.out.2.2.trans HK.out fun _ _ h => h
     obtain ⟨g, o, A', q, c', x, hAe, hx, hxl, hxb, hxm, hxc, hxv⟩ := HA.out wr hkw i hlt
     subst hAe
     have hcell := (hxv wr (Keeps.refl _ _)).1
     obtain ⟨DV, hDV⟩ : ∃ DV, DV = vb (hsh x) := ⟨_, rfl⟩
     have HSU : Hid (Calls Tryz.prog 63 #[.slice (some ⟨wr.heap.size, 0, none⟩) 1 1] (wr.alloc (.cells #[.slice A' q c'] 48)) fun e w' => e = .returned (.agg DV.toArray) ∧ Keeps (fun _ => False) wr w') := H_ (by
      rw [hDV]
      exact sums_one wr (HG.out.stay hkw).sha A' q c' x hxl (hxv wr (Keeps.refl _ _)).2 hxb hxc hxm)
     obtain ⟨ps, hps⟩ : ∃ ps, ps = places b k (hsh x) := ⟨_, rfl⟩
     obtain ⟨r, hr⟩ : ∃ r, r = ps.length := ⟨_, rfl⟩
     have hrk : r ≤ k := by rw [hr, hps]; exact places_len _ _ _
     have HLK : Hid (∀ V, Keeps (fun _ => False) wr V → ∃ A7 c7, (Instr.lookup 153 (.map (some N)) (.agg DV.toArray) false).run Tryz.prog V = .ok (.slice A7 r c7) V ∧ Hid (Rd V A7 r (ps.map fun (n : Nat) => Value.int .i64 (n : Int)))) := H_ fun V hV => by
      have h1 := (HK.out.trans hV fun _ _ h => h).groups HOWN.out.1 fun _ _ h => h
      obtain ⟨v, zs, h2, h3, h4, _, _⟩ := h1.at key_law Tryz.underlying153 (zero_ints V) (HML.out k (by omega)) (key := .agg DV.toArray) (kl := kOf (hsh x)) (by rw [hDV]; exact kOf_eq (dig_hsh x))
      have h5 := HOWN.out.2.1.row (dig_hsh x) h3 h4
      obtain ⟨A7, c7, hv7⟩ := ints_shape h4
      subst hv7
      have hl : zs.length = r := by rw [h5, hr, hps]; simp
      have h6 := Rd.of_own h4.1
      rw [hl] at h2 h6
      refine ⟨A7, c7, h2, H_ ?_⟩
      rw [h5, ← hps, List.map_map] at h6
      exact h6
     have HXV := H_ hxv
     have HX := H_ (And.intro hx (And.intro hxl (And.intro hxb (And.intro hps hr))))
     have hqm : q ≤ 140737488351232 := hxm
     clear hx hxl hxb hxm hxc hxv hDV hps hr hkw
     go_upto_block 4 with (go_at_call 63; refine HSU.out.mono ?_; rintro e w5 ⟨rfl, hk5⟩; obtain ⟨A7, c7, hlook, HP7⟩ := HLK.out w5 hk5; have HK5 := H_ hk5; clear hk5)
     go_wp2
     go_loopw [47] (fun t wx => ∃ j : Nat, j ≤ r ∧ t = .int .i64 j ∧ Hid (Keeps (fun _ => False) w5 wx) ∧ Hid (∀ (j' k' : Nat), j' < j → ps[j']? = some k' → b[k']? = some x)) (fun t _ => r - (intOf t).toNat)
     case atStart => exact ⟨0, by omega, rfl, H_ (Keeps.refl _ _), H_ fun j' k' h => by omega⟩
     case round =>
      obtain ⟨j, hjr, rfl, HK6, HJ⟩ := hrel
      have HKW : Hid (Keeps (fun _ => False) w wr) := H_ (((HOWN.out.2.2.trans HK.out fun _ _ h => h).trans HK5.out fun _ _ h => h).trans HK6.out fun _ _ h => h)
      by_cases hlj : j < r
      ·obtain ⟨g7, o7, hA7, hc7⟩ := (HP7.out.keep HK6.out (no_out _ _)).2 (by omega)
       obtain ⟨kk, hkk⟩ : ∃ kk, ps[j]? = some kk := ⟨_, List.getElem?_eq_getElem (by rw [← HX.out.2.2.2.2]; exact hlj)⟩
       have hck : wr.cell? ⟨g7, o7 + j, none⟩ = some (.int .i64 kk) := by rw [hc7 j hlj, List.getElem?_map, hkk]; rfl
       have hkm : kk < k := by
        have := List.mem_of_getElem? hkk
        rw [HX.out.2.2.2.1] at this
        exact (places_mem.1 this).1
       subst hA7
       obtain ⟨g2, o2, B', s, d', y, hBe, hy, hyl, hyb, hym, hyc, hyv⟩ := HB.out wr HKW.out kk hkm
       subst hBe
       have hcy := (hyv wr (Keeps.refl _ _)).1
       have HKX : Hid (Keeps (fun _ => False) w2 wr) := H_ ((HK.out.trans HK5.out fun _ _ h => h).trans HK6.out fun _ _ h => h)
       obtain ⟨bq, hbq⟩ : ∃ bq, bq = decide (x = y) := ⟨_, rfl⟩
       have HEQ : Hid (Calls Tryz.prog 64 #[.slice A' q c', .slice B' s d'] wr fun e w' => e = .returned (.bool bq) ∧ w' = wr) := H_ (by
        have hx9 := (HXV.out wr (HK5.out.trans HK6.out fun _ _ h => h)).2
        have hy9 := (hyv wr (Keeps.refl _ _)).2
        rw [hbq, ← bytes_eq HX.out.2.2.1 hyb]
        exact Tryz.bytes_Equal _ _ x y wr (convert_rd wr Tryz.underlying48 Tryz.underlying5 Tryz.underlying9 c' hx9) (convert_rd wr Tryz.underlying48 Tryz.underlying5 Tryz.underlying9 d' hy9))
       have HBQ := H_ (And.intro hbq (And.intro hkk (And.intro hy (And.intro hyl hyb))))
       have HYV := H_ hyv
       clear hkk hy hyl hyb hyv hbq hc7
       have tk : True := trivial
       cases bq with
       | true =>
        go_wp2_with (go_at_call 64; refine HEQ.out.mono ?_; rintro e w6 ⟨rfl, hw6⟩; subst w6)
        go_roundw
        case rel => exact ⟨j + 1, by omega, by go_num, HK6, H_ fun j' k' h1 h2 => by
         rcases Nat.lt_or_ge j' j with h3 | h3
         ·exact HJ.out j' k' h3 h2
         ·obtain rfl : j' = j := by omega
          rw [HBQ.out.2.1] at h2
          injection h2 with h2
          subst h2
          rw [HBQ.out.2.2.1, of_decide_eq_true HBQ.out.1.symm]⟩
        case measure => simp [intOf]; omega
       | false =>
        go_upto_region 15 with (go_at_call 64; refine HEQ.out.mono ?_; rintro e w6 ⟨rfl, hw6⟩; subst w6)
        have HCL : Hid (∀ V, Keeps (fun _ => False) wr V → Calls Tryz.prog 65 #[.slice A' q c'] V fun e w' => ∃ A9 c9, e = .returned (.slice A9 q c9) ∧ Mine V w' 5 A9 q c9 (vb x)) := H_ fun V hV => bclone_any V A' q c' (vb x) (HXV.out V ((HK5.out.trans HK6.out fun _ _ h => h).trans hV fun _ _ h => h)).2 (vb_one _) (by omega)
        have HCY : Hid (∀ V, Keeps (fun _ => False) wr V → Calls Tryz.prog 65 #[.slice B' s d'] V fun e w' => ∃ A9 c9, e = .returned (.slice A9 s c9) ∧ Mine V w' 5 A9 s c9 (vb y)) := H_ fun V hV => bclone_any V B' s d' (vb y) (HYV.out V hV).2 (vb_one _) (by omega)
        refine wp_region_held_drew (S := (fun V => Keeps (fun _ => False) wr V)) (by kernel_rfl) (Keeps.refl _ _).drew (fun h_ => ?_)
        refine tI 0 58 h_ ?_
        try simp only [pu]
        refine tI 2 60 h_ ?_
        try simp only [pu]
        refine tI 3 61 h_ ?_
        try simp only [pu]
        refine tI 4 62 h_ ?_
        try simp only [pu]
        refine tI 5 63 h_ ?_ (hy := .inl ⟨by rfl, by intro w' hSw; have cv := (HYV.out _ hSw).1; go_simp; first | done | rfl⟩)
        try simp only [pu]
        refine rH 1 (some 59) fun K hK => ?_
        go_simp
        refine (HCL.out _ h_).mono ?_
        rintro e w7 ⟨A8, c8, rfl, hm8⟩
        have HM8 := H_ hm8
        have hS7 := h_.trans hm8.2.1 (fun _ _ h => h)
        clear hm8
        refine hK.out _ _ hS7 (fun h_ => ?_)
        clear hK K
        try simp only [pu]
        refine rH 6 (some 64) fun K hK => ?_
        go_simp
        refine (HCY.out _ h_).mono ?_
        rintro e w8 ⟨A9, c9, rfl, hm9⟩
        have HM9 := H_ hm9
        have hS8 := h_.trans hm9.2.1 (fun _ _ h => h)
        clear hm9
        refine hK.out _ _ hS8 (fun h_ => ?_)
        clear hK K
        try simp only [pu]
        refine tI 7 4 h_ ?_
        try simp only [pu]
        refine tI 8 5 h_ ?_
        try simp only [pu]
        refine tI 9 6 h_ ?_
        try simp only [pu]
        refine wpAnyH_done (by kernel_rfl) ?_ _
        have HKF := H_ h_
        have HF : Hid (IsFirst a b i kk) := H_ (first_of HX.out.1 HI.out (j := j) (k := kk) (y := y) (by rw [HLA.out.2, ← HX.out.2.2.2.1]; exact HBQ.out.2.1) HBQ.out.2.2.1 (of_decide_eq_false HBQ.out.1.symm) fun j' k' h1 h2 => HJ.out j' k' h1 (by rw [HX.out.2.2.2.1, ← HLA.out.2]; exact h2))
        go_wp2
        go_ret3
        exact ⟨HKW.out.trans HKF.out fun _ _ h => h, .inr ⟨i, kk, x, y, A8, A9, c8, c9, q, s, HF.out, HX.out.1, HBQ.out.2.2.1, rfl, HX.out.2.1, HBQ.out.2.2.2.1, (Rd.of_own HM8.out.1).keep HM9.out.2.1 (no_out _ _), Rd.of_own HM9.out.1⟩⟩
      ·obtain rfl : j = r := by omega
       go_wp2
       go_roundw
       case rel => exact ⟨i + 1, by omega, by go_num, H_ ((HK.out.trans HK5.out fun _ _ h => h).trans HK6.out fun _ _ h => h), H_ fun i' k' h' => by
        rcases Nat.lt_or_ge i' i with h1 | h1
        ·exact HI.out i' k' h1
        ·obtain rfl : i' = i := by omega
         refine row_none HX.out.1 (fun j' k2 h2 => ?_) k'
         rw [HLA.out.2, ← HX.out.2.2.2.1] at h2
         exact HJ.out j' k2 (by rw [HX.out.2.2.2.2]; exact (List.getElem?_eq_some_iff.1 h2).1) h2⟩
       case measure => simp [intOf]; omega
    ·obtain rfl : i = n := by omega
     go_wp2
     go_ret3
     exact ⟨HOWN.out.2.2.trans HK.out fun _ _ h => h, .inl ⟨rfl, no_clash fun i' h k' => HI.out i' k' (by rw [← HLA.out.1]; exact h)⟩⟩
end Go.Proofs.YtplleficmkfniaaGreatDoor
