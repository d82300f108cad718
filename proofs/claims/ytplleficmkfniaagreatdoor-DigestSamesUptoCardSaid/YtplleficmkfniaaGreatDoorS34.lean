/- Texts. -/
import Derived.Test.YtplleficmkfniaaGreatDoorS33
import Derived.Test.YtplleficmkfniaaGreatDoorS30
set_option linter.unusedSimpArgs false
set_option maxRecDepth 100000
set_option maxHeartbeats 4000000
namespace Go.Aff
open Go Go.RowKit
def bare (w : World) : World := { w with heap := #[] }
theorem bare_keep (w : World) : Keeps (fun _ => False) (bare w) w := ⟨rfl, rfl, rfl, Nat.zero_le _, fun _ hi _ => absurd hi (Nat.not_lt_zero _)⟩
theorem own_some {w : World} {b s n c : Nat} {e : TypeId} {A : Option Addr} {xs : List Value} (h : w.ownsRow b e s (.slice A n c) n xs) (hn : 0 < n) : ∃ g, A = some ⟨g, 0, none⟩ ∧ (Value.slice A n c).ownBlock = some g := by
 rcases h.2 with ⟨_, h0⟩ | ⟨g, c1, cur, hv, _⟩
 ·omega
 ·injection hv with hv _ _
  subst hv
  exact ⟨g, rfl, rfl⟩
theorem own_room {w : World} {b s n c : Nat} {e : TypeId} {A : Option Addr} {xs : List Value} (h : w.ownsRow b e s (.slice A n c) n xs) : n ≤ c := by
 rcases h.2 with ⟨_, h0⟩ | ⟨g, c1, cur, hv, _, _, hnc, _⟩
 ·omega
 ·injection hv with _ _ hv
  omega
end Go.Aff
namespace Go.Proofs.YtplleficmkfniaaGreatDoor
open Go Go.RowKit Go.Aff Go.Json Go.Sha Go.Dig Go.Book
attribute [local go_sem] Oper.semAt_some
structure RvIn (p : Nat) (D E : Nat → Prop) (w : World) (l : List (List Int)) (v : List Value) (j : JV) : Prop where
 st : Tkg (RgSt p) E w l
 at_ : RAt D w v j
 off : ∀ i, D i → ¬ E i
 room : l.length + 8 * j.nodes ≤ 1099511627776
def ROfPost (p : Nat) (E : Nat → Prop) (w : World) (l : List (List Int)) (j : JV) (e : Ending) (w' : World) : Prop := e = .returned (.agg (vb j.dg).toArray) ∧ ∃ E', Took (RgSt p) E E' w w' (l ++ j.tx)
def ROfAll (p : Nat) (j : JV) : Prop := ∀ x, x ∈ j.items → ∀ (D E : Nat → Prop) (w : World) (l : List (List Int)) (v : List Value), RvIn p D E w l v x → Calls Tryz.prog 61 #[.pointer (some ⟨p, 0, none⟩), .agg v.toArray] w (ROfPost p E w l x)
def RWiPost (p : Nat) (E : Nat → Prop) (w : World) (l : List (List Int)) (j : JV) (e : Ending) (w' : World) : Prop := ∃ A c E', e = .returned (.slice A j.items.length c) ∧ Took (RgSt p) E E' w w' (l ++ withN j j.items.length) ∧ RdD w' A j.items.length (rowOf j) ∧ Out E' A j.items.length ∧ j.items.length ≤ c
structure RWs (p : Nat) (E : Nat → Prop) (w : World) (l : List (List Int)) (j : JV) (N : Nat) (SV : List Value) (k : Nat) (A : Option Addr) (c : Nat) (E1 : Nat → Prop) (W : World) : Prop where
 took : Took (RgSt p) E E1 w W (l ++ withN j k)
 own : W.ownsRow 0 144 32 (.slice A k c) k (dg ((rowOf j).take k))
 lo : ∀ g, (Value.slice A k c).ownBlock = some g → w.heap.size ≤ g ∧ ¬ E1 g
 box : Blk W N 80 SV
 boxE : ¬ E1 N
theorem RWs.next {p : Nat} {E E1 E2 : Nat → Prop} {w W w6 w8 : World} {l : List (List Int)} {j : JV} {N : Nat} {SV : List Value} {k : Nat} {A A' : Option Addr} {c c' : Nat} {o : Obj} (h : RWs p E w l j N SV k A c E1 W) (ht : Took (RgSt p) E1 E2 W w6 (l ++ withN j (k + 1)))
  (ho : w8.ownsRow 0 144 32 (.slice A' (k + 1) c') (k + 1) (dg ((rowOf j).take (k + 1)))) (hg : (w6.alloc o).grownBy w8 (Value.slice A k c).ownBlock) (hb : (Value.slice A' (k + 1) c').ownBlock = (Value.slice A k c).ownBlock ∨ (Value.slice A' (k + 1) c').ownBlock = some (w6.alloc o).heap.size) :
  RWs p E w l j N SV (k + 1) A' c' E2 w8 := by
 have h2 := h.took.trans ht
 have k6 : Keeps (fun _ => False) w6 (w6.alloc o) := (Keeps.refl _ w6).alloc o
 have k8 : Keeps (fun i => (Value.slice A k c).ownBlock = some i) w6 w8 := (k6.mono fun _ _ h => h.elim).trans (Keeps.of_grown hg) fun _ _ h => h
 have hlo : ∀ g, (Value.slice A k c).ownBlock = some g → w.heap.size ≤ g ∧ ¬ E2 g := fun g hg' => ⟨(h.lo g hg').1, fun he => (ht.new g he).elim (h.lo g hg').2 fun h3 => by have := (h.own.lt g hg').2; omega⟩
 have hNl := h.box.lt
 have hN2 : ¬ E2 N := fun he => (ht.new N he).elim h.boxE fun h3 => by omega
 have hNo : (Value.slice A k c).ownBlock ≠ some N := own_blk h.own h.box (by decide)
 refine ⟨h2.more (rgLasts p) k8 fun i hi => hlo i hi, ho, fun g hg' => ?_, k8.blk (ht.keep.blk h.box h.boxE) hNo, hN2⟩
 rcases hb with e | e
 ·exact hlo g (e ▸ hg')
 ·rw [e] at hg'
  injection hg' with hg'
  subst hg'
  rw [World.size_alloc]
  exact ⟨by have := h2.keep.size; omega, fun he => by have := ht.lt _ he; omega⟩
theorem infoRDD : (Tryz.prog.info? 144).map (fun i => (i.zero, i.size, i.bytes)) = some (some (Value.agg (vb (List.replicate 32 0)).toArray), 32, 32) := by kernel_rfl
theorem infoRDz : (Tryz.prog.info? 144).map (fun i => (i.zero, i.size)) = some (some (Value.agg (vb (List.replicate 32 0)).toArray), 32) := by kernel_rfl
theorem rlwithin_any {p : Nat} {D E : Nat → Prop} {w : World} {l : List (List Int)} {v : List Value} {j : JV} (h : RvIn p D E w l v j) (hs : j.sort = 5 ∨ j.sort = 6) (hkl : j.sort = 6 → j.keys.length = j.items.length) (hky : ∀ k ∈ j.keys, k.size ≤ 4194304) (ih : ROfAll p j) :
  Calls Tryz.prog 99 #[.pointer (some ⟨p, 0, none⟩), .agg v.toArray] w (RWiPost p E w l j) := by
 obtain ⟨A, c, B, d, cs, rfl, hA, oA, hB, oB, hI⟩ := h.at_.form
 obtain ⟨N, hN⟩ : ∃ N, N = w.heap.size := ⟨_, rfl⟩
 obtain ⟨n, hn⟩ : ∃ n, n = j.items.length := ⟨_, rfl⟩
 obtain ⟨m, hm⟩ : ∃ m, m = j.keys.length := ⟨_, rfl⟩
 have hroom := h.room
 have hnn := items_nodes j
 have hnl : n ≤ 137438953472 := by omega
 have hm6 : j.sort = 6 → m = n := fun h6 => by rw [hm, hn]; exact hkl h6
 obtain ⟨SV, hSV⟩ : ∃ SV, SV = refC j A c B d := ⟨_, rfl⟩
 have HC : Hid (SV[0]? = some (.int .i64 j.sort) ∧ SV[4]? = some (.slice A n c) ∧ SV[5]? = some (.slice B m d)) := H_ (by rw [hSV, hn, hm]; exact ⟨rfl, rfl, rfl⟩)
 have hlt : ∀ W W' E1 L, Keeps (fun _ => False) w W → Took (RgSt p) E E1 W W' L → ∀ i, D i → i < w.heap.size → ¬ E1 i := fun W W' E1 L k ht i hi hil he => (ht.new i he).elim (h.off i hi) fun h2 => by have := k.size; omega
 have HIT : Hid (∀ W W' E1 L k, Keeps (fun _ => False) w W → Took (RgSt p) E E1 W W' L → k < n → ∃ g o x, A = some ⟨g, o, none⟩ ∧ j.items[k]? = some x ∧ W'.rangeAt g (o + k * 6) (cs k) ∧ (cs k).length = 6 ∧ (L.length + 8 * x.nodes ≤ 1099511627776 → Tkg (RgSt p) E1 W' L → Calls Tryz.prog 61 #[.pointer (some ⟨p, 0, none⟩), .agg (cs k).toArray] W' (ROfPost p E1 W' L x))) := H_ fun W W' E1 L k hk ht hkn => by
  obtain ⟨x, hx⟩ : ∃ x, j.items[k]? = some x := ⟨_, List.getElem?_eq_getElem (by omega)⟩
  have hA2 : RowS W' A n cs := by
   rw [hn]
   exact (hA.keep hk (fun _ _ _ h => h)).keep ht.keep fun h0 a e he => h.off _ (oA h0 a e) he
  obtain ⟨g, o, e, hr⟩ := hA2 (by omega)
  have hxa : RAt (fun i => D i ∧ i < w.heap.size) W' (cs k) x := (((hI k x hx).mono fun i hi hil => (⟨hi, hil⟩ : D i ∧ i < w.heap.size)).stay hk).keep ht.keep fun i hi he => h.off i hi.1 he
  exact ⟨g, o, x, e, hx, hr k hkn, (hI k x hx).len, fun hro hst => ih x (List.mem_of_getElem? hx) _ E1 W' L (cs k) ⟨hst, hxa, fun i hi => hlt W W' E1 L hk ht i hi.1 hi.2, hro⟩⟩
 have HKY : Hid (∀ W W' E1 L k, Keeps (fun _ => False) w W → Took (RgSt p) E E1 W W' L → k < m → ∃ g o s, B = some ⟨g, o, none⟩ ∧ j.keys[k]? = some s ∧ W'.cell? ⟨g, o + k, none⟩ = some (.string s) ∧ s.size ≤ 4194304 ∧ s = keyAt j k) := H_ fun W W' E1 L k hk ht hkm => by
  obtain ⟨s, hsk⟩ : ∃ s, j.keys[k]? = some s := ⟨_, List.getElem?_eq_getElem (by omega)⟩
  obtain ⟨g, o, e, hr⟩ := (((hB.keep hk (no_out _ _)).keep ht.keep (fun h0 a e he => h.off _ (oB h0 a e) he))).2 (by omega)
  refine ⟨g, o, s, e, hsk, by rw [hr k (by omega), List.getElem?_map, hsk]; rfl, hky s (List.mem_of_getElem? hsk), ?_⟩
  unfold keyAt
  rw [List.getD_eq_getElem?_getD, hsk]
  rfl
 have HST : Hid (∀ W, Keeps (fun _ => False) w W → Blk W N 80 SV → RWs p E w l j N SV 0 none 0 E W) := H_ fun W hW hb => ⟨by rw [withN_zero, List.append_nil]; exact (Took.start h.st.st h.st.cel).stay (rgLasts p) hW, World.ownsRow_nil _ _ _ _, (fun g hg => by cases hg), hb, fun he => by have := h.st.lt _ he; omega⟩
 have HTK : Hid (∀ E1 W, Took (RgSt p) E E1 w W (l ++ withN j 0) → True) := H_ fun _ _ _ => trivial
 have HG : Hid (∀ k E1 W, Took (RgSt p) E E1 w W (l ++ withN j k) → Tkg (RgSt p) E1 W (l ++ withN j k)) := H_ fun k E1 W ht => h.st.next ht
 have HRM : Hid (∀ k x, j.items[k]? = some x → (l ++ withN j k).length + 8 * x.nodes + 3 ≤ 1099511627776) := H_ fun k x hx => by
  have := withN_room hx
  rw [List.length_append]
  omega
 have HTX : Hid (∀ x : JV, x.tx.length ≤ 5 * x.nodes) := H_ fun x => by have := tx_few x; omega
 have HBX := H_ (Boxed.made w 80 SV)
 have HNN := H_ (And.intro hN (And.intro hn (And.intro hm hm6)))
 have HS := H_ (And.intro hs hkl)
 rw [← hSV]
 rw [← hN] at HBX
 have hmn : m ≤ 137438953472 := by
  have h1 : j.keys.length ≤ j.items.length ∨ j.keys = [] := by
   rcases hs with h5 | h6
   ·right
    cases j with
    | list l => rfl
    | null | flag | num | text | obj => simp [JV.sort] at h5
   ·left; rw [hkl h6]; exact Nat.le_refl _
  rcases h1 with h1 | h1
  ·omega
  ·rw [hm, h1]; simp
 clear h hA oA hB oB hI hN hn hm hSV hs hkl hky ih hroom hnn hlt hm6
 go_enter Tryz.func99, Tryz.ntmps99
 go_upto_region 2 with fail
 refine gen_codeF (fun W => Boxed w W N 80 SV) (by have hh := HBX.out; have := HNN.out.1; subst this; exact hh) ?_
 intro w1 hb1
 have hNN := HNN.out.1
 rw [← hNN]
 clear hNN
 have HB1 := H_ hb1
 clear hb1
 go_wp2
 go_loopw [5, 6] (fun y t wx => ∃ (k : Nat) (A1 : Option Addr) (c1 : Nat) (E1 : Nat → Prop), k ≤ n ∧ y = .slice A1 k c1 ∧ t = .int .i64 k ∧ Hid (RWs p E w l j N SV k A1 c1 E1 wx)) (fun _ t _ => n - (intOf t).toNat)
 case atStart => exact ⟨0, none, 0, E, by omega, rfl, rfl, H_ (HST.out _ HB1.out.keep HB1.out.blk)⟩
 case round =>
  obtain ⟨k, A1, c1, E1, hkn, rfl, rfl, HR⟩ := hrel
  have c4 := (HR.out.box.cell 4).trans HC.out.2.1
  by_cases hlt : k < n
  ·obtain ⟨g, o, x, hAe, hx, hre, hl6, hcall⟩ := HIT.out w wr E1 _ k (Keeps.refl _ _) HR.out.took hlt
   subst hAe
   have hrm := HRM.out k x hx
   have hcall2 := hcall (by omega) (HG.out k E1 wr HR.out.took)
   unfold ROfPost at hcall2
   have htx := HTX.out x
   have hed := rowEl_dig j (keyAt j k) x
   have HEL := H_ (And.intro (row_snoc HS.out.1 HS.out.2 hx) (withN_snoc hx))
   obtain ⟨SC, hSC⟩ : ∃ SC, SC = cs k := ⟨_, rfl⟩
   rw [← hSC] at hre hl6 hcall2
   have HRE := H_ hre
   have HSI : Hid ((Tryz.prog.info? 80).map (·.size) = some SC.length) := H_ (by rw [hl6]; kernel_rfl)
   obtain ⟨DV, hDV⟩ : ∃ DV, DV = vb x.dg := ⟨_, rfl⟩
   have HD1 : Hid (∀ u ∈ DV, u.oneCell' = true) := H_ (by rw [hDV]; exact vb_one _)
   have HDL : Hid (DV.length = 32) := H_ (by rw [hDV, vb_length]; exact dg_len _)
   have HIN : Hid ((Tryz.prog.info? 144).map (·.size) = some DV.length) := H_ (infoRD DV HDL.out)
   have HXK := H_ hx
   rw [← hDV] at hcall2
   have HCALL := H_ hcall2
   have HDV := H_ hDV
   have HED := H_ hed
   clear hcall hcall2 hx hre hl6 hSC hDV hed
   go_upto_region 6 with (first
    | ((with_reducible show wpList _ _ _ (⟨some 20, _, _, _, _, _⟩ :: _) _ _); refine wpList_load_mid rfl 80 _ rfl _ _ rfl SC _ HRE.out Tryz.underlying80 rfl HSI.out ?_)
    | (go_at_call 61; refine HCALL.out.mono ?_; rintro e w3 ⟨rfl, E3, hT3⟩; have HT3 := H_ hT3; have HZ3 := H_ (Blk.new w3 144 (List.replicate 32 (Value.int .u8 0))); clear hT3)
    | ((with_reducible show wpList _ _ _ (⟨none, Op.store 144 _ _, _, _, _, _⟩ :: _) _ _); refine wpList_store_whole rfl 144 _ _ rfl DV rfl rfl HZ3.out (by rw [HDL.out]; simp) HIN.out HD1.out ?_))
   obtain ⟨P, hP⟩ : ∃ P, P = w3.heap.size := ⟨_, rfl⟩
   have HW4 : Hid (Keeps (fun _ => False) w3 ((w3.alloc (.cells (List.replicate 32 (Value.int .u8 0)).toArray 144)).setRow w3.heap.size DV.toArray) ∧ Blk ((w3.alloc (.cells (List.replicate 32 (Value.int .u8 0)).toArray 144)).setRow w3.heap.size DV.toArray) P 144 DV) := H_ ⟨((Keeps.refl (fun _ => False) w3).alloc _).setRow (.inr (Nat.le_refl _)) _, by rw [hP]; exact HZ3.out.setRow DV⟩
   rw [← hP] at HW4 ⊢
   have HP := H_ hP
   clear hP
   refine gen_codeF (fun W => Keeps (fun _ => False) w3 W ∧ Blk W P 144 DV) HW4.out ?_
   rintro w4 ⟨k4, b4⟩
   have HB4 := H_ (And.intro b4 (k4.blk (HT3.out.keep.blk HR.out.box HR.out.boxE) fun h => h))
   have HT4 := H_ (HT3.out.stay (rgLasts p) k4)
   have HPE : Hid (¬ E3 P ∧ wr.heap.size ≤ P) := H_ ⟨fun he => by have := HT3.out.lt _ he; have := HP.out; omega, by have := HT3.out.keep.size; have := HP.out; omega⟩
   clear k4 b4 HW4 HZ3 c4
   rcases HS.out.1 with h5 | h6
   ·have c0 := (HB4.out.2.cell 0).trans HC.out.1
    rw [h5] at c0
    have HRV : Hid (DV = vb (rowEl j (keyAt j k) x)) := H_ (by unfold rowEl; rw [if_neg (by omega)]; exact HDV.out)
    have HRL := HDL
    have HTF : Hid (Took (RgSt p) E1 E3 wr w4 (l ++ withN j (k + 1))) := H_ (by
     have e : txEl j (keyAt j k) x = x.tx := by unfold txEl; rw [if_neg (by omega), List.append_nil]
     rw [HEL.out.2, e, ← List.append_assoc]
     exact HT4.out)
    have HBF := H_ HB4.out.1
    go_upto_region 8 with fail
    have HOW6 : Hid (MineD (bare w4) (w4.alloc (.cells DV.toArray 144)) 144 A1 k c1 ((rowOf j).take k)) := H_ ⟨(((Keeps.refl (fun _ => False) _).alloc _).own (HTF.out.keep.own HR.out.own fun g hg => (HR.out.lo g hg).2) fun _ _ h => h), row_digs.take k, by rw [List.length_take, row_len HS.out.1 HS.out.2, ← HNN.out.2.1]; omega, (bare_keep w4).alloc _, fun g _ => Nat.zero_le g⟩
    have HRN6 : Hid (RdD (w4.alloc (.cells DV.toArray 144)) (some ⟨w4.heap.size, 0, none⟩) 1 [rowEl j (keyAt j k) x]) := H_ ⟨rfl, HED.out.one, by rw [dg_one, ← HRV.out]; exact Rd.of_blk (Blk.new w4 144 DV) (by rw [HRL.out])⟩
    go_wp2_with (first
     | ((with_reducible show wpList _ _ _ (⟨some 34, _, _, _, _, _⟩ :: _) _ _); refine wpList_load_whole rfl 144 _ rfl _ rfl HBF.out Tryz.underlying144 rfl (infoRD DV HRL.out) ?_)
     | ((with_reducible show wpList _ _ _ (⟨some 35, _, _, _, _, _⟩ :: _) _ _); refine wpList_box_S _ rfl 147 144 (.tmp 34) rfl (.agg (vb (List.replicate 32 0)).toArray) 32 Tryz.underlying147 infoRDz (by decide) (by decide) DV HRL.out rfl ?_)
     | (at_builtin; refine wpList_append_dig (bare w4) _ rfl (.tmp 33) (.tmp 35) 147 rfl 144 (.agg (vb (List.replicate 32 0)).toArray) Tryz.underlying147 infoRDD (by rfl) A1 k c1 _ rfl HOW6.out (some ⟨w4.heap.size, 0, none⟩) 1 1 _ rfl HRN6.out (by omega) ?_; intro A8 c8 w8 ho8 hg8 hb8; have HN8 := H_ (HR.out.next HTF.out (by rw [HEL.out.1]; exact ho8.1) hg8 hb8); clear ho8 hg8 hb8))
    go_roundw
    case rel => exact ⟨k + 1, A8, c8, E3, by omega, rfl, by go_num, HN8⟩
    case measure => simp [intOf]; omega
   ·have c0 := (HB4.out.2.cell 0).trans HC.out.1
    rw [h6] at c0
    obtain ⟨s, hsn⟩ : ∃ s, s = keyAt j k := ⟨_, rfl⟩
    obtain ⟨MV, hMV⟩ : ∃ MV, MV = vb (memD s x.dg) := ⟨_, rfl⟩
    have HM1 : Hid (∀ u ∈ MV, u.oneCell' = true) := H_ (by rw [hMV]; exact vb_one _)
    have HRL : Hid (MV.length = 32) := H_ (by rw [hMV, vb_length]; exact hsh_len _)
    have HIM : Hid ((Tryz.prog.info? 144).map (·.size) = some MV.length) := H_ (infoRD MV HRL.out)
    have HRV : Hid (MV = vb (rowEl j (keyAt j k) x)) := H_ (by unfold rowEl; rw [if_pos h6, hMV, hsn])
    have hnm : m = n := HNN.out.2.2.2 h6
    obtain ⟨g2, o2, s2, hBe, _, _, hs4, hsk⟩ := HKY.out w w4 E3 _ k (Keeps.refl _ _) (HR.out.took.trans HT4.out) (by omega)
    have hs2 : s2 = s := by rw [hsk, hsn]
    subst hs2
    subst hBe
    have HKC : Hid (∀ V, Keeps (fun _ => False) w4 V → V.cell? ⟨g2, o2 + k, none⟩ = some (.string s2) ∧ V.cell? ⟨N, 5, none⟩ = some (.slice (some ⟨g2, o2, none⟩) m d)) := H_ fun V hV => by
     obtain ⟨g3, o3, s3, e3, _, hc3, _, hk3⟩ := HKY.out w V E3 _ k (Keeps.refl _ _) ((HR.out.took.trans HT4.out).stay (rgLasts p) hV) (by omega)
     injection e3 with e3
     injection e3 with e3 e4
     subst e3 e4
     exact ⟨by rw [hc3, hk3, hsk], ((hV.blk HB4.out.2 fun h => h).cell 5).trans HC.out.2.2⟩
    have HME : Hid (∀ V, Keeps (fun _ => False) w4 V → Calls Tryz.prog 124 #[.pointer (some ⟨p, 0, none⟩), .string s2, .agg DV.toArray] V fun e w' => e = .returned (.agg MV.toArray) ∧ ∃ E', Took (RgSt p) E3 E' V w' (l ++ withN j k ++ x.tx ++ [memT s2 x.dg])) := H_ fun V hV => by
     rw [HDV.out, hMV]
     refine rmember_any (((HG.out k E1 wr HR.out.took).next HT4.out).stay (rgLasts p) hV) (by rw [List.length_append]; omega) s2 hs4 x.dg (dg_len _) (dgv_bytes _)
    have HSK : Hid (l ++ withN j k ++ x.tx ++ [memT s2 x.dg] = l ++ withN j (k + 1)) := H_ (by
     have e : txEl j (keyAt j k) x = x.tx ++ [memT s2 x.dg] := by unfold txEl; rw [if_pos h6, hsk]
     rw [HEL.out.2, e]; simp only [List.append_assoc])
    clear hMV hsn hsk hs4
    go_upto_region 7 with fail
    refine wp_region_tail (S := (fun V => Keeps (fun _ => False) w4 V)) 7 (by kernel_rfl) (Keeps.refl _ _).drew (fun h_ => ?_)
    refine tJ 0 25 ?_
    try simp only [pu]
    refine tJ 1 26 ?_
    try simp only [pu]
    refine tT [2, 4, 5] (i := 2) (oi := ⟨some 27, _, _, _, _, _⟩) (v := ?_) rfl (Or.inl ⟨by rfl, ?_⟩) h_ ?_
    rotate_left
    ·intro w' hSw
     have cv := (HKC.out _ hSw).2
     go_simp
     first | done | rfl
    try simp only [pu]
    refine tJ 3 28 ?_
    try simp only [pu]
    refine tJ 4 29 ?_
    try simp only [pu]
    refine tT [5] (i := 5) (oi := ⟨some 30, _, _, _, _, _⟩) (v := ?_) rfl (Or.inl ⟨by rfl, ?_⟩) h_ ?_
    rotate_left
    ·intro w' hSw
     have cv := (HKC.out _ hSw).1
     go_simp
     first | done | rfl
    try simp only [pu]
    refine tT [6] (i := 6) (oi := ⟨some 31, _, _, _, _, _⟩) (v := _) rfl (yieldsIf_load_mid (by rfl) _ _ rfl _ _ rfl DV _ (fun w' h => rdg_rng (h.blk HB4.out.1 fun h => h)) Tryz.underlying144 rfl HIN.out) h_ ?_
    try simp only [pu]
    refine wpAnyT_tail (i := 7) (o := ⟨some 32, _, _, _, _, _⟩) (by kernel_rfl) (by kernel_rfl) rfl (fun K hK => ?_)
    go_simp
    refine (HME.out _ h_).mono ?_
    rintro e w5 ⟨rfl, E5, hT5⟩
    have HT5 := H_ hT5; have HK4 := H_ h_; have HZ5 := H_ (hT5.keep.blk (h_.blk HB4.out.1 fun h => h) HPE.out.1)
    refine hK.out _ _ ?_
    clear hK K
    try simp only [pu]
    refine wpAnyT_tail (i := 8) (o := ⟨none, _, _, _, _, _⟩) (by kernel_rfl) (by kernel_rfl) rfl (fun K hK => ?_)
    refine step_store_whole rfl 144 (.tmp 7) (.tmp 32) rfl MV rfl rfl HZ5.out (by rw [HRL.out, HDL.out]) HIM.out HM1.out ?_
    refine hK.out _ _ ?_
    clear hK K
    try simp only [pu]
    refine wpAnyT_done (by kernel_rfl) ?_
    go_upto_region 8 with fail
    refine gen_codeF (fun W => Took (RgSt p) E1 E5 wr W (l ++ withN j (k + 1)) ∧ Blk W P 144 MV) ⟨?_, HZ5.out.setRow MV⟩ ?_
    ·rw [← HSK.out]
     refine ((HT4.out.stay (rgLasts p) HK4.out).trans HT5.out).more (rgLasts p) (setRow_keep _ _ _) fun i hi => ?_
     subst hi
     exact ⟨HPE.out.2, fun he => (HT5.out.new _ he).elim HPE.out.1 fun h2 => by have := (HK4.out.blk HB4.out.1 fun h => h).lt; omega⟩
    rintro w6 ⟨t6, b6⟩
    have HTF := H_ t6
    have HBF := H_ b6
    clear t6 b6
    have HOW6 : Hid (MineD (bare w6) (w6.alloc (.cells MV.toArray 144)) 144 A1 k c1 ((rowOf j).take k)) := H_ ⟨(((Keeps.refl (fun _ => False) _).alloc _).own (HTF.out.keep.own HR.out.own fun g hg => (HR.out.lo g hg).2) fun _ _ h => h), row_digs.take k, by rw [List.length_take, row_len HS.out.1 HS.out.2, ← HNN.out.2.1]; omega, (bare_keep w6).alloc _, fun g _ => Nat.zero_le g⟩
    have HRN6 : Hid (RdD (w6.alloc (.cells MV.toArray 144)) (some ⟨w6.heap.size, 0, none⟩) 1 [rowEl j (keyAt j k) x]) := H_ ⟨rfl, HED.out.one, by rw [dg_one, ← HRV.out]; exact Rd.of_blk (Blk.new w6 144 MV) (by rw [HRL.out])⟩
    go_wp2_with (first
     | ((with_reducible show wpList _ _ _ (⟨some 34, _, _, _, _, _⟩ :: _) _ _); refine wpList_load_whole rfl 144 _ rfl _ rfl HBF.out Tryz.underlying144 rfl (infoRD MV HRL.out) ?_)
     | ((with_reducible show wpList _ _ _ (⟨some 35, _, _, _, _, _⟩ :: _) _ _); refine wpList_box_S _ rfl 147 144 (.tmp 34) rfl (.agg (vb (List.replicate 32 0)).toArray) 32 Tryz.underlying147 infoRDz (by decide) (by decide) MV HRL.out rfl ?_)
     | (at_builtin; refine wpList_append_dig (bare w6) _ rfl (.tmp 33) (.tmp 35) 147 rfl 144 (.agg (vb (List.replicate 32 0)).toArray) Tryz.underlying147 infoRDD (by rfl) A1 k c1 _ rfl HOW6.out (some ⟨w6.heap.size, 0, none⟩) 1 1 _ rfl HRN6.out (by omega) ?_; intro A8 c8 w8 ho8 hg8 hb8; have HN8 := H_ (HR.out.next HTF.out (by rw [HEL.out.1]; exact ho8.1) hg8 hb8); clear ho8 hg8 hb8))
    go_roundw
    case rel => exact ⟨k + 1, A8, c8, E5, by omega, rfl, by go_num, HN8⟩
    case measure => simp [intOf]; omega
  ·obtain rfl : k = n := by omega
   have HRD : Hid (RdD wr A1 k (rowOf j)) := H_ (by
    have h1 := HR.out.own
    rw [List.take_of_length_le (by rw [row_len HS.out.1 HS.out.2, ← HNN.out.2.1]; exact Nat.le_refl _)] at h1
    exact RdD.of_own h1 row_digs (by rw [row_len HS.out.1 HS.out.2, ← HNN.out.2.1]))
   go_wp2
   go_ret
   unfold RWiPost
   rw [← HNN.out.2.1]
   exact ⟨A1, c1, E1, rfl, HR.out.took, HRD.out, fun hn ad e he => by
    obtain ⟨g, e1, h2⟩ := own_some HR.out.own hn
    rw [e] at e1
    injection e1 with e1
    subst e1
    exact (HR.out.lo g h2).2 he, own_room HR.out.own⟩
structure RBox2 (w : World) (N : Nat) (SV : List Value) (W : World) : Prop where
 keep : Keeps (fun _ => False) w W
 blk : Blk W N 80 SV
 zero : Blk W (N + 1) 144 (List.replicate 32 (Value.int .u8 0))
theorem RBox2.made (w : World) (SV : List Value) : RBox2 w w.heap.size SV ((w.alloc (.cells SV.toArray 80)).alloc (.cells (List.replicate 32 (Value.int .u8 0)).toArray 144)) := by
 refine ⟨((Keeps.refl _ w).alloc _).alloc _, (Blk.new _ _ _).alloc _, ?_⟩
 have h := Blk.new (w.alloc (.cells SV.toArray 80)) 144 (List.replicate 32 (Value.int .u8 0))
 rwa [World.size_alloc] at h
theorem RBox2.stay {w W W' : World} {N : Nat} {SV : List Value} (h : RBox2 w N SV W) (k : Keeps (fun _ => False) W W') : RBox2 w N SV W' := ⟨h.keep.trans k fun _ _ h => h, k.blk h.blk fun h => h, k.blk h.zero fun h => h⟩
theorem rof_null {p : Nat} {D E : Nat → Prop} {w : World} {l : List (List Int)} {v : List Value} (h : RvIn p D E w l v (JV.null)) :
  Calls Tryz.prog 61 #[.pointer (some ⟨p, 0, none⟩), .agg v.toArray] w (ROfPost p E w l (JV.null)) := by
 obtain ⟨A, c, B, d, cs, rfl, hA, oA, hB, oB, hI⟩ := h.at_.form
 unfold ROfPost
 obtain ⟨N, hN⟩ : ∃ N, N = w.heap.size := ⟨_, rfl⟩
 obtain ⟨SV, hSV⟩ : ∃ SV, SV = refC (JV.null) A c B d := ⟨_, rfl⟩
 have HC : Hid (SV[0]? = some (.int .i64 1) ∧ SV[1]? = some (.bool false)) := H_ (by rw [hSV]; exact ⟨rfl, rfl⟩)
 obtain ⟨X, hX⟩ : ∃ X : List Int, X = [110] := ⟨_, rfl⟩
 have hdg : ((JV.null)).dg = hsh X := by rw [JV.dg, hX]; first | done | rfl
 have htx : ((JV.null)).tx = [X] := by rw [JV.tx, hX]; first | done | rfl
 obtain ⟨DV, hDV⟩ : ∃ DV, DV = vb (hsh X) := ⟨_, rfl⟩
 have HD1 : Hid (∀ u ∈ DV, u.oneCell' = true) := H_ (by rw [hDV]; exact vb_one _)
 have HDL : Hid (DV.length = 32) := H_ (by rw [hDV, vb_length]; exact hsh_len _)
 have HIN : Hid ((Tryz.prog.info? 144).map (·.size) = some DV.length) := H_ (infoRD DV HDL.out)
 have HBX := H_ (RBox2.made w SV)
 rw [← hN] at HBX
 have HNE : Hid (∀ i, N ≤ i → ¬ E i) := H_ fun i hi he => by have := h.st.lt _ he; omega
 have HNN := H_ hN
 have HST := H_ h.st
 have HL : Hid (l.length ≤ 1099511627776) := H_ (by have := h.room; omega)
 rw [hdg, htx, ← hDV, ← hSV]
 subst hX
 have HDV := H_ hDV
 clear hDV
 clear h hA oA hB oB hI hdg htx hN hSV
 go_enter Tryz.func61, Tryz.ntmps61
 go_upto_region 1 with fail
 refine gen_codeF (fun W => RBox2 w N SV W) (by have hh := HBX.out; have := HNN.out; subst this; exact hh) ?_
 intro w1 hb1
 have hNN := HNN.out
 rw [← hNN]
 clear hNN
 have c0 := (hb1.blk.cell 0).trans HC.out.1
 have c1 := (hb1.blk.cell 1).trans HC.out.2
 have HB1 := H_ hb1
 clear hb1
 have HHA := H_ (fun W (hW : Keeps (fun _ => False) w W) => rhash_byte HST.out HL.out hW 110 (by omega) HDV.out)
 go_wp2_with (first
  | (go_at_call 127; refine (HHA.out _ HB1.out.keep).mono ?_; rintro e w6 ⟨rfl, E6, hT6⟩; have HT6 := H_ hT6; have HZ6 := H_ (hT6.keep.blk HB1.out.zero (HNE.out _ (by omega))); clear hT6)
  | ((with_reducible show wpList _ _ _ (⟨none, Op.store 144 _ _, _, _, _, _⟩ :: _) _ _); refine wpList_store_whole rfl 144 _ _ rfl DV rfl rfl HZ6.out (by rw [HDL.out]; simp) HIN.out HD1.out ?_))
 refine bodyPost_ret (results_blk rfl _ _ rfl (HZ6.out.setRow DV) Tryz.underlying144 rfl HIN.out) rfl ⟨rfl, E6, ?_⟩
 exact rfin HT6.out HB1.out.keep HB1.out.zero (HNE.out _ (by omega)) (by have := HNN.out; omega) _
theorem rof_yes {p : Nat} {D E : Nat → Prop} {w : World} {l : List (List Int)} {v : List Value} (h : RvIn p D E w l v (JV.flag true)) :
  Calls Tryz.prog 61 #[.pointer (some ⟨p, 0, none⟩), .agg v.toArray] w (ROfPost p E w l (JV.flag true)) := by
 obtain ⟨A, c, B, d, cs, rfl, hA, oA, hB, oB, hI⟩ := h.at_.form
 unfold ROfPost
 obtain ⟨N, hN⟩ : ∃ N, N = w.heap.size := ⟨_, rfl⟩
 obtain ⟨SV, hSV⟩ : ∃ SV, SV = refC (JV.flag true) A c B d := ⟨_, rfl⟩
 have HC : Hid (SV[0]? = some (.int .i64 2) ∧ SV[1]? = some (.bool true)) := H_ (by rw [hSV]; exact ⟨rfl, rfl⟩)
 obtain ⟨X, hX⟩ : ∃ X : List Int, X = [116] := ⟨_, rfl⟩
 have hdg : ((JV.flag true)).dg = hsh X := by rw [JV.dg, hX]; first | done | rfl
 have htx : ((JV.flag true)).tx = [X] := by rw [JV.tx, hX]; first | done | rfl
 obtain ⟨DV, hDV⟩ : ∃ DV, DV = vb (hsh X) := ⟨_, rfl⟩
 have HD1 : Hid (∀ u ∈ DV, u.oneCell' = true) := H_ (by rw [hDV]; exact vb_one _)
 have HDL : Hid (DV.length = 32) := H_ (by rw [hDV, vb_length]; exact hsh_len _)
 have HIN : Hid ((Tryz.prog.info? 144).map (·.size) = some DV.length) := H_ (infoRD DV HDL.out)
 have HBX := H_ (RBox2.made w SV)
 rw [← hN] at HBX
 have HNE : Hid (∀ i, N ≤ i → ¬ E i) := H_ fun i hi he => by have := h.st.lt _ he; omega
 have HNN := H_ hN
 have HST := H_ h.st
 have HL : Hid (l.length ≤ 1099511627776) := H_ (by have := h.room; omega)
 rw [hdg, htx, ← hDV, ← hSV]
 subst hX
 have HDV := H_ hDV
 clear hDV
 clear h hA oA hB oB hI hdg htx hN hSV
 go_enter Tryz.func61, Tryz.ntmps61
 go_upto_region 1 with fail
 refine gen_codeF (fun W => RBox2 w N SV W) (by have hh := HBX.out; have := HNN.out; subst this; exact hh) ?_
 intro w1 hb1
 have hNN := HNN.out
 rw [← hNN]
 clear hNN
 have c0 := (hb1.blk.cell 0).trans HC.out.1
 have c1 := (hb1.blk.cell 1).trans HC.out.2
 have HB1 := H_ hb1
 clear hb1
 have HHA := H_ (fun W (hW : Keeps (fun _ => False) w W) => rhash_byte HST.out HL.out hW 116 (by omega) HDV.out)
 go_wp2_with (first
  | (go_at_call 127; refine (HHA.out _ HB1.out.keep).mono ?_; rintro e w6 ⟨rfl, E6, hT6⟩; have HT6 := H_ hT6; have HZ6 := H_ (hT6.keep.blk HB1.out.zero (HNE.out _ (by omega))); clear hT6)
  | ((with_reducible show wpList _ _ _ (⟨none, Op.store 144 _ _, _, _, _, _⟩ :: _) _ _); refine wpList_store_whole rfl 144 _ _ rfl DV rfl rfl HZ6.out (by rw [HDL.out]; simp) HIN.out HD1.out ?_))
 refine bodyPost_ret (results_blk rfl _ _ rfl (HZ6.out.setRow DV) Tryz.underlying144 rfl HIN.out) rfl ⟨rfl, E6, ?_⟩
 exact rfin HT6.out HB1.out.keep HB1.out.zero (HNE.out _ (by omega)) (by have := HNN.out; omega) _
theorem rof_no {p : Nat} {D E : Nat → Prop} {w : World} {l : List (List Int)} {v : List Value} (h : RvIn p D E w l v (JV.flag false)) :
  Calls Tryz.prog 61 #[.pointer (some ⟨p, 0, none⟩), .agg v.toArray] w (ROfPost p E w l (JV.flag false)) := by
 obtain ⟨A, c, B, d, cs, rfl, hA, oA, hB, oB, hI⟩ := h.at_.form
 unfold ROfPost
 obtain ⟨N, hN⟩ : ∃ N, N = w.heap.size := ⟨_, rfl⟩
 obtain ⟨SV, hSV⟩ : ∃ SV, SV = refC (JV.flag false) A c B d := ⟨_, rfl⟩
 have HC : Hid (SV[0]? = some (.int .i64 2) ∧ SV[1]? = some (.bool false)) := H_ (by rw [hSV]; exact ⟨rfl, rfl⟩)
 obtain ⟨X, hX⟩ : ∃ X : List Int, X = [102] := ⟨_, rfl⟩
 have hdg : ((JV.flag false)).dg = hsh X := by rw [JV.dg, hX]; first | done | rfl
 have htx : ((JV.flag false)).tx = [X] := by rw [JV.tx, hX]; first | done | rfl
 obtain ⟨DV, hDV⟩ : ∃ DV, DV = vb (hsh X) := ⟨_, rfl⟩
 have HD1 : Hid (∀ u ∈ DV, u.oneCell' = true) := H_ (by rw [hDV]; exact vb_one _)
 have HDL : Hid (DV.length = 32) := H_ (by rw [hDV, vb_length]; exact hsh_len _)
 have HIN : Hid ((Tryz.prog.info? 144).map (·.size) = some DV.length) := H_ (infoRD DV HDL.out)
 have HBX := H_ (RBox2.made w SV)
 rw [← hN] at HBX
 have HNE : Hid (∀ i, N ≤ i → ¬ E i) := H_ fun i hi he => by have := h.st.lt _ he; omega
 have HNN := H_ hN
 have HST := H_ h.st
 have HL : Hid (l.length ≤ 1099511627776) := H_ (by have := h.room; omega)
 rw [hdg, htx, ← hDV, ← hSV]
 subst hX
 have HDV := H_ hDV
 clear hDV
 clear h hA oA hB oB hI hdg htx hN hSV
 go_enter Tryz.func61, Tryz.ntmps61
 go_upto_region 1 with fail
 refine gen_codeF (fun W => RBox2 w N SV W) (by have hh := HBX.out; have := HNN.out; subst this; exact hh) ?_
 intro w1 hb1
 have hNN := HNN.out
 rw [← hNN]
 clear hNN
 have c0 := (hb1.blk.cell 0).trans HC.out.1
 have c1 := (hb1.blk.cell 1).trans HC.out.2
 have HB1 := H_ hb1
 clear hb1
 have HHA := H_ (fun W (hW : Keeps (fun _ => False) w W) => rhash_byte HST.out HL.out hW 102 (by omega) HDV.out)
 go_wp2_with (first
  | (go_at_call 127; refine (HHA.out _ HB1.out.keep).mono ?_; rintro e w6 ⟨rfl, E6, hT6⟩; have HT6 := H_ hT6; have HZ6 := H_ (hT6.keep.blk HB1.out.zero (HNE.out _ (by omega))); clear hT6)
  | ((with_reducible show wpList _ _ _ (⟨none, Op.store 144 _ _, _, _, _, _⟩ :: _) _ _); refine wpList_store_whole rfl 144 _ _ rfl DV rfl rfl HZ6.out (by rw [HDL.out]; simp) HIN.out HD1.out ?_))
 refine bodyPost_ret (results_blk rfl _ _ rfl (HZ6.out.setRow DV) Tryz.underlying144 rfl HIN.out) rfl ⟨rfl, E6, ?_⟩
 exact rfin HT6.out HB1.out.keep HB1.out.zero (HNE.out _ (by omega)) (by have := HNN.out; omega) _
theorem rof_num {p : Nat} {D E : Nat → Prop} {w : World} {l : List (List Int)} {v : List Value} {b : Nat} (hb : b < 18446744073709551616) (h : RvIn p D E w l v (JV.num b)) :
  Calls Tryz.prog 61 #[.pointer (some ⟨p, 0, none⟩), .agg v.toArray] w (ROfPost p E w l (JV.num b)) := by
 obtain ⟨A, c, B, d, cs, rfl, hA, oA, hB, oB, hI⟩ := h.at_.form
 unfold ROfPost
 obtain ⟨N, hN⟩ : ∃ N, N = w.heap.size := ⟨_, rfl⟩
 obtain ⟨SV, hSV⟩ : ∃ SV, SV = refC (JV.num b) A c B d := ⟨_, rfl⟩
 have HC : Hid (SV[0]? = some (.int .i64 3) ∧ SV[2]? = some (.int .u64 b)) := H_ (by rw [hSV]; exact ⟨rfl, rfl⟩)
 obtain ⟨X, hX⟩ : ∃ X : List Int, X = 100 :: eight b := ⟨_, rfl⟩
 have hdg : ((JV.num b)).dg = hsh X := by rw [JV.dg, hX]; first | done | rfl
 have htx : ((JV.num b)).tx = [X] := by rw [JV.tx, hX]; first | done | rfl
 obtain ⟨DV, hDV⟩ : ∃ DV, DV = vb (hsh X) := ⟨_, rfl⟩
 have HD1 : Hid (∀ u ∈ DV, u.oneCell' = true) := H_ (by rw [hDV]; exact vb_one _)
 have HDL : Hid (DV.length = 32) := H_ (by rw [hDV, vb_length]; exact hsh_len _)
 have HIN : Hid ((Tryz.prog.info? 144).map (·.size) = some DV.length) := H_ (infoRD DV HDL.out)
 have HBX := H_ (RBox2.made w SV)
 rw [← hN] at HBX
 have HNE : Hid (∀ i, N ≤ i → ¬ E i) := H_ fun i hi he => by have := h.st.lt _ he; omega
 have HNN := H_ hN
 have HST := H_ h.st
 have HL : Hid (l.length ≤ 1099511627776) := H_ (by have := h.room; omega)
 rw [hdg, htx, ← hDV, ← hSV]
 have hXB : IsBytes X := by
  rw [hX]
  intro x hx
  rcases List.mem_cons.1 hx with rfl | hx
  ·omega
  ·exact eight_bytes b x hx
 have hXl : X.length = 8 + 1 := by rw [hX, List.length_cons, eight_len]
 have HJO : Hid (∀ W A c, Rd W A 8 (vb (eight b)) → Calls Tryz.prog 128 #[.int .u8 100, .slice A 8 c, .slice none 0 0] W fun e w' => ∃ g c', e = .returned (.slice (some ⟨g, 0, none⟩) (8 + 1) c') ∧ Hid (Mine W w' 5 (some ⟨g, 0, none⟩) (8 + 1) c' (vb X))) := H_ fun W A c h1 => (rjoined_any W 100 A 8 c (eight b) (eight_len b) h1 (by omega) none 0 0 [] rfl (Rd.nil _ _) (by omega)).mono fun e w' ⟨g, c', h3, h4⟩ => ⟨g, c', by rw [Nat.add_comm 8 1]; exact h3, H_ (by rw [hX, Nat.add_comm 8 1]; rw [List.append_nil] at h4; exact h4)⟩
 have HHA : Hid (∀ w6 w7 g c, Keeps (fun _ => False) w w6 → Mine w6 w7 5 (some ⟨g, 0, none⟩) (8 + 1) c (vb X) → Calls Tryz.prog 127 #[.pointer (some ⟨p, 0, none⟩), .slice (some ⟨g, 0, none⟩) (8 + 1) c] w7 fun e w' => e = .returned (.agg DV.toArray) ∧ ∃ E', Took (RgSt p) E E' w6 w' (l ++ [X])) := H_ fun w6 w7 g c h1 h2 => rhash_mine HST.out HL.out h1 hDV hXl (by omega) h2 hXB
 clear hXB hXl hX hDV
 have HEI := H_ (fun W => reight_any b W hb)
 clear h hA oA hB oB hI hdg htx hN hSV
 go_enter Tryz.func61, Tryz.ntmps61
 go_upto_region 1 with fail
 refine gen_codeF (fun W => RBox2 w N SV W) (by have hh := HBX.out; have := HNN.out; subst this; exact hh) ?_
 intro w1 hb1
 have hNN := HNN.out
 rw [← hNN]
 clear hNN
 have c0 := (hb1.blk.cell 0).trans HC.out.1
 have c2 := (hb1.blk.cell 2).trans HC.out.2
 have HB1 := H_ hb1
 clear hb1
 go_wp2_with (first
  | (go_at_call 129; refine (HEI.out _).mono ?_; rintro e w3 ⟨A3, c3, rfl, HL3⟩; have HK3 := H_ (HB1.out.stay HL3.out.2.1))
  | (go_at_call 128; refine (HJO.out _ A3 c3 (Rd.of_own HL3.out.1)).mono ?_; rintro e w4 ⟨g4, c4, rfl, HM4⟩)
  | (go_at_call 127; refine (HHA.out w3 w4 g4 c4 HK3.out.keep HM4.out).mono ?_; rintro e w6 ⟨rfl, E6, hT6⟩; have HT6 := H_ hT6; have HZ6 := H_ (hT6.keep.blk HK3.out.zero (HNE.out _ (by omega))); clear hT6)
  | ((with_reducible show wpList _ _ _ (⟨none, Op.store 144 _ _, _, _, _, _⟩ :: _) _ _); refine wpList_store_whole rfl 144 _ _ rfl DV rfl rfl HZ6.out (by rw [HDL.out]; simp) HIN.out HD1.out ?_))
 refine bodyPost_ret (results_blk rfl _ _ rfl (HZ6.out.setRow DV) Tryz.underlying144 rfl HIN.out) rfl ⟨rfl, E6, ?_⟩
 exact rfin HT6.out HK3.out.keep HK3.out.zero (HNE.out _ (by omega)) (by have := HNN.out; omega) _
theorem rof_text {p : Nat} {D E : Nat → Prop} {w : World} {l : List (List Int)} {v : List Value} {s : ByteArray} (hb : s.size ≤ 1099511627000) (h : RvIn p D E w l v (JV.text s)) :
  Calls Tryz.prog 61 #[.pointer (some ⟨p, 0, none⟩), .agg v.toArray] w (ROfPost p E w l (JV.text s)) := by
 obtain ⟨A, c, B, d, cs, rfl, hA, oA, hB, oB, hI⟩ := h.at_.form
 unfold ROfPost
 obtain ⟨N, hN⟩ : ∃ N, N = w.heap.size := ⟨_, rfl⟩
 obtain ⟨SV, hSV⟩ : ∃ SV, SV = refC (JV.text s) A c B d := ⟨_, rfl⟩
 have HC : Hid (SV[0]? = some (.int .i64 4) ∧ SV[3]? = some (.string s)) := H_ (by rw [hSV]; exact ⟨rfl, rfl⟩)
 obtain ⟨X, hX⟩ : ∃ X : List Int, X = 115 :: sb s := ⟨_, rfl⟩
 have hdg : ((JV.text s)).dg = hsh X := by rw [JV.dg, hX]; first | done | rfl
 have htx : ((JV.text s)).tx = [X] := by rw [JV.tx, hX]; first | done | rfl
 obtain ⟨DV, hDV⟩ : ∃ DV, DV = vb (hsh X) := ⟨_, rfl⟩
 have HD1 : Hid (∀ u ∈ DV, u.oneCell' = true) := H_ (by rw [hDV]; exact vb_one _)
 have HDL : Hid (DV.length = 32) := H_ (by rw [hDV, vb_length]; exact hsh_len _)
 have HIN : Hid ((Tryz.prog.info? 144).map (·.size) = some DV.length) := H_ (infoRD DV HDL.out)
 have HBX := H_ (RBox2.made w SV)
 rw [← hN] at HBX
 have HNE : Hid (∀ i, N ≤ i → ¬ E i) := H_ fun i hi he => by have := h.st.lt _ he; omega
 have HNN := H_ hN
 have HST := H_ h.st
 have HL : Hid (l.length ≤ 1099511627776) := H_ (by have := h.room; omega)
 rw [hdg, htx, ← hDV, ← hSV]
 have hXB : IsBytes X := by
  rw [hX]
  intro x hx
  rcases List.mem_cons.1 hx with rfl | hx
  ·omega
  ·exact sb_bytes s x hx
 have hXl : X.length = s.size + 1 := by rw [hX, List.length_cons, sb_len]
 have HJO : Hid (∀ W A c, Rd W A s.size (vb (sb s)) → Calls Tryz.prog 128 #[.int .u8 115, .slice A s.size c, .slice none 0 0] W fun e w' => ∃ g c', e = .returned (.slice (some ⟨g, 0, none⟩) (s.size + 1) c') ∧ Hid (Mine W w' 5 (some ⟨g, 0, none⟩) (s.size + 1) c' (vb X))) := H_ fun W A c h1 => (rjoined_any W 115 A s.size c (sb s) (sb_len s) h1 (by omega) none 0 0 [] rfl (Rd.nil _ _) (by omega)).mono fun e w' ⟨g, c', h3, h4⟩ => ⟨g, c', by rw [Nat.add_comm s.size 1]; exact h3, H_ (by rw [hX, Nat.add_comm s.size 1]; rw [List.append_nil] at h4; exact h4)⟩
 have HHA : Hid (∀ w6 w7 g c, Keeps (fun _ => False) w w6 → Mine w6 w7 5 (some ⟨g, 0, none⟩) (s.size + 1) c (vb X) → Calls Tryz.prog 127 #[.pointer (some ⟨p, 0, none⟩), .slice (some ⟨g, 0, none⟩) (s.size + 1) c] w7 fun e w' => e = .returned (.agg DV.toArray) ∧ ∃ E', Took (RgSt p) E E' w6 w' (l ++ [X])) := H_ fun w6 w7 g c h1 h2 => rhash_mine HST.out HL.out h1 hDV hXl (by omega) h2 hXB
 clear hXB hXl hX hDV
 have hcv : ∀ W, (convert 9 48 (.string s)).run Tryz.prog W = .ok (.slice (some ⟨W.heap.size, 0, none⟩) s.size (grownCap W s.size 0 5)) (Lib.bytesWorld W 5 s) := fun W => Lib.run_convert_string_bytes W _ _ 5 s Tryz.underlying9 Tryz.underlying48 Tryz.underlying5
 clear h hA oA hB oB hI hdg htx hN hSV
 go_enter Tryz.func61, Tryz.ntmps61
 go_upto_region 1 with fail
 refine gen_codeF (fun W => RBox2 w N SV W) (by have hh := HBX.out; have := HNN.out; subst this; exact hh) ?_
 intro w1 hb1
 have hNN := HNN.out
 rw [← hNN]
 clear hNN
 have c0 := (hb1.blk.cell 0).trans HC.out.1
 have c3 := (hb1.blk.cell 3).trans HC.out.2
 have HB1 := H_ hb1
 clear hb1
 have HK3 := H_ (HB1.out.stay (bytesW_keep w1 5 s))
 go_wp2_with (first
  | (go_at_call 128; refine (HJO.out (Lib.bytesWorld w1 5 s) _ _ (bytesW_rd w1 5 s)).mono ?_; rintro e w4 ⟨g4, c4, rfl, HM4⟩)
  | (go_at_call 127; refine (HHA.out (Lib.bytesWorld w1 5 s) w4 g4 c4 HK3.out.keep HM4.out).mono ?_; rintro e w6 ⟨rfl, E6, hT6⟩; have HT6 := H_ hT6; have HZ6 := H_ (hT6.keep.blk HK3.out.zero (HNE.out _ (by omega))); clear hT6)
  | ((with_reducible show wpList _ _ _ (⟨none, Op.store 144 _ _, _, _, _, _⟩ :: _) _ _); refine wpList_store_whole rfl 144 _ _ rfl DV rfl rfl HZ6.out (by rw [HDL.out]; simp) HIN.out HD1.out ?_))
 refine bodyPost_ret (results_blk rfl _ _ rfl (HZ6.out.setRow DV) Tryz.underlying144 rfl HIN.out) rfl ⟨rfl, E6, ?_⟩
 exact rfin HT6.out HK3.out.keep HK3.out.zero (HNE.out _ (by omega)) (by have := HNN.out; omega) _
theorem rof_group {p : Nat} {D E : Nat → Prop} {w : World} {l : List (List Int)} {v : List Value} {j : JV} (h : RvIn p D E w l v j) (hs : j.sort = 5 ∨ j.sort = 6) (hkl : j.sort = 6 → j.keys.length = j.items.length) (hky : ∀ k ∈ j.keys, k.size ≤ 4194304) (ih : ROfAll p j) :
  Calls Tryz.prog 61 #[.pointer (some ⟨p, 0, none⟩), .agg v.toArray] w (ROfPost p E w l j) := by
 have hv6 := h.at_.len
 have HSI : Hid ((Tryz.prog.info? 80).map (·.size) = some v.length) := H_ (by rw [hv6]; kernel_rfl)
 obtain ⟨N, hN⟩ : ∃ N, N = w.heap.size := ⟨_, rfl⟩
 obtain ⟨n, hn⟩ : ∃ n, n = j.items.length := ⟨_, rfl⟩
 have hroom := h.room
 have hnn := items_nodes j
 have hC : ∃ A c, v[0]? = some (.int .i64 j.sort) ∧ v[4]? = some (.slice A n c) := by
  obtain ⟨A, c, B, d, cs, rfl, _⟩ := h.at_.form
  rw [hn]
  exact ⟨A, c, rfl, rfl⟩
 obtain ⟨A, c, hc0, hc4⟩ := hC
 have HC := H_ (And.intro hc0 hc4)
 obtain ⟨DR, hDR⟩ : ∃ DR, DR = rowD (rowOf j) := ⟨_, rfl⟩
 have hDRl : DR.length = 32 ∧ IsBytes DR := by rw [hDR]; exact ⟨rowD_len _, rowD_bytes _⟩
 obtain ⟨DV, hDV⟩ : ∃ DV, DV = vb j.dg := ⟨_, rfl⟩
 have HD1 : Hid (∀ u ∈ DV, u.oneCell' = true) := H_ (by rw [hDV]; exact vb_one _)
 have HDL : Hid (DV.length = 32) := H_ (by rw [hDV, vb_length]; exact dg_len _)
 have HIN : Hid ((Tryz.prog.info? 144).map (·.size) = some DV.length) := H_ (infoRD DV HDL.out)
 obtain ⟨RV, hRV⟩ : ∃ RV, RV = vb DR := ⟨_, rfl⟩
 have HR1 : Hid (∀ u ∈ RV, u.oneCell' = true) := H_ (by rw [hRV]; exact vb_one _)
 have HRL : Hid (RV.length = 32) := H_ (by rw [hRV, vb_length]; exact hDRl.1)
 have HIR : Hid ((Tryz.prog.info? 144).map (·.size) = some RV.length) := H_ (infoRD RV HRL.out)
 have htx := tx_with hs hkl
 have hdg := dg_with hs
 rw [← hn, ← hDR] at htx hdg
 have hwa := withN_all j
 rw [← hn] at hwa
 have hal := allTx_len (rowOf j)
 rw [row_len hs hkl, ← hn] at hal
 obtain ⟨LL, hLL⟩ : ∃ LL, LL = l ++ j.tx := ⟨_, rfl⟩
 have HWI : Hid (∀ W, Keeps (fun _ => False) w W → Calls Tryz.prog 99 #[.pointer (some ⟨p, 0, none⟩), .agg v.toArray] W fun e w' => ∃ A c E', e = .returned (.slice A n c) ∧ Hid (Took (RgSt p) E E' W w' (l ++ withN j n) ∧ RdD w' A n (rowOf j) ∧ Out E' A n ∧ n ≤ c)) := H_ fun W hW => by
  refine (rlwithin_any (D := D) (E := E) (l := l) ⟨h.st.stay (rgLasts p) hW, h.at_.stay hW, h.off, h.room⟩ hs hkl hky ih).mono ?_
  rintro e w' ⟨A, c, E', he, h1, h2, h3, h4⟩
  rw [← hn] at he h1 h2 h3 h4
  exact ⟨A, c, E', he, H_ ⟨h1, h2, h3, h4⟩⟩
 have HRO : Hid (∀ W E1 w1 A c, Keeps (fun _ => False) w W → Took (RgSt p) E E1 W w1 (l ++ withN j n) → RdD w1 A n (rowOf j) → Out E1 A n → n ≤ c → Calls Tryz.prog 130 #[.pointer (some ⟨p, 0, none⟩), .slice A n c] w1 fun e w' => e = .returned (.agg RV.toArray) ∧ ∃ E', Took (RgSt p) E1 E' w1 w' (l ++ withN j n ++ allTx (rowOf j))) := H_ fun W E1 w1 A c hW ht h2 h3 h4 => by
  have h5 := rlrow_any n E1 w1 (l ++ withN j n) A c (rowOf j) ⟨(h.st.stay (rgLasts p) hW).next ht, by rw [List.length_append]; omega, h2, h3, h4, by omega⟩
  unfold RRowPost at h5
  rw [← hDR, ← hRV] at h5
  exact h5
 have HGR : Hid (∀ E1 w1, Tkg (RgSt p) E1 w1 (l ++ withN j n ++ allTx (rowOf j)) → Calls Tryz.prog 125 #[.pointer (some ⟨p, 0, none⟩), .int .i64 j.sort, .int .i64 n, .agg RV.toArray] w1 fun e w' => e = .returned (.agg DV.toArray) ∧ ∃ E', Took (RgSt p) E1 E' w1 w' LL) := H_ fun E1 w1 h1 => by
  have h5 := rgroup_any h1 (by rw [List.length_append, List.length_append]; omega) j.sort n (by omega) DR hDRl.1 hDRl.2
  rw [← hdg, ← hRV, ← hDV] at h5
  rw [hLL, htx]
  simpa [List.append_assoc] using h5
 have HBX := H_ (RBox2.made w v)
 rw [← hN] at HBX
 have HNE : Hid (∀ i, N ≤ i → ¬ E i) := H_ fun i hi he => by have := h.st.lt _ he; omega
 have HNN := H_ hN
 have HST := H_ h.st
 unfold ROfPost
 rw [← hDV, ← hLL]
 have HS := H_ hs
 clear h hs hkl hky ih hv6 hN hn hroom hnn hc0 hc4 hDR hDRl hDV hRV htx hdg hwa hal hLL
 obtain ⟨sq, hsq⟩ : ∃ sq, sq = j.sort := ⟨_, rfl⟩
 rw [← hsq] at HC HGR HS
 clear hsq
 have hs1 : (sq == 1) = false := by have := HS.out; simp; omega
 have hs2 : (sq == 2) = false := by have := HS.out; simp; omega
 have hs3 : (sq == 3) = false := by have := HS.out; simp; omega
 have hs4 : (sq == 4) = false := by have := HS.out; simp; omega
 go_enter Tryz.func61, Tryz.ntmps61
 go_upto_region 1 with fail
 refine gen_codeF (fun W => RBox2 w N v W) (by have hh := HBX.out; have := HNN.out; subst this; exact hh) ?_
 intro w1 hb1
 have hNN := HNN.out
 rw [← hNN]
 clear hNN
 have c0 := (hb1.blk.cell 0).trans HC.out.1
 have HB1 := H_ hb1
 clear hb1
 go_upto_region 12 with fail
 go_upto_region 13 with (first
  | ((with_reducible show wpList _ _ _ (⟨some 41, Op.load 80 _, _, _, _, _⟩ :: _) _ _); refine wpList_load_whole rfl 80 _ rfl _ rfl HB1.out.blk Tryz.underlying80 rfl HSI.out ?_)
  | (go_at_call 99; refine (HWI.out _ HB1.out.keep).mono ?_; rintro e w2 ⟨A2, c2, E2, rfl, H2⟩)
  | (go_at_call 130; refine (HRO.out w1 E2 w2 A2 c2 HB1.out.keep H2.out.1 H2.out.2.1 H2.out.2.2.1 H2.out.2.2.2).mono ?_; rintro e w3 ⟨rfl, E3, hT3⟩; have HT3 := H_ hT3; have HZ3 := H_ (Blk.new w3 144 (List.replicate 32 (Value.int .u8 0))); clear hT3)
  | ((with_reducible show wpList _ _ _ (⟨none, Op.store 144 _ _, _, _, _, _⟩ :: _) _ _); refine wpList_store_whole rfl 144 _ _ rfl RV rfl rfl HZ3.out (by rw [HRL.out]; simp) HIR.out HR1.out ?_))
 obtain ⟨P, hP⟩ : ∃ P, P = w3.heap.size := ⟨_, rfl⟩
 have HW4 : Hid (Keeps (fun _ => False) w3 ((w3.alloc (.cells (List.replicate 32 (Value.int .u8 0)).toArray 144)).setRow w3.heap.size RV.toArray) ∧ Blk ((w3.alloc (.cells (List.replicate 32 (Value.int .u8 0)).toArray 144)).setRow w3.heap.size RV.toArray) P 144 RV) := H_ ⟨((Keeps.refl (fun _ => False) w3).alloc _).setRow (.inr (Nat.le_refl _)) _, by rw [hP]; exact HZ3.out.setRow RV⟩
 rw [← hP] at HW4 ⊢
 refine gen_codeF (fun W => Keeps (fun _ => False) w3 W ∧ Blk W P 144 RV) HW4.out ?_
 rintro w4 ⟨k4, b4⟩
 have HT13 : Hid (Took (RgSt p) E E3 w1 w4 (l ++ withN j n ++ allTx (rowOf j))) := H_ ((H2.out.1.trans HT3.out).stay (rgLasts p) k4)
 have HNS : Hid (∀ i, N ≤ i → i < w1.heap.size → ¬ E3 i) := H_ fun i h1 h2 he => (HT13.out.new i he).elim (HNE.out i h1) fun h3 => by omega
 have HB4 : Hid (Blk w4 N 80 v ∧ Blk w4 (N + 1) 144 (List.replicate 32 (Value.int .u8 0)) ∧ Blk w4 P 144 RV) := H_ ⟨HT13.out.keep.blk HB1.out.blk (HNE.out _ (Nat.le_refl _)), HT13.out.keep.blk HB1.out.zero (HNE.out _ (by omega)), b4⟩
 have d0 := (HB4.out.1.cell 0).trans HC.out.1
 have d4 := (HB4.out.1.cell 4).trans HC.out.2
 have HG4 := H_ ((HST.out.stay (rgLasts p) HB1.out.keep).next HT13.out)
 clear k4 b4 HW4 hP c0
 go_wp2_with (first
  | ((with_reducible show wpList _ _ _ (⟨some 50, _, _, _, _, _⟩ :: _) _ _); refine wpList_load_whole rfl 144 _ rfl _ rfl HB4.out.2.2 Tryz.underlying144 rfl HIR.out ?_)
  | (go_at_call 125; refine (HGR.out E3 w4 HG4.out).mono ?_; rintro e w6 ⟨rfl, E6, hT6⟩; have HT6 := H_ hT6; have HZ6 := H_ (hT6.keep.blk HB4.out.2.1 (HNS.out _ (by omega) HB1.out.zero.lt)); clear hT6)
  | ((with_reducible show wpList _ _ _ (⟨none, Op.store 144 _ _, _, _, _, _⟩ :: _) _ _); refine wpList_store_whole rfl 144 _ _ rfl DV rfl rfl HZ6.out (by rw [HDL.out]; simp) HIN.out HD1.out ?_))
 refine bodyPost_ret (results_blk rfl _ _ rfl (HZ6.out.setRow DV) Tryz.underlying144 rfl HIN.out) rfl ⟨rfl, E6, ?_⟩
 refine ((Took.begin HB1.out.keep HT13.out).trans HT6.out).more (rgLasts p) (setRow_keep _ _ _) fun i hi => ?_
 subst hi
 exact ⟨by have := HNN.out; omega, fun he => (HT6.out.new _ he).elim (HNS.out _ (by omega) HB1.out.zero.lt) fun h3 => by have := HB4.out.2.1.lt; omega⟩
theorem rlof_any (p : Nat) : ∀ (j : JV), JOk j → Fine j → j.bytes ≤ 4194304 → ∀ (D E : Nat → Prop) (w : World) (l : List (List Int)) (v : List Value), RvIn p D E w l v j → Calls Tryz.prog 61 #[.pointer (some ⟨p, 0, none⟩), .agg v.toArray] w (ROfPost p E w l j) := by
 intro j hok
 induction hok with
 | mk j h1 h2 hp hr ht h ih =>
  intro hf hb D E w l v hv
  have hall : ROfAll p j := fun x hx D' E' w' l' v' hv' => ih x hx (hf.item hx) (Nat.le_trans (item_bytes hx) hb) D' E' w' l' v' hv'
  have hky : ∀ k ∈ j.keys, k.size ≤ 4194304 := fun k hk => Nat.le_trans (key_le hk) hb
  cases j with
  | null => exact rof_null hv
  | flag b => cases b with
   | true => exact rof_yes hv
   | false => exact rof_no hv
  | num b => exact rof_num hf.num hv
  | text s => exact rof_text (by rw [JV.bytes] at hb; omega) hv
  | list l => exact rof_group hv (.inl rfl) h2 hky hall
  | obj ks l => exact rof_group hv (.inr rfl) h2 hky hall
end Go.Proofs.YtplleficmkfniaaGreatDoor
