/- Texts. -/
import Derived.Test.YtplleficmkfniaaGreatDoorQ33
import Derived.Test.YtplleficmkfniaaGreatDoorQ27
set_option linter.unusedSimpArgs false
set_option maxRecDepth 100000
set_option maxHeartbeats 4000000
namespace Go.Aff
open Go Go.RowKit
def bare (w : World) : World := { w with heap := #[] }
theorem bare_keep (w : World) : Keeps (fun _ => False) (bare w) w := ⟨rfl, rfl, rfl, Nat.zero_le _, fun _ hi _ => absurd hi (Nat.not_lt_zero _)⟩
theorem own_some {w : World} {b s n c : Nat} {e : TypeId} {A : Option Addr} {xs : List Value} (h : w.ownsRow b e s (.slice A n c) n xs) (hn : 0 < n) : ∃ g, A = some ⟨g, 0, none⟩ ∧ (Value.slice A n c).ownBlock = some g := by
 rcases h.2 with ⟨_, h0⟩ | ⟨g, c1, cur, hv, _⟩
 ·omega
 ·injection hv with hv _ _
  subst hv
  exact ⟨g, rfl, rfl⟩
theorem own_room {w : World} {b s n c : Nat} {e : TypeId} {A : Option Addr} {xs : List Value} (h : w.ownsRow b e s (.slice A n c) n xs) : n ≤ c := by
 rcases h.2 with ⟨_, h0⟩ | ⟨g, c1, cur, hv, _, _, hnc, _⟩
 ·omega
 ·injection hv with _ _ hv
  omega
end Go.Aff
namespace Go.Proofs.YtplleficmkfniaaGreatDoor
open Go Go.RowKit Go.Aff Go.Json Go.Sha Go.Dig Go.Book
attribute [local go_sem] Oper.semAt_some
structure RvIn (p : Nat) (D E : Nat → Prop) (w : World) (l : List (List Int)) (v : List Value) (j : JV) : Prop where
 st : Tkg (RgSt p) E w l
 at_ : RAt D w v j
 off : ∀ i, D i → ¬ E i
 room : l.length + 8 * j.nodes ≤ 1099511627776
def ROfPost (p : Nat) (E : Nat → Prop) (w : World) (l : List (List Int)) (j : JV) (e : Ending) (w' : World) : Prop := e = .returned (.agg (vb j.dg).toArray) ∧ ∃ E', Took (RgSt p) E E' w w' (l ++ j.tx)
def ROfAll (p : Nat) (j : JV) : Prop := ∀ x, x ∈ j.items → ∀ (D E : Nat → Prop) (w : World) (l : List (List Int)) (v : List Value), RvIn p D E w l v x → Calls Tryz.prog 61 #[.pointer (some ⟨p, 0, none⟩), .agg v.toArray] w (ROfPost p E w l x)
def RWiPost (p : Nat) (E : Nat → Prop) (w : World) (l : List (List Int)) (j : JV) (e : Ending) (w' : World) : Prop := ∃ A c E', e = .returned (.slice A j.items.length c) ∧ Took (RgSt p) E E' w w' (l ++ withN j j.items.length) ∧ RdD w' A j.items.length (rowOf j) ∧ Out E' A j.items.length ∧ j.items.length ≤ c
structure RWs (p : Nat) (E : Nat → Prop) (w : World) (l : List (List Int)) (j : JV) (N : Nat) (SV : List Value) (k : Nat) (A : Option Addr) (c : Nat) (E1 : Nat → Prop) (W : World) : Prop where
 took : Took (RgSt p) E E1 w W (l ++ withN j k)
 own : W.ownsRow 0 144 32 (.slice A k c) k (dg ((rowOf j).take k))
 lo : ∀ g, (Value.slice A k c).ownBlock = some g → w.heap.size ≤ g ∧ ¬ E1 g
 box : Blk W N 80 SV
 boxE : ¬ E1 N
theorem RWs.next {p : Nat} {E E1 E2 : Nat → Prop} {w W w6 w8 : World} {l : List (List Int)} {j : JV} {N : Nat} {SV : List Value} {k : Nat} {A A' : Option Addr} {c c' : Nat} {o : Obj} (h : RWs p E w l j N SV k A c E1 W) (ht : Took (RgSt p) E1 E2 W w6 (l ++ withN j (k + 1)))
  (ho : w8.ownsRow 0 144 32 (.slice A' (k + 1) c') (k + 1) (dg ((rowOf j).take (k + 1)))) (hg : (w6.alloc o).grownBy w8 (Value.slice A k c).ownBlock) (hb : (Value.slice A' (k + 1) c').ownBlock = (Value.slice A k c).ownBlock ∨ (Value.slice A' (k + 1) c').ownBlock = some (w6.alloc o).heap.size) :
  RWs p E w l j N SV (k + 1) A' c' E2 w8 := by
 have h2 := h.took.trans ht
 have k6 : Keeps (fun _ => False) w6 (w6.alloc o) := (Keeps.refl _ w6).alloc o
 have k8 : Keeps (fun i => (Value.slice A k c).ownBlock = some i) w6 w8 := (k6.mono fun _ _ h => h.elim).trans (Keeps.of_grown hg) fun _ _ h => h
 have hlo : ∀ g, (Value.slice A k c).ownBlock = some g → w.heap.size ≤ g ∧ ¬ E2 g := fun g hg' => ⟨(h.lo g hg').1, fun he => (ht.new g he).elim (h.lo g hg').2 fun h3 => by have := (h.own.lt g hg').2; omega⟩
 have hNl := h.box.lt
 have hN2 : ¬ E2 N := fun he => (ht.new N he).elim h.boxE fun h3 => by omega
 have hNo : (Value.slice A k c).ownBlock ≠ some N := own_blk h.own h.box (by decide)
 refine ⟨h2.more (rgLasts p) k8 fun i hi => hlo i hi, ho, fun g hg' => ?_, k8.blk (ht.keep.blk h.box h.boxE) hNo, hN2⟩
 rcases hb with e | e
 ·exact hlo g (e ▸ hg')
 ·rw [e] at hg'
  injection hg' with hg'
  subst hg'
  rw [World.size_alloc]
  exact ⟨by have := h2.keep.size; omega, fun he => by have := ht.lt _ he; omega⟩
theorem infoRDD : (Tryz.prog.info? 144).map (fun i => (i.zero, i.size, i.bytes)) = some (some (Value.agg (vb (List.replicate 32 0)).toArray), 32, 32) := by kernel_rfl
theorem infoRDz : (Tryz.prog.info? 144).map (fun i => (i.zero, i.size)) = some (some (Value.agg (vb (List.replicate 32 0)).toArray), 32) := by kernel_rfl
theorem rlwithin_any {p : Nat} {D E : Nat → Prop} {w : World} {l : List (List Int)} {v : List Value} {j : JV} (h : RvIn p D E w l v j) (hs : j.sort = 5 ∨ j.sort = 6) (hkl : j.sort = 6 → j.keys.length = j.items.length) (hky : ∀ k ∈ j.keys, k.size ≤ 4194304) (ih : ROfAll p j) :
  Calls Tryz.prog 99 #[.pointer (some ⟨p, 0, none⟩), .agg v.toArray] w (RWiPost p E w l j) := by
 obtain ⟨A, c, B, d, cs, rfl, hA, oA, hB, oB, hI⟩ := h.at_.form
 obtain ⟨N, hN⟩ : ∃ N, N = w.heap.size := ⟨_, rfl⟩
 obtain ⟨n, hn⟩ : ∃ n, n = j.items.length := ⟨_, rfl⟩
 obtain ⟨m, hm⟩ : ∃ m, m = j.keys.length := ⟨_, rfl⟩
 have hroom := h.room
 have hnn := items_nodes j
 have hnl : n ≤ 137438953472 := by omega
 have hm6 : j.sort = 6 → m = n := fun h6 => by rw [hm, hn]; exact hkl h6
 obtain ⟨SV, hSV⟩ : ∃ SV, SV = refC j A c B d := ⟨_, rfl⟩
 have HC : Hid (SV[0]? = some (.int .i64 j.sort) ∧ SV[4]? = some (.slice A n c) ∧ SV[5]? = some (.slice B m d)) := H_ (by rw [hSV, hn, hm]; exact ⟨rfl, rfl, rfl⟩)
 have hlt : ∀ W W' E1 L, Keeps (fun _ => False) w W → Took (RgSt p) E E1 W W' L → ∀ i, D i → i < w.heap.size → ¬ E1 i := fun W W' E1 L k ht i hi hil he => (ht.new i he).elim (h.off i hi) fun h2 => by have := k.size; omega
 have HIT : Hid (∀ W W' E1 L k, Keeps (fun _ => False) w W → Took (RgSt p) E E1 W W' L → k < n → ∃ g o x, A = some ⟨g, o, none⟩ ∧ j.items[k]? = some x ∧ W'.rangeAt g (o + k * 6) (cs k) ∧ (cs k).length = 6 ∧ (L.length + 8 * x.nodes ≤ 1099511627776 → Tkg (RgSt p) E1 W' L → Calls Tryz.prog 61 #[.pointer (some ⟨p, 0, none⟩), .agg (cs k).toArray] W' (ROfPost p E1 W' L x))) := H_ fun W W' E1 L k hk ht hkn => by
  obtain ⟨x, hx⟩ : ∃ x, j.items[k]? = some x := ⟨_, List.getElem?_eq_getElem (by omega)⟩
  have hA2 : RowS W' A n cs := by
   rw [hn]
   exact (hA.keep hk (fun _ _ _ h => h)).keep ht.keep fun h0 a e he => h.off _ (oA h0 a e) he
  obtain ⟨g, o, e, hr⟩ := hA2 (by omega)
  have hxa : RAt (fun i => D i ∧ i < w.heap.size) W' (cs k) x := (((hI k x hx).mono fun i hi hil => (⟨hi, hil⟩ : D i ∧ i < w.heap.size)).stay hk).keep ht.keep fun i hi he => h.off i hi.1 he
  exact ⟨g, o, x, e, hx, hr k hkn, (hI k x hx).len, fun hro hst => ih x (List.mem_of_getElem? hx) _ E1 W' L (cs k) ⟨hst, hxa, fun i hi => hlt W W' E1 L hk ht i hi.1 hi.2, hro⟩⟩
 have HKY : Hid (∀ W W' E1 L k, Keeps (fun _ => False) w W → Took (RgSt p) E E1 W W' L → k < m → ∃ g o s, B = some ⟨g, o, none⟩ ∧ j.keys[k]? = some s ∧ W'.cell? ⟨g, o + k, none⟩ = some (.string s) ∧ s.size ≤ 4194304 ∧ s = keyAt j k) := H_ fun W W' E1 L k hk ht hkm => by
  obtain ⟨s, hsk⟩ : ∃ s, j.keys[k]? = some s := ⟨_, List.getElem?_eq_getElem (by omega)⟩
  obtain ⟨g, o, e, hr⟩ := (((hB.keep hk (no_out _ _)).keep ht.keep (fun h0 a e he => h.off _ (oB h0 a e) he))).2 (by omega)
  refine ⟨g, o, s, e, hsk, by rw [hr k (by omega), List.getElem?_map, hsk]; rfl, hky s (List.mem_of_getElem? hsk), ?_⟩
  unfold keyAt
  rw [List.getD_eq_getElem?_getD, hsk]
  rfl
 have HST : Hid (∀ W, Keeps (fun _ => False) w W → Blk W N 80 SV → RWs p E w l j N SV 0 none 0 E W) := H_ fun W hW hb => ⟨by rw [withN_zero, List.append_nil]; exact (Took.start h.st.st h.st.cel).stay (rgLasts p) hW, World.ownsRow_nil _ _ _ _, (fun g hg => by cases hg), hb, fun he => by have := h.st.lt _ he; omega⟩
 have HTK : Hid (∀ E1 W, Took (RgSt p) E E1 w W (l ++ withN j 0) → True) := H_ fun _ _ _ => trivial
 have HG : Hid (∀ k E1 W, Took (RgSt p) E E1 w W (l ++ withN j k) → Tkg (RgSt p) E1 W (l ++ withN j k)) := H_ fun k E1 W ht => h.st.next ht
 have HRM : Hid (∀ k x, j.items[k]? = some x → (l ++ withN j k).length + 8 * x.nodes + 3 ≤ 1099511627776) := H_ fun k x hx => by
  have := withN_room hx
  rw [List.length_append]
  omega
 have HTX : Hid (∀ x : JV, x.tx.length ≤ 5 * x.nodes) := H_ fun x => by have := tx_few x; omega
 have HBX := H_ (Boxed.made w 80 SV)
 have HNN := H_ (And.intro hN (And.intro hn (And.intro hm hm6)))
 have HS := H_ (And.intro hs hkl)
 rw [← hSV]
 rw [← hN] at HBX
 have hmn : m ≤ 137438953472 := by
  have h1 : j.keys.length ≤ j.items.length ∨ j.keys = [] := by
   rcases hs with h5 | h6
   ·right
    cases j with
    | list l => rfl
    | null | flag | num | text | obj => simp [JV.sort] at h5
   ·left; rw [hkl h6]; exact Nat.le_refl _
  rcases h1 with h1 | h1
  ·omega
  ·rw [hm, h1]; simp
 clear h hA oA hB oB hI hN hn hm hSV hs hkl hky ih hroom hnn hlt hm6
 go_enter Tryz.func99, Tryz.ntmps99
 go_upto_region 2 with fail
 refine gen_codeF (fun W => Boxed w W N 80 SV) (by have hh := HBX.out; have := HNN.out.1; subst this; exact hh) ?_
 intro w1 hb1
 have hNN := HNN.out.1
 rw [← hNN]
 clear hNN
 have HB1 := H_ hb1
 clear hb1
 go_wp2
 go_loopw [5, 6] (fun y t wx => ∃ (k : Nat) (A1 : Option Addr) (c1 : Nat) (E1 : Nat → Prop), k ≤ n ∧ y = .slice A1 k c1 ∧ t = .int .i64 k ∧ Hid (RWs p E w l j N SV k A1 c1 E1 wx)) (fun _ t _ => n - (intOf t).toNat)
 case atStart => exact ⟨0, none, 0, E, by omega, rfl, rfl, H_ (HST.out _ HB1.out.keep HB1.out.blk)⟩
 case round =>
  obtain ⟨k, A1, c1, E1, hkn, rfl, rfl, HR⟩ := hrel
  have c4 := (HR.out.box.cell 4).trans HC.out.2.1
  by_cases hlt : k < n
  ·obtain ⟨g, o, x, hAe, hx, hre, hl6, hcall⟩ := HIT.out w wr E1 _ k (Keeps.refl _ _) HR.out.took hlt
   subst hAe
   have hrm := HRM.out k x hx
   have hcall2 := hcall (by omega) (HG.out k E1 wr HR.out.took)
   unfold ROfPost at hcall2
   have htx := HTX.out x
   have hed := rowEl_dig j (keyAt j k) x
   have HEL := H_ (And.intro (row_snoc HS.out.1 HS.out.2 hx) (withN_snoc hx))
   obtain ⟨SC, hSC⟩ : ∃ SC, SC = cs k := ⟨_, rfl⟩
   rw [← hSC] at hre hl6 hcall2
   have HRE := H_ hre
   have HSI : Hid ((Tryz.prog.info? 80).map (·.size) = some SC.length) := H_ (by rw [hl6]; kernel_rfl)
   obtain ⟨DV, hDV⟩ : ∃ DV, DV = vb x.dg := ⟨_, rfl⟩
   have HD1 : Hid (∀ u ∈ DV, u.oneCell' = true) := H_ (by rw [hDV]; exact vb_one _)
   have HDL : Hid (DV.length = 32) := H_ (by rw [hDV, vb_length]; exact dg_len _)
   have HIN : Hid ((Tryz.prog.info? 144).map (·.size) = some DV.length) := H_ (infoRD DV HDL.out)
   have HXK := H_ hx
   rw [← hDV] at hcall2
   have HCALL := H_ hcall2
   have HDV := H_ hDV
   have HED := H_ hed
   clear hcall hcall2 hx hre hl6 hSC hDV hed
   go_upto_region 6 with (first
    | ((with_reducible show wpList _ _ _ (⟨some 20, _, _, _, _, _⟩ :: _) _ _); refine wpList_load_mid rfl 80 _ rfl _ _ rfl SC _ HRE.out Tryz.underlying80 rfl HSI.out ?_)
    | (go_at_call 61; refine HCALL.out.mono ?_; rintro e w3 ⟨rfl, E3, hT3⟩; have HT3 := H_ hT3; have HZ3 := H_ (Blk.new w3 144 (List.replicate 32 (Value.int .u8 0))); clear hT3)
    | ((with_reducible show wpList _ _ _ (⟨none, Op.store 144 _ _, _, _, _, _⟩ :: _) _ _); refine wpList_store_whole rfl 144 _ _ rfl DV rfl rfl HZ3.out (by rw [HDL.out]; simp) HIN.out HD1.out ?_))
   obtain ⟨P, hP⟩ : ∃ P, P = w3.heap.size := ⟨_, rfl⟩
   have HW4 : Hid (Keeps (fun _ => False) w3 ((w3.alloc (.cells (List.replicate 32 (Value.int .u8 0)).toArray 144)).setRow w3.heap.size DV.toArray) ∧ Blk ((w3.alloc (.cells (List.replicate 32 (Value.int .u8 0)).toArray 144)).setRow w3.heap.size DV.toArray) P 144 DV) := H_ ⟨((Keeps.refl (fun _ => False) w3).alloc _).setRow (.inr (Nat.le_refl _)) _, by rw [hP]; exact HZ3.out.setRow DV⟩
   rw [← hP] at HW4 ⊢
   have HP := H_ hP
   clear hP
   refine gen_codeF (fun W => Keeps (fun _ => False) w3 W ∧ Blk W P 144 DV) HW4.out ?_
   rintro w4 ⟨k4, b4⟩
   have HB4 := H_ (And.intro b4 (k4.blk (HT3.out.keep.blk HR.out.box HR.out.boxE) fun h => h))
   have HT4 := H_ (HT3.out.stay (rgLasts p) k4)
   have HPE : Hid (¬ E3 P ∧ wr.heap.size ≤ P) := H_ ⟨fun he => by have := HT3.out.lt _ he; have := HP.out; omega, by have := HT3.out.keep.size; have := HP.out; omega⟩
   clear k4 b4 HW4 HZ3 c4
   rcases HS.out.1 with h5 | h6
   ·have c0 := (HB4.out.2.cell 0).trans HC.out.1
    rw [h5] at c0
    have HRV : Hid (DV = vb (rowEl j (keyAt j k) x)) := H_ (by unfold rowEl; rw [if_neg (by omega)]; exact HDV.out)
    have HRL := HDL
    have HTF : Hid (Took (RgSt p) E1 E3 wr w4 (l ++ withN j (k + 1))) := H_ (by
     have e : txEl j (keyAt j k) x = x.tx := by unfold txEl; rw [if_neg (by omega), List.append_nil]
     rw [HEL.out.2, e, ← List.append_assoc]
     exact HT4.out)
    have HBF := H_ HB4.out.1
    go_upto_region 8 with fail
    have HOW6 : Hid (MineD (bare w4) (w4.alloc (.cells DV.toArray 144)) 144 A1 k c1 ((rowOf j).take k)) := H_ ⟨(((Keeps.refl (fun _ => False) _).alloc _).own (HTF.out.keep.own HR.out.own fun g hg => (HR.out.lo g hg).2) fun _ _ h => h), row_digs.take k, by rw [List.length_take, row_len HS.out.1 HS.out.2, ← HNN.out.2.1]; omega, (bare_keep w4).alloc _, fun g _ => Nat.zero_le g⟩
    have HRN6 : Hid (RdD (w4.alloc (.cells DV.toArray 144)) (some ⟨w4.heap.size, 0, none⟩) 1 [rowEl j (keyAt j k) x]) := H_ ⟨rfl, HED.out.one, by rw [dg_one, ← HRV.out]; exact Rd.of_blk (Blk.new w4 144 DV) (by rw [HRL.out])⟩
    go_wp2_with (first
     | ((with_reducible show wpList _ _ _ (⟨some 34, _, _, _, _, _⟩ :: _) _ _); refine wpList_load_whole rfl 144 _ rfl _ rfl HBF.out Tryz.underlying144 rfl (infoRD DV HRL.out) ?_)
     | ((with_reducible show wpList _ _ _ (⟨some 35, _, _, _, _, _⟩ :: _) _ _); refine wpList_box_S _ rfl 147 144 (.tmp 34) rfl (.agg (vb (List.replicate 32 0)).toArray) 32 Tryz.underlying147 infoRDz (by decide) (by decide) DV HRL.out rfl ?_)
     | (at_builtin; refine wpList_append_dig (bare w4) _ rfl (.tmp 33) (.tmp 35) 147 rfl 144 (.agg (vb (List.replicate 32 0)).toArray) Tryz.underlying147 infoRDD (by rfl) A1 k c1 _ rfl HOW6.out (some ⟨w4.heap.size, 0, none⟩) 1 1 _ rfl HRN6.out (by omega) ?_; intro A8 c8 w8 ho8 hg8 hb8; have HN8 := H_ (HR.out.next HTF.out (by rw [HEL.out.1]; exact ho8.1) hg8 hb8); clear ho8 hg8 hb8))
    go_roundw
    case rel => exact ⟨k + 1, A8, c8, E3, by omega, rfl, by go_num, HN8⟩
    case measure => simp [intOf]; omega
   ·have c0 := (HB4.out.2.cell 0).trans HC.out.1
    rw [h6] at c0
    obtain ⟨s, hsn⟩ : ∃ s, s = keyAt j k := ⟨_, rfl⟩
    obtain ⟨MV, hMV⟩ : ∃ MV, MV = vb (memD s x.dg) := ⟨_, rfl⟩
    have HM1 : Hid (∀ u ∈ MV, u.oneCell' = true) := H_ (by rw [hMV]; exact vb_one _)
    have HRL : Hid (MV.length = 32) := H_ (by rw [hMV, vb_length]; exact hsh_len _)
    have HIM : Hid ((Tryz.prog.info? 144).map (·.size) = some MV.length) := H_ (infoRD MV HRL.out)
    have HRV : Hid (MV = vb (rowEl j (keyAt j k) x)) := H_ (by unfold rowEl; rw [if_pos h6, hMV, hsn])
    have hnm : m = n := HNN.out.2.2.2 h6
    obtain ⟨g2, o2, s2, hBe, _, _, hs4, hsk⟩ := HKY.out w w4 E3 _ k (Keeps.refl _ _) (HR.out.took.trans HT4.out) (by omega)
    have hs2 : s2 = s := by rw [hsk, hsn]
    subst hs2
    subst hBe
    have HKC : Hid (∀ V, Keeps (fun _ => False) w4 V → V.cell? ⟨g2, o2 + k, none⟩ = some (.string s2) ∧ V.cell? ⟨N, 5, none⟩ = some (.slice (some ⟨g2, o2, none⟩) m d)) := H_ fun V hV => by
     obtain ⟨g3, o3, s3, e3, _, hc3, _, hk3⟩ := HKY.out w V E3 _ k (Keeps.refl _ _) ((HR.out.took.trans HT4.out).stay (rgLasts p) hV) (by omega)
     injection e3 with e3
     injection e3 with e3 e4
     subst e3 e4
     exact ⟨by rw [hc3, hk3, hsk], ((hV.blk HB4.out.2 fun h => h).cell 5).trans HC.out.2.2⟩
    have HME : Hid (∀ V, Keeps (fun _ => False) w4 V → Calls Tryz.prog 124 #[.pointer (some ⟨p, 0, none⟩), .string s2, .agg DV.toArray] V fun e w' => e = .returned (.agg MV.toArray) ∧ ∃ E', Took (RgSt p) E3 E' V w' (l ++ withN j k ++ x.tx ++ [memT s2 x.dg])) := H_ fun V hV => by
     rw [HDV.out, hMV]
     refine rmember_any (((HG.out k E1 wr HR.out.took).next HT4.out).stay (rgLasts p) hV) (by rw [List.length_append]; omega) s2 hs4 x.dg (dg_len _) (dgv_bytes _)
    have HSK : Hid (l ++ withN j k ++ x.tx ++ [memT s2 x.dg] = l ++ withN j (k + 1)) := H_ (by
     have e : txEl j (keyAt j k) x = x.tx ++ [memT s2 x.dg] := by unfold txEl; rw [if_pos h6, hsk]
     rw [HEL.out.2, e]; simp only [List.append_assoc])
    clear hMV hsn hsk hs4
    go_upto_region 7 with fail
    refine wp_region_tail (S := (fun V => Keeps (fun _ => False) w4 V)) 7 (by kernel_rfl) (Keeps.refl _ _).drew (fun h_ => ?_)
    refine tJ 0 25 ?_
    try simp only [pu]
    refine tJ 1 26 ?_
    try simp only [pu]
    refine tT [2, 4, 5] (i := 2) (oi := ⟨some 27, _, _, _, _, _⟩) (v := ?_) rfl (Or.inl ⟨by rfl, ?_⟩) h_ ?_
    rotate_left
    ·intro w' hSw
     have cv := (HKC.out _ hSw).2
     go_simp
     first | done | rfl
    try simp only [pu]
    refine tJ 3 28 ?_
    try simp only [pu]
    refine tJ 4 29 ?_
    try simp only [pu]
    refine tT [5] (i := 5) (oi := ⟨some 30, _, _, _, _, _⟩) (v := ?_) rfl (Or.inl ⟨by rfl, ?_⟩) h_ ?_
    rotate_left
    ·intro w' hSw
     have cv := (HKC.out _ hSw).1
     go_simp
     first | done | rfl
    try simp only [pu]
    refine tT [6] (i := 6) (oi := ⟨some 31, _, _, _, _, _⟩) (v := _) rfl (yieldsIf_load_mid (by rfl) _ _ rfl _ _ rfl DV _ (fun w' h => rdg_rng (h.blk HB4.out.1 fun h => h)) Tryz.underlying144 rfl HIN.out) h_ ?_
    try simp only [pu]
    refine wpAnyT_tail (i := 7) (o := ⟨some 32, _, _, _, _, _⟩) (by kernel_rfl) (by kernel_rfl) rfl (fun K hK => ?_)
    go_simp
    refine (HME.out _ h_).mono ?_
    rintro e w5 ⟨rfl, E5, hT5⟩
    have HT5 := H_ hT5; have HK4 := H_ h_; have HZ5 := H_ (hT5.keep.blk (h_.blk HB4.out.1 fun h => h) HPE.out.1)
    refine hK.out _ _ ?_
    clear hK K
    try simp only [pu]
    refine wpAnyT_tail (i := 8) (o := ⟨none, _, _, _, _, _⟩) (by kernel_rfl) (by kernel_rfl) rfl (fun K hK => ?_)
    refine step_store_whole rfl 144 (.tmp 7) (.tmp 32) rfl MV rfl rfl HZ5.out (by rw [HRL.out, HDL.out]) HIM.out HM1.out ?_
    refine hK.out _ _ ?_
    clear hK K
    try simp only [pu]
    refine wpAnyT_done (by kernel_rfl) ?_
    go_upto_region 8 with fail
    refine gen_codeF (fun W => Took (RgSt p) E1 E5 wr W (l ++ withN j (k + 1)) ∧ Blk W P 144 MV) ⟨?_, HZ5.out.setRow MV⟩ ?_
    ·rw [← HSK.out]
     refine ((HT4.out.stay (rgLasts p) HK4.out).trans HT5.out).more (rgLasts p) (setRow_keep _ _ _) fun i hi => ?_
     subst hi
     exact ⟨HPE.out.2, fun he => (HT5.out.new _ he).elim HPE.out.1 fun h2 => by have := (HK4.out.blk HB4.out.1 fun h => h).lt; omega⟩
    rintro w6 ⟨t6, b6⟩
    have HTF := H_ t6
    have HBF := H_ b6
    clear t6 b6
    have HOW6 : Hid (MineD (bare w6) (w6.alloc (.cells MV.toArray 144)) 144 A1 k c1 ((rowOf j).take k)) := H_ ⟨(((Keeps.refl (fun _ => False) _).alloc _).own (HTF.out.keep.own HR.out.own fun g hg => (HR.out.lo g hg).2) fun _ _ h => h), row_digs.take k, by rw [List.length_take, row_len HS.out.1 HS.out.2, ← HNN.out.2.1]; omega, (bare_keep w6).alloc _, fun g _ => Nat.zero_le g⟩
    have HRN6 : Hid (RdD (w6.alloc (.cells MV.toArray 144)) (some ⟨w6.heap.size, 0, none⟩) 1 [rowEl j (keyAt j k) x]) := H_ ⟨rfl, HED.out.one, by rw [dg_one, ← HRV.out]; exact Rd.of_blk (Blk.new w6 144 MV) (by rw [HRL.out])⟩
    go_wp2_with (first
     | ((with_reducible show wpList _ _ _ (⟨some 34, _, _, _, _, _⟩ :: _) _ _); refine wpList_load_whole rfl 144 _ rfl _ rfl HBF.out Tryz.underlying144 rfl (infoRD MV HRL.out) ?_)
     | ((with_reducible show wpList _ _ _ (⟨some 35, _, _, _, _, _⟩ :: _) _ _); refine wpList_box_S _ rfl 147 144 (.tmp 34) rfl (.agg (vb (List.replicate 32 0)).toArray) 32 Tryz.underlying147 infoRDz (by decide) (by decide) MV HRL.out rfl ?_)
     | (at_builtin; refine wpList_append_dig (bare w6) _ rfl (.tmp 33) (.tmp 35) 147 rfl 144 (.agg (vb (List.replicate 32 0)).toArray) Tryz.underlying147 infoRDD (by rfl) A1 k c1 _ rfl HOW6.out (some ⟨w6.heap.size, 0, none⟩) 1 1 _ rfl HRN6.out (by omega) ?_; intro A8 c8 w8 ho8 hg8 hb8; have HN8 := H_ (HR.out.next HTF.out (by rw [HEL.out.1]; exact ho8.1) hg8 hb8); clear ho8 hg8 hb8))
    go_roundw
    case rel => exact ⟨k + 1, A8, c8, E5, by omega, rfl, by go_num, HN8⟩
    case measure => simp [intOf]; omega
  ·obtain rfl : k = n := by omega
   have HRD : Hid (RdD wr A1 k (rowOf j)) := H_ (by
    have h1 := HR.out.own
    rw [List.take_of_length_le (by rw [row_len HS.out.1 HS.out.2, ← HNN.out.2.1]; exact Nat.le_refl _)] at h1
    exact RdD.of_own h1 row_digs (by rw [row_len HS.out.1 HS.out.2, ← HNN.out.2.1]))
   go_wp2
   go_ret
   unfold RWiPost
   rw [← HNN.out.2.1]
   exact ⟨A1, c1, E1, rfl, HR.out.took, HRD.out, fun hn ad e he => by
    obtain ⟨g, e1, h2⟩ := own_some HR.out.own hn
    rw [e] at e1
    injection e1 with e1
    subst e1
    exact (HR.out.lo g h2).2 he, own_room HR.out.own⟩
end Go.Proofs.YtplleficmkfniaaGreatDoor
