/- Texts. -/
import Derived.Test.YtplleficmkfniaaGreatDoorS38
import Derived.Test.YtplleficmkfniaaGreatDoorS37
set_option linter.unusedSimpArgs false
set_option maxRecDepth 100000
set_option maxHeartbeats 4000000
namespace Go.Json
inductive Slim : JV → Prop
 | mk (j : JV) (h1 : j.items.length ≤ 1099511627776) (h2 : j.keys.length ≤ 1099511627776) (h : ∀ x, x ∈ j.items → Slim x) : Slim j
theorem Slim.items {j : JV} (h : Slim j) : ∀ x, x ∈ j.items → Slim x := by cases h; assumption
theorem Slim.len {j : JV} (h : Slim j) : j.items.length ≤ 1099511627776 ∧ j.keys.length ≤ 1099511627776 := by
 cases h
 exact ⟨by assumption, by assumption⟩
end Go.Json
namespace Go.Proofs.YtplleficmkfniaaGreatDoor
open Go Go.RowKit Go.Aff Go.Json Go.Shelf
theorem bo_null (w : World) : (binOp .eql 93 (.iface 217 (.agg #[])) (.iface 217 (.agg #[]))).run Tryz.prog w = .ok (.bool true) w := by kernel_rfl
theorem bo_flag (w : World) (a b : Bool) : (binOp .eql 93 (.iface 218 (.bool a)) (.iface 218 (.bool b))).run Tryz.prog w = .ok (.bool (a == b)) w := by kernel_rfl
theorem bo_num (w : World) (a b : Nat) : (binOp .eql 93 (.iface 223 (.float .f64 a)) (.iface 223 (.float .f64 b))).run Tryz.prog w = .ok (.bool (Ieee.double.order a b == some .eq)) w := by kernel_rfl
theorem bo_text (w : World) (a b : ByteArray) : (binOp .eql 93 (.iface 224 (.string a)) (.iface 224 (.string b))).run Tryz.prog w = .ok (.bool (a == b)) w := by kernel_rfl
theorem ba_beq (a b : ByteArray) : (a == b) = true ↔ a = b := by
 cases a with | mk a => cases b with | mk b =>
  show (a == b) = true ↔ _
  rw [beq_iff_eq]
  simp
theorem same_any (j : JV) : ∀ (k : JV) (D E : Nat → Prop) (w : World) (v v2 : Value), Slim j → JAt D w v j → JAt E w v2 k → ∃ b, (b = true ↔ j = k) ∧ ∀ W, Keeps (fun _ => False) w W →
  Calls Tryz.prog 41 #[.agg #[v], .agg #[v2]] W fun e w' => e = .returned (.bool b) ∧ Keeps (fun _ => False) W w' := by
 have main : ∀ (j : JV), (∀ x, x ∈ j.items → ∀ (k : JV) (D E : Nat → Prop) (w : World) (v v2 : Value), Slim x → JAt D w v x → JAt E w v2 k → ∃ b, (b = true ↔ x = k) ∧ ∀ W, Keeps (fun _ => False) w W →
   Calls Tryz.prog 41 #[.agg #[v], .agg #[v2]] W fun e w' => e = .returned (.bool b) ∧ Keeps (fun _ => False) W w') →
   ∀ (k : JV) (D E : Nat → Prop) (w : World) (v v2 : Value), Slim j → JAt D w v j → JAt E w v2 k → ∃ b, (b = true ↔ j = k) ∧ ∀ W, Keeps (fun _ => False) w W →
   Calls Tryz.prog 41 #[.agg #[v], .agg #[v2]] W fun e w' => e = .returned (.bool b) ∧ Keeps (fun _ => False) W w' := by
  intro j ih k D E w v v2 hs h h2
  have hq : ∀ W, Keeps (fun _ => False) w W → ∃ T x T2 x2 A c A2 c2, v = .iface T x ∧ v2 = .iface T2 x2 ∧ SameQ W T x T2 x2 j k A c A2 c2 := fun W hW => sameQ (h.stay hW) (h2.stay hW) hs.len.2
  by_cases h3 : j.sort = k.sort
  ·have hsq : (j.sort != k.sort) = false := by simp [h3]
   by_cases h4 : j.items.length = k.items.length
   ·have hlq : ((j.items.length : Int) != (k.items.length : Int)) = false := by simp [h4]
    by_cases h5 : j.keys = k.keys
    ·have hkq : decide (j.keys = k.keys) = true := by simp [h5]
     -- what a group needs
     have grp : ∃ n I ci I2 ci2, j.items.length = n ∧ k.items.length = n ∧ n ≤ 1099511627776 ∧ (∀ W, Keeps (fun _ => False) w W → Calls Tryz.prog 84 #[.agg #[v]] W fun e w' => e = .returned (.slice I n ci) ∧ Keeps (fun _ => False) W w') ∧
       (∀ W, Keeps (fun _ => False) w W → Calls Tryz.prog 84 #[.agg #[v2]] W fun e w' => e = .returned (.slice I2 n ci2) ∧ Keeps (fun _ => False) W w') ∧
       ∃ bb : Nat → Bool, ∀ W, Keeps (fun _ => False) w W → ∀ i, i < n → ∃ g o U y g2 o2 U2 y2 b, I = some ⟨g, o, none⟩ ∧ W.cell? ⟨g, o + i, none⟩ = some (.iface U y) ∧ I2 = some ⟨g2, o2, none⟩ ∧ W.cell? ⟨g2, o2 + i, none⟩ = some (.iface U2 y2) ∧ (b = true ↔ j.items[i]? = k.items[i]?) ∧
        ∀ W2, Keeps (fun _ => False) W W2 → Calls Tryz.prog 41 #[.agg #[.iface U y], .agg #[.iface U2 y2]] W2 fun e w' => e = .returned (.bool b) ∧ Keeps (fun _ => False) W2 w' := by
      obtain ⟨I, ci, vs, hit, hc⟩ := items_inv h
      obtain ⟨I2, ci2, vs2, hit2, hc2⟩ := items_inv h2
      refine ⟨_, I, ci, I2, ci2, rfl, h4.symm, hs.len.1, hc, by rw [h4]; exact hc2, fun _ => true, fun W hW i hi => ?_⟩
      obtain ⟨g, o, rfl, q1⟩ := hit.rd.2 (by omega)
      obtain ⟨g2, o2, rfl, q2⟩ := hit2.rd.2 (by omega)
      obtain ⟨a, ha⟩ : ∃ a, vs[i]? = some a := ⟨_, List.getElem?_eq_getElem (by rw [hit.rd.1]; exact hi)⟩
      obtain ⟨a2, ha2⟩ : ∃ a, vs2[i]? = some a := ⟨_, List.getElem?_eq_getElem (by rw [hit2.rd.1]; omega)⟩
      obtain ⟨z, hz⟩ : ∃ a, j.items[i]? = some a := ⟨_, List.getElem?_eq_getElem hi⟩
      obtain ⟨z2, hz2⟩ : ∃ a, k.items[i]? = some a := ⟨_, List.getElem?_eq_getElem (by omega)⟩
      have r1 := hit.at_ i a z ha hz
      have r2 := hit2.at_ i a2 z2 ha2 hz2
      obtain ⟨b, hb, hcall⟩ := ih z (List.mem_of_getElem? hz) z2 D E w a a2 (hs.items z (List.mem_of_getElem? hz)) r1 r2
      obtain ⟨U, y, rfl⟩ := r1.iface
      obtain ⟨U2, y2, rfl⟩ := r2.iface
      refine ⟨g, o, U, y, g2, o2, U2, y2, b, rfl, cell_keep hW ((q1 i hi).trans ha), rfl, cell_keep hW ((q2 i (by omega)).trans ha2), ?_, fun W2 hW2 => hcall W2 (hW.trans hW2 (fun _ _ h => h))⟩
      rw [hz, hz2, hb]
      exact ⟨fun e => by rw [e], fun e => by injection e⟩
     have hex : ∀ {T x T2 x2}, v = .iface T x → v2 = .iface T2 x2 → ∀ W, Keeps (fun _ => False) w W → ∃ A c A2 c2, SameQ W T x T2 x2 j k A c A2 c2 := fun {T x T2 x2} e1 e2 W hW => by
      obtain ⟨T', x', T2', x2', A, c, A2, c2, e3, e4, hQ⟩ := hq W hW
      rw [e1] at e3
      rw [e2] at e4
      cases e3
      cases e4
      exact ⟨A, c, A2, c2, hQ⟩
     cases h with
     | null =>
      cases h2 with
      | null =>
       refine ⟨true, by simp, fun W hW => ?_⟩
       obtain ⟨A, c, A2, c2, hQ⟩ := hex rfl rfl W hW
       exact same_scalar W _ _ _ _ _ _ A c A2 c2 hQ hsq hlq hkq (fun W => as_null_list _ W) (fun W => as_null_obj _ W) (true) (fun W => bo_null W)
      | _ => exact absurd h3 (by simp [JV.sort])
     | flag b =>
      cases h2 with
      | flag b2 =>
       refine ⟨b == b2, by simp, fun W hW => ?_⟩
       obtain ⟨A, c, A2, c2, hQ⟩ := hex rfl rfl W hW
       exact same_scalar W _ _ _ _ _ _ A c A2 c2 hQ hsq hlq hkq (fun W => as_flag_list _ W) (fun W => as_flag_obj _ W) (b == b2) (fun W => bo_flag W b b2)
      | _ => exact absurd h3 (by simp [JV.sort])
     | num b hf hz hl =>
      cases h2 with
      | num b2 hf2 hz2 hl2 =>
       refine ⟨Ieee.double.order b b2 == some .eq, by rw [Go.Flt.order_eq hf hf2 hl hl2 hz hz2]; simp, fun W hW => ?_⟩
       obtain ⟨A, c, A2, c2, hQ⟩ := hex rfl rfl W hW
       exact same_scalar W _ _ _ _ _ _ A c A2 c2 hQ hsq hlq hkq (fun W => as_num_list _ W) (fun W => as_num_obj _ W) (Ieee.double.order b b2 == some .eq) (fun W => bo_num W b b2)
      | _ => exact absurd h3 (by simp [JV.sort])
     | text s =>
      cases h2 with
      | text s2 =>
       refine ⟨s == s2, by rw [ba_beq]; simp, fun W hW => ?_⟩
       obtain ⟨A, c, A2, c2, hQ⟩ := hex rfl rfl W hW
       exact same_scalar W _ _ _ _ _ _ A c A2 c2 hQ hsq hlq hkq (fun W => as_text_list _ W) (fun W => as_text_obj _ W) (s == s2) (fun W => bo_text W s s2)
      | _ => exact absurd h3 (by simp [JV.sort])
     | @list bb A c vs l hD hb hr ho hl =>
      cases h2 with
      | @list bb2 A2 c2 vs2 l2 hD2 hb2 hr2 ho2 hl2 =>
       obtain ⟨n, I, ci, I2, ci2, hn, hn2, hnb, i1, i2, _, hI⟩ := grp
       have hd : ∃ b : Bool, b = true ↔ l = l2 := ⟨@decide (l = l2) (Classical.propDecidable _), by simp⟩
       obtain ⟨b, hbe⟩ := hd
       refine ⟨b, by rw [hbe]; simp, fun W hW => ?_⟩
       obtain ⟨A, c, A2, c2, hQ⟩ := hex rfl rfl W hW
       refine (same_list W _ _ _ _ _ _ A c A2 c2 hQ hsq hlq hkq (fun W => as_list_list _ W) (fun W => as_list_obj _ W) n hn hn2 hnb I ci I2 ci2 (fun W2 hW2 => i1 W2 (hW.trans hW2 (fun _ _ h => h))) (fun W2 hW2 => i2 W2 (hW.trans hW2 (fun _ _ h => h))) (hI W hW)).mono fun e w' hh => ?_
       obtain ⟨⟨b', he, hb'⟩, hk'⟩ := hh
       refine ⟨?_, hk'⟩
       rw [he]
       congr 2
       exact Bool.eq_iff_iff.2 (hb'.trans hbe.symm)
      | _ => exact absurd h3 (by simp [JV.sort])
     | @obj bb A B c d vs ks l hD hb hk hok hr ho hl =>
      cases h2 with
      | @obj bb2 A2 B2 c2 d2 vs2 ks2 l2 hD2 hb2 hk2 hok2 hr2 ho2 hl2 =>
       obtain ⟨n, I, ci, I2, ci2, hn, hn2, hnb, i1, i2, _, hI⟩ := grp
       have hd : ∃ b : Bool, b = true ↔ l = l2 := ⟨@decide (l = l2) (Classical.propDecidable _), by simp⟩
       obtain ⟨b, hbe⟩ := hd
       refine ⟨b, by rw [hbe]; have h5' : ks = ks2 := h5; simp [h5'], fun W hW => ?_⟩
       obtain ⟨A, c, A2, c2, hQ⟩ := hex rfl rfl W hW
       refine (same_object W _ _ _ _ _ _ A c A2 c2 hQ hsq hlq hkq (fun W => as_obj_list _ W) (fun W => as_obj_obj _ W) n hn hn2 hnb I ci I2 ci2 (fun W2 hW2 => i1 W2 (hW.trans hW2 (fun _ _ h => h))) (fun W2 hW2 => i2 W2 (hW.trans hW2 (fun _ _ h => h))) (hI W hW)).mono fun e w' hh => ?_
       obtain ⟨⟨b', he, hb'⟩, hk'⟩ := hh
       refine ⟨?_, hk'⟩
       rw [he]
       congr 2
       exact Bool.eq_iff_iff.2 (hb'.trans hbe.symm)
      | _ => exact absurd h3 (by simp [JV.sort])
    ·refine ⟨false, by simp; rintro rfl; exact h5 rfl, fun W hW => ?_⟩
     obtain ⟨T, x, T2, x2, A, c, A2, c2, rfl, rfl, hQ⟩ := hq W hW
     exact same_keys W _ _ _ _ _ _ A c A2 c2 hQ hsq hlq (by simp [h5])
   ·refine ⟨false, by simp; rintro rfl; exact h4 rfl, fun W hW => ?_⟩
    obtain ⟨T, x, T2, x2, A, c, A2, c2, rfl, rfl, hQ⟩ := hq W hW
    exact same_lens W _ _ _ _ _ _ A c A2 c2 hQ hsq (by simp; omega)
  ·refine ⟨false, by simp; rintro rfl; exact h3 rfl, fun W hW => ?_⟩
   obtain ⟨T, x, T2, x2, A, c, A2, c2, rfl, rfl, hQ⟩ := hq W hW
   exact same_sorts W _ _ _ _ _ _ A c A2 c2 hQ (by simp [h3])
 refine JV.ind (P := fun j => ∀ (k : JV) (D E : Nat → Prop) (w : World) (v v2 : Value), Slim j → JAt D w v j → JAt E w v2 k → ∃ b, (b = true ↔ j = k) ∧ ∀ W, Keeps (fun _ => False) w W →
  Calls Tryz.prog 41 #[.agg #[v], .agg #[v2]] W fun e w' => e = .returned (.bool b) ∧ Keeps (fun _ => False) W w') ?_ ?_ ?_ ?_ ?_ ?_ j
 ·exact main _ fun x hx => by cases hx
 ·exact fun b => main _ fun x hx => by cases hx
 ·exact fun b => main _ fun x hx => by cases hx
 ·exact fun b => main _ fun x hx => by cases hx
 ·exact fun l ih => main _ ih
 ·exact fun ks l ih => main _ ih
theorem tsame_any {D E : Nat → Prop} {w : World} {p q : Nat} {v v2 : Value} {j k : JV} (hs : Slim j) (h : TreeAt D w p v j) (h2 : TreeAt E w q v2 k) : ∃ b, (b = true ↔ j = k) ∧ ∀ W, Keeps (fun _ => False) w W →
  Calls Tryz.prog 24 #[.pointer (some ⟨p, 0, none⟩), .pointer (some ⟨q, 0, none⟩)] W fun e w' => e = .returned (.bool b) ∧ Keeps (fun _ => False) W w' := by
 obtain ⟨b, hb, hc⟩ := same_any j k D E w v v2 hs h.2.2 h2.2.2
 refine ⟨b, hb, fun W hW => ?_⟩
 obtain ⟨T, x, rfl⟩ := h.2.2.iface
 obtain ⟨T2, x2, rfl⟩ := h2.2.2.iface
 have HC := H_ hc
 have HR1 : Hid (∀ W, Keeps (fun _ => False) w W → Calls Tryz.prog 40 #[.pointer (some ⟨p, 0, none⟩)] W fun e w' => e = .returned (.agg #[.iface T x]) ∧ Keeps (fun _ => False) W w') := H_ fun W hW => root_any W p T x (hW.blk h.2.1 (fun h => h))
 have HR2 : Hid (∀ W, Keeps (fun _ => False) w W → Calls Tryz.prog 40 #[.pointer (some ⟨q, 0, none⟩)] W fun e w' => e = .returned (.agg #[.iface T2 x2]) ∧ Keeps (fun _ => False) W w') := H_ fun W hW => root_any W q T2 x2 (hW.blk h2.2.1 (fun h => h))
 have HK := H_ hW
 have tk : True := trivial
 clear h h2 hc hb hs hW
 go_enter Tryz.func24, Tryz.ntmps24
 go_wp2_with (first
  | (go_at_call 40; have _t := tk; clear tk; refine (HR1.out _ HK.out).mono ?_; rintro e w1 ⟨rfl, hk1⟩; have HK1 := H_ hk1; clear hk1 _t)
  | (go_at_call 40; refine (HR2.out _ (HK.out.trans HK1.out (fun _ _ h => h))).mono ?_; rintro e w2 ⟨rfl, hk2⟩; have HK2 := H_ (HK1.out.trans hk2 (fun _ _ h => h)); clear hk2)
  | (go_at_call 41; refine (HC.out _ (HK.out.trans HK2.out (fun _ _ h => h))).mono ?_; rintro e w3 ⟨rfl, hk3⟩; have HK3 := H_ (HK2.out.trans hk3 (fun _ _ h => h)); clear hk3))
 go_ret
 exact ⟨rfl, HK3.out⟩
end Go.Proofs.YtplleficmkfniaaGreatDoor
namespace Go.Proofs.YtplleficmkfniaaGreatDoor
open Go Go.RowKit Go.Aff Go.Json Go.Sha Go.Dig Go.Book
attribute [local go_sem] Oper.semAt_some
theorem slim_ok : ∀ (j : JV), JOk j → j.nodes ≤ 1048576 → Slim j := by
 intro j hok
 induction hok with
 | mk j h1 h2 hp hr ht h ih =>
  intro hn
  have h3 := items_nodes j
  refine .mk j (by omega) (by omega) fun x hx => ih x hx (Nat.le_trans (nodes_item hx) hn)
def LBPost (w : World) (l : List StepV) (e : Ending) (w' : World) : Prop := Keeps (fun _ => False) w w' ∧ match buildF l with
 | .inl _ => ∃ T x, e = .returned (.tuple #[.pointer none, .iface T x])
 | .inr j => ∃ q v, e = .returned (.tuple #[.pointer (some ⟨q, 0, none⟩), .nilIface]) ∧ Hid (TreeAt (fun i => w.heap.size ≤ i) w' q v j)
theorem lbuild_any {w : World} {A : Option Addr} {n c : Nat} {css : List (List Value)} {l : List StepV} (hS : StepsIn w A n css l) (hM : Modest l) (W : World) (hW : Keeps (fun _ => False) w W) :
  Calls Tryz.prog 13 #[.slice A n c] W (LBPost W l) := by
 refine (Build_any W A n c l hS.len (hS.stay hW).to.at_ fun s hs => (hM.fits s hs).fits).mono fun e w' h => ?_
 unfold BuildPost at h
 unfold LBPost
 refine ⟨h.1, ?_⟩
 cases hbf : buildF l with
 | inl ko =>
  rw [hbf] at h
  obtain ⟨k, o⟩ := ko
  cases o with
  | none => exact ⟨_, _, h.2⟩
  | some a => exact ⟨_, _, h.2⟩
 | inr j =>
  rw [hbf] at h
  obtain ⟨_, q, v, he, ht, _⟩ := h
  exact ⟨q, v, he, H_ ht⟩
theorem excused_any {D : Nat → Prop} {w : World} {q : Nat} {v : Value} {j : JV} (hG : GW w) (ht : TreeAt D w q v j) (hD : ∀ i, D i → i < w.heap.size) (hok : JOk j) (hn : j.nodes ≤ 1048576) (hb : j.bytes ≤ 4194304) (A : Option Addr) (n c : Nat) (b : List (List Int)) (hbl : b.length = n) (pb : RdPartsO (fun _ => False) w A b) (hnn : n ≤ 1099511627776) :
  Calls Tryz.prog 25 #[.pointer (some ⟨q, 0, none⟩), .slice A n c] w fun e w' => ∃ bq : Bool, e = .returned (.bool bq) ∧ Hid (bq = true ↔ Cl j.tx b) ∧ Keeps (fun _ => False) w w' := by
 obtain ⟨m, hm⟩ : ∃ m, m = j.tx.length := ⟨_, rfl⟩
 have hml : m ≤ 1099511627776 := by have := tx_few j; omega
 have HTX : Hid (Calls Tryz.prog 26 #[.pointer (some ⟨q, 0, none⟩)] w fun e w' => ∃ A1 c1, e = .returned (.slice A1 m c1) ∧ Hid (RdPartsO (fun _ => False) w' A1 j.tx) ∧ Keeps (fun _ => False) w w') := H_ ((dtexts_any hG ht hD hok hn hb).mono fun e w' ⟨A1, c1, vals, gs, he, hx, hk⟩ => ⟨A1, c1, by rw [hm]; exact he, H_ (txrow_parts hx.out fun t h => by have := tx_all j hok hb t h; exact ⟨this.1, Nat.le_trans this.2 (by omega)⟩), hk⟩)
 have HCL : Hid (∀ W A1 c1, Keeps (fun _ => False) w W → RdPartsO (fun _ => False) W A1 j.tx → Calls Tryz.prog 21 #[.slice A1 m c1, .slice A n c] W fun e w' => ∃ X Y, ∃ bq : Bool, e = .returned (.tuple #[X, Y, .bool bq]) ∧ Hid (bq = true ↔ Cl j.tx b) ∧ Keeps (fun _ => False) W w') := H_ fun W A1 c1 hW hp => (clash_any W (hG.stay hW) A1 m c1 j.tx hm.symm hp A n c b hbl (pb.keep hW fun _ h => h) hml hnn).mono fun e w' ⟨hk, h⟩ => by
  rcases h with ⟨he, hno⟩ | ⟨i, k, _, _, _, _, _, _, _, _, hf, _, _, he, _⟩
  ·exact ⟨_, _, false, he, H_ ⟨fun h => (by cases h), fun h => (by obtain ⟨i, k, h2⟩ := clash_cl.2 h; exact absurd h2 (hno i k))⟩, hk⟩
  ·exact ⟨_, _, true, he, H_ ⟨fun _ => clash_cl.1 ⟨i, k, hf.at_⟩, fun _ => rfl⟩, hk⟩
 clear hG ht hD hok hn hb hbl pb hm
 go_enter Tryz.func25, Tryz.ntmps25
 go_wp2_with (first
  | (go_at_call 26; refine HTX.out.mono ?_; rintro e w1 ⟨A1, c1, rfl, HP1, hk1⟩; have HK1 := H_ hk1; clear hk1)
  | (go_at_call 21; refine (HCL.out _ A1 c1 HK1.out HP1.out).mono ?_; rintro e w2 ⟨X, Y, bq, rfl, HB2, hk2⟩; have HK2 := H_ (HK1.out.trans hk2 fun _ _ h => h); clear hk2))
 go_ret
 exact ⟨bq, rfl, HB2, HK2.out⟩
theorem sames_bad1 (w : World) (hG : GW w) (A : Option Addr) (n c : Nat) (css : List (List Value)) (l : List StepV) (hS : StepsIn w A n css l) (hM : Modest l) (B : Option Addr) (m d : Nat) (dss : List (List Value)) (k : List StepV) (hS2 : StepsIn w B m dss k) (hM2 : Modest k) {x : Int × Option Nat} (hx : buildF l = .inl x) :
  Calls Tryz.prog 5 #[.slice A n c, .slice B m d] w fun e w' => e = .returned (.bool true) ∧ Keeps (fun _ => False) w w' := by
 have HB1 : Hid (Calls Tryz.prog 13 #[.slice A n c] w fun e w' => ∃ T y, e = .returned (.tuple #[.pointer none, .iface T y]) ∧ Keeps (fun _ => False) w w') := H_ ((lbuild_any hS hM w (Keeps.refl _ _)).mono fun e w' h => by
  unfold LBPost at h
  rw [hx] at h
  obtain ⟨hk, T, y, he⟩ := h
  exact ⟨T, y, he, hk⟩)
 have HB2 : Hid (∀ W, Keeps (fun _ => False) w W → Calls Tryz.prog 13 #[.slice B m d] W fun e w' => ∃ o E, e = .returned (.tuple #[.pointer o, E]) ∧ Keeps (fun _ => False) W w') := H_ fun W hW => (lbuild_any hS2 hM2 W hW).mono fun e w' h => by
  unfold LBPost at h
  obtain ⟨hk, h⟩ := h
  cases hbf : buildF k with
  | inl y =>
   rw [hbf] at h
   obtain ⟨T, y, he⟩ := h
   exact ⟨_, _, he, hk⟩
  | inr j =>
   rw [hbf] at h
   obtain ⟨q, v, he, _⟩ := h
   exact ⟨_, _, he, hk⟩
 have HWA : Hid (∀ W, Keeps (fun _ => False) w W → Calls Tryz.prog 19 #[] W fun e w' => e = .returned (.bool true) ∧ Keeps (fun _ => False) W w') := H_ fun W hW => wakes_any W (hG.stay hW)
 clear hG hS hM hS2 hM2 hx
 go_enter Tryz.func5, Tryz.ntmps5
 go_upto_region 2 with (go_at_call 13; refine HB1.out.mono ?_; rintro e w1 ⟨T, y, rfl, hk1⟩; have HK1 := H_ hk1; clear hk1)
 go_upto_region 3 with (go_at_call 13; refine (HB2.out _ HK1.out).mono ?_; rintro e w2 ⟨o2, E2, rfl, hk2⟩; have HK2 := H_ (HK1.out.trans hk2 fun _ _ h => h); clear hk2)
 go_wp2_with (go_at_call 19; refine (HWA.out _ HK2.out).mono ?_; rintro e w3 ⟨rfl, hk3⟩; have HK3 := H_ (HK2.out.trans hk3 fun _ _ h => h); clear hk3)
 go_ret
 exact ⟨rfl, HK3.out⟩
theorem sames_bad2 (w : World) (hG : GW w) (A : Option Addr) (n c : Nat) (css : List (List Value)) (l : List StepV) (hS : StepsIn w A n css l) (hM : Modest l) (B : Option Addr) (m d : Nat) (dss : List (List Value)) (k : List StepV) (hS2 : StepsIn w B m dss k) (hM2 : Modest k) {j : JV} (hj : buildF l = .inr j) {x : Int × Option Nat} (hx : buildF k = .inl x) :
  Calls Tryz.prog 5 #[.slice A n c, .slice B m d] w fun e w' => e = .returned (.bool true) ∧ Keeps (fun _ => False) w w' := by
 have HB1 : Hid (Calls Tryz.prog 13 #[.slice A n c] w fun e w' => ∃ q, e = .returned (.tuple #[.pointer (some ⟨q, 0, none⟩), .nilIface]) ∧ Keeps (fun _ => False) w w') := H_ ((lbuild_any hS hM w (Keeps.refl _ _)).mono fun e w' h => by
  unfold LBPost at h
  rw [hj] at h
  obtain ⟨hk, q, v, he, _⟩ := h
  exact ⟨q, he, hk⟩)
 have HB2 : Hid (∀ W, Keeps (fun _ => False) w W → Calls Tryz.prog 13 #[.slice B m d] W fun e w' => ∃ T y, e = .returned (.tuple #[.pointer none, .iface T y]) ∧ Keeps (fun _ => False) W w') := H_ fun W hW => (lbuild_any hS2 hM2 W hW).mono fun e w' h => by
  unfold LBPost at h
  rw [hx] at h
  obtain ⟨hk, T, y, he⟩ := h
  exact ⟨T, y, he, hk⟩
 have HWA : Hid (∀ W, Keeps (fun _ => False) w W → Calls Tryz.prog 19 #[] W fun e w' => e = .returned (.bool true) ∧ Keeps (fun _ => False) W w') := H_ fun W hW => wakes_any W (hG.stay hW)
 clear hG hS hM hS2 hM2 hx hj
 go_enter Tryz.func5, Tryz.ntmps5
 go_upto_region 2 with (go_at_call 13; refine HB1.out.mono ?_; rintro e w1 ⟨q, rfl, hk1⟩; have HK1 := H_ hk1; clear hk1)
 go_upto_region 3 with (go_at_call 13; refine (HB2.out _ HK1.out).mono ?_; rintro e w2 ⟨T2, y2, rfl, hk2⟩; have HK2 := H_ (HK1.out.trans hk2 fun _ _ h => h); clear hk2)
 go_wp2_with (go_at_call 19; refine (HWA.out _ HK2.out).mono ?_; rintro e w3 ⟨rfl, hk3⟩; have HK3 := H_ (HK2.out.trans hk3 fun _ _ h => h); clear hk3)
 go_ret
 exact ⟨rfl, HK3.out⟩
theorem sames_good (w : World) (hG : GW w) (A : Option Addr) (n c : Nat) (css : List (List Value)) (l : List StepV) (hS : StepsIn w A n css l) (hM : Modest l) (B : Option Addr) (m d : Nat) (dss : List (List Value)) (k : List StepV) (hS2 : StepsIn w B m dss k) (hM2 : Modest k) {j : JV} (hj : buildF l = .inr j) {x : JV} (hx : buildF k = .inr x) :
  Calls Tryz.prog 5 #[.slice A n c, .slice B m d] w fun e w' => e = .returned (.bool true) ∧ Keeps (fun _ => False) w w' := by
 have hj0 : JOk j ∧ j.nodes ≤ 1048576 ∧ j.bytes ≤ 4194304 := by
  have h := buildF_ok hj
  unfold JV.within at h
  exact ⟨h.1, by omega, by omega⟩
 have hx0 : JOk x ∧ x.nodes ≤ 1048576 ∧ x.bytes ≤ 4194304 := by
  have h := buildF_ok hx
  unfold JV.within at h
  exact ⟨h.1, by omega, by omega⟩
 have HG := H_ hG
 have HJ := H_ hj0
 have HX := H_ hx0
 have HB1 : Hid (Calls Tryz.prog 13 #[.slice A n c] w fun e w' => ∃ q v, e = .returned (.tuple #[.pointer (some ⟨q, 0, none⟩), .nilIface]) ∧ Hid (TreeAt (fun i => w.heap.size ≤ i) w' q v j) ∧ Keeps (fun _ => False) w w') := H_ ((lbuild_any hS hM w (Keeps.refl _ _)).mono fun e w' h => by
  unfold LBPost at h
  rw [hj] at h
  obtain ⟨hk, q, v, he, ht⟩ := h
  exact ⟨q, v, he, ht, hk⟩)
 have HB2 : Hid (∀ W, Keeps (fun _ => False) w W → Calls Tryz.prog 13 #[.slice B m d] W fun e w' => ∃ q v, e = .returned (.tuple #[.pointer (some ⟨q, 0, none⟩), .nilIface]) ∧ Hid (TreeAt (fun i => W.heap.size ≤ i) w' q v x) ∧ Keeps (fun _ => False) W w') := H_ fun W hW => (lbuild_any hS2 hM2 W hW).mono fun e w' h => by
  unfold LBPost at h
  rw [hx] at h
  obtain ⟨hk, q, v, he, ht⟩ := h
  exact ⟨q, v, he, ht, hk⟩
 have HWA : Hid (∀ W, Keeps (fun _ => False) w W → Calls Tryz.prog 19 #[] W fun e w' => e = .returned (.bool true) ∧ Keeps (fun _ => False) W w') := H_ fun W hW => wakes_any W (hG.stay hW)
 clear hG hS hM hS2 hM2 hx hj hj0 hx0
 obtain ⟨DV, hDV⟩ : ∃ DV, DV = vb j.dg := ⟨_, rfl⟩
 obtain ⟨EV, hEV⟩ : ∃ EV, EV = vb x.dg := ⟨_, rfl⟩
 have HD1 : Hid (∀ u ∈ DV, u.oneCell' = true) := H_ (by rw [hDV]; exact vb_one _)
 have HDL : Hid (DV.length = 32) := H_ (by rw [hDV, vb_length]; exact dg_len _)
 have HIN : Hid ((Tryz.prog.info? 23).map (·.size) = some DV.length) := H_ (infoDg DV HDL.out)
 have HE1 : Hid (∀ u ∈ EV, u.oneCell' = true) := H_ (by rw [hEV]; exact vb_one _)
 have HEL : Hid (EV.length = 32) := H_ (by rw [hEV, vb_length]; exact dg_len _)
 have HIE : Hid ((Tryz.prog.info? 23).map (·.size) = some EV.length) := H_ (infoDg EV HEL.out)
 obtain ⟨bd, hbd⟩ : ∃ bd : Bool, bd = decide (j.dg = x.dg) := ⟨_, rfl⟩
 have HEQ : Hid (∀ W, (Op.equalIn 10000 23 (.agg DV.toArray) (.agg EV.toArray)).run Tryz.prog W = .ok bd W) := H_ fun W => by
  have h := digest_eql W j.dg x.dg (dg_len _) (dg_len _)
  rw [← hDV, ← hEV, ← hbd] at h
  exact eql_in h
 have HOF1 : Hid (∀ W q v, Keeps (fun _ => False) w W → TreeAt (fun i => w.heap.size ≤ i) W q v j → Calls Tryz.prog 23 #[.pointer (some ⟨q, 0, none⟩)] W fun e w' => e = .returned (.tuple #[.agg DV.toArray, .nilIface]) ∧ Keeps (fun _ => False) W w') := H_ fun W q v hW ht => by rw [hDV]; exact dOf_any (HG.out.stay hW) ht HJ.out.1 HJ.out.2.1 HJ.out.2.2
 have HOF2 : Hid (∀ V W q v, Keeps (fun _ => False) w W → TreeAt (fun i => V ≤ i) W q v x → Calls Tryz.prog 23 #[.pointer (some ⟨q, 0, none⟩)] W fun e w' => e = .returned (.tuple #[.agg EV.toArray, .nilIface]) ∧ Keeps (fun _ => False) W w') := H_ fun V W q v hW ht => by rw [hEV]; exact dOf_any (HG.out.stay hW) ht HX.out.1 HX.out.2.1 HX.out.2.2
 have HBD := H_ hbd
 clear hDV hEV hbd
 go_enter Tryz.func5, Tryz.ntmps5
 go_upto_region 2 with (go_at_call 13; refine HB1.out.mono ?_; rintro e w1 ⟨q, v, rfl, HT1, hk1⟩; have HK1 := H_ hk1; clear hk1)
 go_upto_region 3 with (go_at_call 13; refine (HB2.out _ HK1.out).mono ?_; rintro e w2 ⟨r, u, rfl, HU2, hk2⟩; have HK2 := H_ (HK1.out.trans hk2 fun _ _ h => h); have HT2 := H_ (HT1.out.stay hk2); clear hk2)
 go_upto_region 6 with (first
  | (go_at_call 23; refine (HOF1.out _ q v HK2.out HT2.out).mono ?_; rintro e w3 ⟨rfl, hk3⟩; have HK3 := H_ (HK2.out.trans hk3 fun _ _ h => h); have HT3 := H_ (HT2.out.stay hk3); have HU3 := H_ (HU2.out.stay hk3); have HZ3 := H_ (Blk.new w3 23 (List.replicate 32 (Value.int .u8 0))); clear hk3)
  | ((with_reducible show wpList _ _ _ (⟨none, Op.store 23 _ _, _, _, _, _⟩ :: _) _ _); refine wpList_store_whole rfl 23 _ _ rfl DV rfl rfl HZ3.out (by rw [HDL.out]; simp) HIN.out HD1.out ?_))
 obtain ⟨P, hP⟩ : ∃ P, P = w3.heap.size := ⟨_, rfl⟩
 have HW4 : Hid (Keeps (fun _ => False) w3 ((w3.alloc (.cells (List.replicate 32 (Value.int .u8 0)).toArray 23)).setRow w3.heap.size DV.toArray) ∧ Blk ((w3.alloc (.cells (List.replicate 32 (Value.int .u8 0)).toArray 23)).setRow w3.heap.size DV.toArray) P 23 DV) := H_ ⟨((Keeps.refl (fun _ => False) w3).alloc _).setRow (.inr (Nat.le_refl _)) _, by rw [hP]; exact HZ3.out.setRow DV⟩
 rw [← hP] at HW4 ⊢
 refine gen_codeF (fun W => Keeps (fun _ => False) w3 W ∧ Blk W P 23 DV) HW4.out ?_
 rintro w4 ⟨k4, b4⟩
 have HK4 := H_ (HK3.out.trans k4 fun _ _ h => h)
 have HT4 := H_ (HT3.out.stay k4)
 have HU4 := H_ (HU3.out.stay k4)
 have HP4 := H_ b4
 clear k4 b4 HW4 hP
 go_upto_region 7 with (first
  | (go_at_call 23; refine (HOF2.out _ _ r u HK4.out HU4.out).mono ?_; rintro e w5 ⟨rfl, hk5⟩; have HK5 := H_ (HK4.out.trans hk5 fun _ _ h => h); have HT5 := H_ (HT4.out.stay hk5); have HU5 := H_ (HU4.out.stay hk5); have HP5 := H_ (hk5.blk HP4.out fun h => h); have HZ5 := H_ (Blk.new w5 23 (List.replicate 32 (Value.int .u8 0))); clear hk5)
  | ((with_reducible show wpList _ _ _ (⟨none, Op.store 23 _ _, _, _, _, _⟩ :: _) _ _); refine wpList_store_whole rfl 23 _ _ rfl EV rfl rfl HZ5.out (by rw [HEL.out]; simp) HIE.out HE1.out ?_))
 obtain ⟨Q, hQ⟩ : ∃ Q, Q = w5.heap.size := ⟨_, rfl⟩
 have HW6 : Hid (Keeps (fun _ => False) w5 ((w5.alloc (.cells (List.replicate 32 (Value.int .u8 0)).toArray 23)).setRow w5.heap.size EV.toArray) ∧ Blk ((w5.alloc (.cells (List.replicate 32 (Value.int .u8 0)).toArray 23)).setRow w5.heap.size EV.toArray) Q 23 EV) := H_ ⟨((Keeps.refl (fun _ => False) w5).alloc _).setRow (.inr (Nat.le_refl _)) _, by rw [hQ]; exact HZ5.out.setRow EV⟩
 rw [← hQ] at HW6 ⊢
 refine gen_codeF (fun W => Keeps (fun _ => False) w5 W ∧ Blk W Q 23 EV) HW6.out ?_
 rintro w6 ⟨k6, b6⟩
 have HK6 := H_ (HK5.out.trans k6 fun _ _ h => h)
 have HT6 := H_ (HT5.out.stay k6)
 have HU6 := H_ (HU5.out.stay k6)
 have HP6 := H_ (k6.blk HP5.out fun h => h)
 have HQ6 := H_ b6
 clear k6 b6 HW6 hQ
 go_upto_region 9 with (go_at_call 19; refine (HWA.out _ HK6.out).mono ?_; rintro e w7 ⟨rfl, hk7⟩; have HK7 := H_ (HK6.out.trans hk7 fun _ _ h => h); have HT7 := H_ (HT6.out.stay hk7); have HU7 := H_ (HU6.out.stay hk7); have HP7 := H_ (hk7.blk HP6.out fun h => h); have HQ7 := H_ (hk7.blk HQ6.out fun h => h); clear hk7)
 obtain ⟨sm, hsm, hsc⟩ := tsame_any (slim_ok _ HJ.out.1 HJ.out.2.1) HT7.out HU7.out
 have HSC := H_ hsc
 have HSM := H_ hsm
 clear hsm hsc
 cases sm with
 | true =>
  have hb : bd = true := by rw [HBD.out, HSM.out.1 rfl]; exact decide_eq_true rfl
  subst hb
  go_wp2_with (first
   | (go_at_call 24; refine (HSC.out _ (Keeps.refl _ _)).mono ?_; rintro e w8 ⟨rfl, hk8⟩; have HK8 := H_ (HK7.out.trans hk8 fun _ _ h => h); have HP8 := H_ (hk8.blk HP7.out fun h => h); have HQ8 := H_ (hk8.blk HQ7.out fun h => h); have he8 := HEQ.out w8; clear hk8)
   | ((with_reducible show wpList _ _ _ (⟨some 59, _, _, _, _, _⟩ :: _) _ _); refine wpList_load_whole rfl 23 _ rfl _ rfl HP8.out Tryz.underlying23 rfl HIN.out ?_)
   | ((with_reducible show wpList _ _ _ (⟨some 60, _, _, _, _, _⟩ :: _) _ _); refine wpList_load_whole rfl 23 _ rfl _ rfl HQ8.out Tryz.underlying23 rfl HIE.out ?_))
  go_ret
  exact ⟨rfl, HK8.out⟩
 | false =>
  go_upto_region 11 with (go_at_call 24; refine (HSC.out _ (Keeps.refl _ _)).mono ?_; rintro e w8 ⟨rfl, hk8⟩; have HK8 := H_ (HK7.out.trans hk8 fun _ _ h => h); have HT8 := H_ (HT7.out.stay hk8); have HU8 := H_ (HU7.out.stay hk8); have HP8 := H_ (hk8.blk HP7.out fun h => h); have HQ8 := H_ (hk8.blk HQ7.out fun h => h); have he8 := HEQ.out w8; clear hk8)
  by_cases hdd : j.dg = x.dg
  ·have hb : bd = true := by rw [HBD.out]; exact decide_eq_true hdd
   subst hb
   have hcl : Cl j.tx x.tx := by
    rcases same_or j x (HT8.out.2.2.fine HJ.out.1 HJ.out.2.1) (HU8.out.2.2.fine HX.out.1 HX.out.2.1) hdd with e | e
    ·exact absurd (HSM.out.2 e) (by decide)
    ·exact e
   have HCL := H_ hcl
   obtain ⟨m2, hm2⟩ : ∃ m2, m2 = x.tx.length := ⟨_, rfl⟩
   have HM2 := H_ hm2
   have HUM := H_ (HU8.out.mono (C := fun i => i < w8.heap.size) fun i _ h => h)
   have HTM := H_ (HT8.out.mono (C := fun i => i < w8.heap.size) fun i _ h => h)
   have HML : Hid (m2 ≤ 1099511627776) := H_ (by have := tx_few x; have := HX.out.2.1; omega)
   have HTX : Hid (Calls Tryz.prog 26 #[.pointer (some ⟨r, 0, none⟩)] w8 fun e w' => ∃ A1 c1, e = .returned (.slice A1 m2 c1) ∧ Hid (RdPartsO (fun _ => False) w' A1 x.tx) ∧ Keeps (fun _ => False) w8 w') := H_ ((dtexts_any (HG.out.stay HK8.out) HUM.out (fun _ h => h) HX.out.1 HX.out.2.1 HX.out.2.2).mono fun e w' ⟨A1, c1, vals, gs, he, hx, hk⟩ => ⟨A1, c1, by rw [hm2]; exact he, H_ (txrow_parts hx.out fun t h => by have := tx_all x HX.out.1 HX.out.2.2 t h; exact ⟨this.1, Nat.le_trans this.2 (by omega)⟩), hk⟩)
   have HEX : Hid (∀ W A1 c1, Keeps (fun _ => False) w8 W → RdPartsO (fun _ => False) W A1 x.tx → Calls Tryz.prog 25 #[.pointer (some ⟨q, 0, none⟩), .slice A1 m2 c1] W fun e w' => e = .returned (.bool true) ∧ Keeps (fun _ => False) W w') := H_ fun W A1 c1 hW hp => (excused_any (HG.out.stay (HK8.out.trans hW fun _ _ h => h)) (HTM.out.stay hW) (fun i h => Nat.lt_of_lt_of_le h hW.size) HJ.out.1 HJ.out.2.1 HJ.out.2.2 A1 m2 c1 x.tx HM2.out.symm hp HML.out).mono fun e w' ⟨bq, he, hb, hk⟩ => by
    have : bq = true := hb.out.2 HCL.out
    subst this
    exact ⟨he, hk⟩
   clear hdd hcl hm2
   go_wp2_with (first
    | ((with_reducible show wpList _ _ _ (⟨some 62, _, _, _, _, _⟩ :: _) _ _); refine wpList_load_whole rfl 23 _ rfl _ rfl HP8.out Tryz.underlying23 rfl HIN.out ?_)
    | ((with_reducible show wpList _ _ _ (⟨some 63, _, _, _, _, _⟩ :: _) _ _); refine wpList_load_whole rfl 23 _ rfl _ rfl HQ8.out Tryz.underlying23 rfl HIE.out ?_)
    | (go_at_call 26; refine HTX.out.mono ?_; rintro e w9 ⟨A1, c1, rfl, HP9, hk9⟩; have HK9 := H_ hk9; clear hk9)
    | (go_at_call 25; refine (HEX.out _ A1 c1 HK9.out HP9.out).mono ?_; rintro e w10 ⟨rfl, hk10⟩; have HK10 := H_ ((HK8.out.trans HK9.out fun _ _ h => h).trans hk10 fun _ _ h => h); clear hk10))
   go_ret
   exact ⟨rfl, HK10.out⟩
  ·have hb : bd = false := by rw [HBD.out]; exact decide_eq_false hdd
   subst hb
   clear hdd
   go_wp2_with (first
    | ((with_reducible show wpList _ _ _ (⟨some 62, _, _, _, _, _⟩ :: _) _ _); refine wpList_load_whole rfl 23 _ rfl _ rfl HP8.out Tryz.underlying23 rfl HIN.out ?_)
    | ((with_reducible show wpList _ _ _ (⟨some 63, _, _, _, _, _⟩ :: _) _ _); refine wpList_load_whole rfl 23 _ rfl _ rfl HQ8.out Tryz.underlying23 rfl HIE.out ?_))
   go_ret
   exact ⟨rfl, HK8.out⟩
theorem sames_any (w : World) (hG : GW w) (A : Option Addr) (n c : Nat) (css : List (List Value)) (l : List StepV) (hS : StepsIn w A n css l) (hM : Modest l) (B : Option Addr) (m d : Nat) (dss : List (List Value)) (k : List StepV) (hS2 : StepsIn w B m dss k) (hM2 : Modest k) :
  Calls Tryz.prog 5 #[.slice A n c, .slice B m d] w fun e w' => e = .returned (.bool true) ∧ Keeps (fun _ => False) w w' := by
 cases hl : buildF l with
 | inl x => exact sames_bad1 w hG A n c css l hS hM B m d dss k hS2 hM2 hl
 | inr j =>
  cases hk : buildF k with
  | inl x => exact sames_bad2 w hG A n c css l hS hM B m d dss k hS2 hM2 hl hk
  | inr x => exact sames_good w hG A n c css l hS hM B m d dss k hS2 hM2 hl hk
end Go.Proofs.YtplleficmkfniaaGreatDoor
