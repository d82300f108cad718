/-
  Texts put together: RKeysW; RSameW.
-/
import Derived.Test.YtdmcioghdindfaaGreatDoorQ27
import Derived.Test.YtdmcioghdindfaaGreatDoorQ14
import Derived.Test.YtdmcioghdindfaaGreatDoorQ03
set_option linter.unusedSimpArgs false
set_option maxRecDepth 100000
set_option maxHeartbeats 4000000
namespace Go.Aff
open Go Go.RowKit
theorem Two.aside {F : Nat → Prop} {w wr w' : World} {e f : TypeId} {s t : Nat} {A B : Option Addr} {n c m d : Nat} {xs ys : List Value} (h : Two w wr e s A n c xs f t B m d ys) (hk : Keeps F wr w') (h0 : ∀ i, F i → w.heap.size ≤ i)
  (h1 : ∀ g, (Value.slice A n c).ownBlock = some g → ¬ F g) (h2 : ∀ g, (Value.slice B m d).ownBlock = some g → ¬ F g) : Two w w' e s A n c xs f t B m d ys :=
 have hw : Keeps (fun _ => False) w w' := h.a.2.1.trans hk fun i hi e => by have := h0 i e; omega
 ⟨⟨hk.own h.a.1 h1, hw, h.a.2.2⟩, ⟨hk.own h.b.1 h2, hw, h.b.2.2⟩, h.ap⟩
end Go.Aff
namespace Go.Json
def keysTo (os : List (Option JV)) (i : Nat) : List ByteArray := ((os.take i).map fun o => (mem2 o).1).flatten
theorem keysTo_next {os : List (Option JV)} {i : Nat} {o : Option JV} (h : os[i]? = some o) : keysTo os (i + 1) = keysTo os i ++ (mem2 o).1 := by
 unfold keysTo
 rw [List.take_add_one, h, List.map_append, List.flatten_append]
 simp
theorem keysTo_sub (os : List (Option JV)) (i : Nat) : (keysTo os i).Sublist (keysTo os os.length) := by
 unfold keysTo
 rw [List.take_length]
 have h : ∀ a b : List (List ByteArray), a.flatten.Sublist (a ++ b).flatten := fun a b => by rw [List.flatten_append]; exact List.sublist_append_left _ _
 have := h ((os.take i).map fun o => (mem2 o).1) ((os.drop i).map fun o => (mem2 o).1)
 rwa [← List.map_append, List.take_append_drop] at this
end Go.Json
namespace Go.Proofs.YtdmcioghdindfaaGreatDoor
open Go Go.RowKit Go.Aff Go.Json
attribute [local go_sem] Oper.semAt_some
def MetMap (D : DataW Unit) (ks : List ByteArray) : Prop := Maps.IsMap D ∧ (∀ s, s ∈ ks → D.atKey (kS s) (.lit (.int .i64 0)) = .lit (.int .i64 1)) ∧ ∀ s, s ∉ ks → D.atKey (kS s) (.lit (.int .i64 0)) = .lit (.int .i64 0)
theorem MetMap.zero : MetMap (.map []) [] := ⟨⟨[], rfl⟩, fun s h => absurd h List.not_mem_nil, fun s _ => Maps.atKey_of_not_has (by simp [Maps.has]) _⟩
theorem MetMap.step {D : DataW Unit} {ks : List ByteArray} {s : ByteArray} (h : MetMap D ks) (hsz : s.size ≤ maxLen) : MetMap (D.put (kS s) (.lit (.int .i64 1))) (ks ++ [s]) := by
 obtain ⟨h1, h2, h3⟩ := h
 refine ⟨?_, fun t ht => ?_, fun t ht => ?_⟩
 ·obtain ⟨es, rfl⟩ := h1
  exact ⟨_, rfl⟩
 ·by_cases e : t = s
  ·subst e
   exact Maps.atKey_put_same h1 (kS_key t hsz) _ _
  ·rw [Maps.atKey_put_other (fun e' => e (kS_inj e'))]
   exact h2 t ((List.mem_append.1 ht).resolve_right fun h => e (List.mem_singleton.1 h))
 ·have e : t ≠ s := fun e => ht (List.mem_append_right _ (List.mem_singleton.2 e))
  rw [Maps.atKey_put_other (fun e' => e (kS_inj e'))]
  exact h3 t fun h => ht (List.mem_append_left _ h)
theorem field_val5 (u0 : Int) (u1 : Bool) (u2 : Int) (u3 : ByteArray) (M : Option Addr) (u4 u5 : Nat) (A : Option Addr) (m c : Nat) (w : World) : (Instr.field 31 (.agg #[.int .i64 u0, .bool u1, .int .u64 u2, .string u3, .slice M u4 u5, .slice A m c]) 5).run Tryz.prog w = .ok (.slice A m c) w := by kernel_rfl
def nullC : List Value := [.int .i64 1, .bool false, .int .u64 0, .string .empty, .slice none 0 0, .slice none 0 0]
def nullsC (n : Nat) : List Value := (List.replicate n nullC).flatten
theorem nullsC_next (n : Nat) : nullsC (n + 1) = nullsC n ++ nullC := by
 unfold nullsC
 rw [List.replicate_succ', List.flatten_append]
 simp
structure KSt (w wx : World) (mb : Nat) (ks : List ByteArray) (Dm : DataW Unit) (L : Option Addr) (q cl : Nat) (M : Option Addr) (cm : Nat) : Prop where
 len : q = ks.length
 two : Two w wx 9 1 L q cl (ks.map .string) 31 6 M q cm (nullsC q)
 own : wx.ownsMap Tryz.prog 9 (plainElem Tryz.prog 3) mb q Dm
 lo : w.heap.size ≤ mb
 na : (Value.slice L q cl).ownBlock ≠ some mb
 nb : (Value.slice M q cm).ownBlock ≠ some mb
 map : MetMap Dm ks
 nodup : ks.Nodup
theorem rd_low {w : World} {A : Option Addr} {n : Nat} {xs : List Value} (h : Rd w A n xs) (hn : 0 < n) {a : Addr} (e : A = some a) : a.block < w.heap.size := by
 obtain ⟨g, o, e1, h1⟩ := h.2 hn
 have h2 := h1 0 hn
 rw [e] at e1
 injection e1 with e1
 subst e1
 rw [List.getElem?_eq_getElem (by rw [h.1]; exact hn)] at h2
 exact World.block_lt_of_cell? _ _ h2
theorem map_lt {H : Type} {P : Program} {k : TypeId} {R : Value → Option (DataW H × List MemPlace)} {w : World} {b n : Nat} {D : DataW H} (h : w.ownsMap P k R b n D) : b < w.heap.size := by
 obtain ⟨es, clock, hb, _⟩ := h
 exact (Array.getElem?_eq_some_iff.1 hb).1
theorem keys_end {w w' : World} {v : List Value} {ks : List ByteArray} {n : Nat} {all : List ByteArray} (h : RAt (fun i => False ∨ w.heap.size ≤ i) w' v (mkObj ks (List.replicate n .null))) (hn : ks.length = n) (hnd : ks.Nodup) (hri : ∀ s ∈ ks, rightS s = true) (hall : ∀ s, s ∈ ks ↔ s ∈ all) :
  ∃ (u0 : Int) (u1 : Bool) (u2 : Int) (u3 : ByteArray) (M : Option Addr) (u4 u5 : Nat) (A : Option Addr) (m c : Nat) (cs : List ByteArray), v = [.int .i64 u0, .bool u1, .int .u64 u2, .string u3, .slice M u4 u5, .slice A m c] ∧ cs.length = m ∧ m = n ∧ Rd w' A m (cs.map .string) ∧ InB (fun i => w.heap.size ≤ i) A m ∧ cs.Pairwise ltS ∧ ∀ s, s ∈ cs ↔ s ∈ all := by
 obtain ⟨A, c, B, d, cs, hv, _, _, hB, oB, _⟩ := h.form
 have hl : ks.length = (List.replicate n JV.null).length := by rw [List.length_replicate, hn]
 have hk : (mkObj ks (List.replicate n JV.null)).keys = (sortM (ks.zip (List.replicate n JV.null))).map (·.1) := rfl
 have hp := fst_perm hl
 refine ⟨_, _, _, _, A, _, c, B, _, d, (mkObj ks (List.replicate n JV.null)).keys, hv, rfl, ?_, hB, oB.mono fun i hi => hi.elim False.elim id, ?_, fun s => ?_⟩
 ·rw [hk, hp.length_eq, hn]
 ·rw [hk]
  exact rising_map (sorted_rising hl hnd hri)
 ·rw [hk, hp.mem_iff, hall]
theorem rkeysof_any {D : Nat → Prop} (w : World) (A : Option Addr) (n c : Nat) (css : List (List Value)) (os : List (Option JV)) (hA : RdS 6 w A n css.flatten) (hcl : css.length = n) (hol : os.length = n) (hx : ∀ (i : Nat) cs o, css[i]? = some cs → os[i]? = some o → ORAt D w cs o)
  (hm : (keysTo os n).length ≤ 1048576) (hri : ∀ s ∈ keysTo os n, rightS s = true ∧ s.size ≤ 1099511627776) (hn : n ≤ 1048576) :
  Calls Tryz.prog 40 #[.slice A n c] w fun e w' => ∃ (A' : Option Addr) (m c' : Nat) (cs : List ByteArray), e = .returned (.slice A' m c') ∧ cs.length = m ∧ m ≤ 1048576 ∧ Rd w' A' m (cs.map .string) ∧ InB (fun i => w.heap.size ≤ i) A' m ∧ cs.Pairwise ltS ∧ (∀ s, s ∈ cs ↔ s ∈ keysTo os n) ∧ Keeps (fun _ => False) w w' := by
 have h6 : ∀ cs ∈ css, cs.length = 6 := fun cs hc => by
  obtain ⟨i, hi⟩ := List.mem_iff_getElem?.1 hc
  have hlt := (List.getElem?_eq_some_iff.1 hi).1
  obtain ⟨o, ho⟩ : ∃ o, os[i]? = some o := ⟨_, List.getElem?_eq_getElem (by omega)⟩
  exact (hx i cs o hi ho).len
 have HA := Lib.hid (And.intro hA h6)
 have HX := Lib.hid hx
 have HN := Lib.hid (And.intro hcl hol)
 have HM := Lib.hid (And.intro hm hri)
 have HMK : Hid (∀ W (L : Option Addr) (q cl : Nat) (M : Option Addr) (cm : Nat) (ks : List ByteArray), Keeps (fun _ => False) w W → ks.length = q → Rd W L q (ks.map .string) → RdS 6 W M q (nullsC q) → ks.Nodup → (∀ s, s ∈ ks ↔ s ∈ keysTo os n) → q ≤ 1048576 → Calls Tryz.prog 69 #[.slice L q cl, .slice M q cm] W fun e w' => ∃ (u0 : Int) (u1 : Bool) (u2 : Int) (u3 : ByteArray) (M : Option Addr) (u4 u5 : Nat) (A : Option Addr) (m c : Nat) (cs : List ByteArray), e = .returned (.agg #[.int .i64 u0, .bool u1, .int .u64 u2, .string u3, .slice M u4 u5, .slice A m c]) ∧ Hid (cs.length = m ∧ m = q ∧ Rd w' A m (cs.map .string) ∧ InB (fun i => w.heap.size ≤ i) A m ∧ cs.Pairwise ltS ∧ (∀ s, s ∈ cs ↔ s ∈ keysTo os n) ∧ Keeps (fun _ => False) w w')) := Lib.hid fun W L q cl M cm ks hW hkl hL hM hnd hall hq => by
  refine (rmade_any (D := fun _ => False) W L q cl ks hkl hL M cm (List.replicate q nullC) (List.replicate q .null) hM ⟨by simp, fun i cs x h1 h2 => ?_⟩ (by simp) hnd (fun s hs => (hri s ((hall s).1 hs)).1) (fun s hs => (hri s ((hall s).1 hs)).2) hq).mono ?_
  ·have e1 : cs = nullC := List.eq_of_mem_replicate (List.mem_of_getElem? h1)
   have e2 : x = .null := List.eq_of_mem_replicate (List.mem_of_getElem? h2)
   subst e1 e2
   exact RAt.leaf .null rfl rfl
  ·rintro e w' ⟨v, he, hr, hk⟩
   obtain ⟨u0, u1, u2, u3, M', u4, u5, A, m, c, cs, hv, h1, h2, h3, h4, h5, h6⟩ := keys_end hr hkl hnd (fun s hs => (hri s ((hall s).1 hs)).1) hall
   subst hv
   exact ⟨u0, u1, u2, u3, M', u4, u5, A, m, c, cs, he, Lib.hid ⟨h1, h2, h3, h4.mono fun i hi => Nat.le_trans hW.size hi, h5, h6, hW.trans hk fun _ _ h => h⟩⟩
 clear hA h6 hcl hol hx hm hri
 go_enter Tryz.func40, Tryz.ntmps40
 have hmm := @run_makeMap Tryz.prog
 go_upto_region 2 with fail
 clear hmm
 obtain ⟨mb, hmbq⟩ : ∃ b, b = w.heap.size := ⟨_, rfl⟩
 have hM0 : KSt w (w.alloc (.map #[] 0)) mb [] (.map []) none 0 0 none 0 := by
  rw [hmbq]
  exact ⟨rfl, (Two.nil w 9 31 1 6).alloc _, World.ownsMap_made (H := Unit) w Tryz.prog 9 (plainElem Tryz.prog 3), Nat.le_refl _, by simp [Value.ownBlock], by simp [Value.ownBlock], MetMap.zero, .nil⟩
 rw [← hmbq]
 have HM0 := Lib.hid hM0
 clear hM0 hmbq
 refine gen_codeF (fun W => KSt w W mb [] (.map []) none 0 0 none 0) HM0.out ?_
 clear HM0
 intro w2 hs2
 have HS2 := Lib.hid hs2
 clear hs2
 go_upto_block 0 with fail
 go_wp2
 go_loopg [4, 5, 6] n (fun gk y z t wx => ∃ (i : Nat) (ks : List ByteArray) (Dm : DataW Unit) (L : Option Addr) (q cl : Nat) (M : Option Addr) (cm : Nat), i ≤ n ∧ y = .slice L q cl ∧ z = .slice M q cm ∧ t = .int .i64 i ∧ gk = n - i ∧ q ≤ 1048576 ∧ Hid (KSt w wx mb ks Dm L q cl M cm) ∧ Hid ((∀ s, s ∈ ks ↔ s ∈ keysTo os i) ∧ q ≤ (keysTo os i).length))
 case atStart => exact ⟨0, [], .map [], none, 0, 0, none, 0, by omega, rfl, rfl, rfl, rfl, by omega, HS2, Lib.hid ⟨fun s => by simp [keysTo], by omega⟩⟩
 case round =>
  obtain ⟨i, ks, Dm, L, q, cl, M, cm, hin, rfl, rfl, rfl, hgk, hq, HO, HKS⟩ := hrel
  have HGK := Lib.hid hgk
  clear hgk
  by_cases hlt : i < n
  ·obtain ⟨g, o, hAe, hc⟩ := (HA.out.1.keep HO.out.two.a.2.1 (fun _ _ _ h => h)).2 (by omega)
   subst hAe
   obtain ⟨cs, hcs⟩ : ∃ cs, css[i]? = some cs := ⟨_, List.getElem?_eq_getElem (by rw [HN.out.1]; exact hlt)⟩
   obtain ⟨ov, hov⟩ : ∃ ov, os[i]? = some ov := ⟨_, List.getElem?_eq_getElem (by rw [HN.out.2]; exact hlt)⟩
   have hrg := item_range hc hlt HA.out.2 hcs
   have hox := HX.out i cs ov hcs hov
   have HKN := Lib.hid (keysTo_next hov)
   obtain ⟨u1, u2, u3, A4, na, c4, B, nb, d, hv⟩ := hox.six
   obtain ⟨so, hso⟩ : ∃ so, so = osort ov := ⟨_, rfl⟩
   rw [← hso] at hv
   subst hv
   have x0 : wr.cell? ⟨g, o + i * 6, none⟩ = some (.int .i64 so) := by have := hrg 0 _ rfl; simpa using this
   have x5 : wr.cell? ⟨g, o + i * 6 + 5, none⟩ = some (.slice B nb d) := hrg 5 _ rfl
   have hi63 : (0 : Int) ≤ (i : Int) := by omega
   have hiN : (i : Int) < (n : Int) := by omega
   by_cases h6 : so = 6
   ·have hne : (so != 6) = false := by rw [h6]; rfl
    obtain ⟨k0, l0, ho⟩ := osort_obj (hso ▸ h6)
    subst ho
    have hnb : nb = k0.length ∧ Rd w B nb (k0.map .string) := by
     obtain ⟨A', c', B', d', cs', hv', _, _, hB', _⟩ := RAt.form hox
     injection hv' with _ hv'
     injection hv' with _ hv'
     injection hv' with _ hv'
     injection hv' with _ hv'
     injection hv' with _ hv'
     injection hv' with hv' _
     injection hv' with e1 e2 e3
     subst e1 e2 e3
     exact ⟨rfl, hB'⟩
    have HKB := Lib.hid hnb
    have HXL : Hid (g < w.heap.size ∧ w.cell? ⟨g, o + i * 6 + 5, none⟩ = some (.slice B nb d)) := Lib.hid (by
     obtain ⟨g', o', e1, e2⟩ := HA.out.1.2 (by omega)
     injection e1 with e1
     injection e1 with e1 e3
     subst e1 e3
     have h5 := item_range e2 hlt HA.out.2 hcs 5 _ rfl
     exact ⟨World.block_lt_of_cell? _ _ h5, h5⟩)
    have hnbl : nb ≤ 1048576 := by
     have h1 := (keysTo_sub os (i + 1)).length_le
     rw [HN.out.2, HKN.out, List.length_append] at h1
     have h2 := HM.out.1
     have h3 : (mem2 (some (JV.obj k0 l0))).1.length = k0.length := rfl
     have := hnb.1
     omega
    have HBD : Hid ((keysTo os i).length + nb ≤ 1048576 ∧ ∀ s ∈ k0, rightS s = true ∧ s.size ≤ 1099511627776) := Lib.hid (by
     have h1 := (keysTo_sub os (i + 1)).length_le
     have h0 := fun s => (keysTo_sub os (i + 1)).subset (a := s)
     rw [HN.out.2, HKN.out] at h0 h1
     rw [List.length_append] at h1
     have h2 := HM.out.1
     have h3 : (mem2 (some (JV.obj k0 l0))).1 = k0 := rfl
     have := hnb.1
     rw [h3] at h0 h1
     exact ⟨by omega, fun s hs => HM.out.2 s (h0 s (List.mem_append_right _ hs))⟩)
    clear hox hso h6 hnb hc hcs hov hrg
    have hIX : (i : Int) < (n : Int) := hiN
    go_upto_block 2 with fail
    go_wp2
    go_loopg [4, 5, 7] nb (fun gk y z t wx => ∃ (k : Nat) (ks : List ByteArray) (Dm : DataW Unit) (L : Option Addr) (q cl : Nat) (M : Option Addr) (cm : Nat), k ≤ nb ∧ y = .slice L q cl ∧ z = .slice M q cm ∧ t = .int .i64 k ∧ gk = nb - k ∧ q ≤ 1048576 ∧ Hid (KSt w wx mb ks Dm L q cl M cm) ∧ Hid ((∀ s, s ∈ ks ↔ s ∈ keysTo os i ++ k0.take k) ∧ q ≤ (keysTo os i).length + k))
    case atStart => exact ⟨0, ks, Dm, L, q, cl, M, cm, by omega, rfl, rfl, rfl, rfl, by omega, HO, Lib.hid ⟨fun s => by rw [List.take_zero, List.append_nil]; exact HKS.out.1 s, HKS.out.2⟩⟩
    case round =>
     clear x0 x5 HO HKS hq ks Dm L cl M cm q
     obtain ⟨k, ks, Dm, L, q, cl, M, cm, hkn, rfl, rfl, rfl, hgk2, hq, HO, HKS⟩ := hrel
     have HGK2 := Lib.hid hgk2
     clear hgk2
     have HCE : Hid (∀ V, Keeps (fun i => w.heap.size ≤ i) w V → V.cell? ⟨g, o + i * 6 + 5, none⟩ = some (.slice B nb d) ∧ Rd V B nb (k0.map .string)) := Lib.hid fun V hV => ⟨(hV.cell HXL.out.1 (fun e => by have h2 : w.heap.size ≤ g := e; have := HXL.out.1; omega)).trans HXL.out.2, HKB.out.2.keep hV fun hn a e h => by have := rd_low HKB.out.2 hn e; have h2 : w.heap.size ≤ a.block := h; omega⟩
     have x5 := (HCE.out wr (HO.out.two.a.2.1.mono fun _ _ h => h.elim)).1
     by_cases hlk : k < nb
     ·obtain ⟨g3, o3, t, hB, hkt, hck⟩ := textAt (HCE.out wr (HO.out.two.a.2.1.mono fun _ _ h => h.elim)).2 hlk
      subst hB
      have HT3 : Hid (∀ V, Keeps (fun i => w.heap.size ≤ i) wr V → V.cell? ⟨g, o + i * 6 + 5, none⟩ = some (.slice (some ⟨g3, o3, none⟩) nb d) ∧ V.cell? ⟨g3, o3 + k, none⟩ = some (.string t)) := Lib.hid fun V hV => by
       obtain ⟨h1, h2⟩ := HCE.out V ((HO.out.two.a.2.1.mono (G := fun i => w.heap.size ≤ i) fun _ _ h => h.elim).trans hV fun _ _ h => h)
       obtain ⟨g', o', t', e1, e2, e3⟩ := textAt h2 hlk
       injection e1 with e1
       injection e1 with e1 e4
       subst e1 e4
       rw [hkt] at e2
       injection e2 with e2
       subst e2
       exact ⟨h1, e3⟩
      have htk : k0[k]? = some t := hkt
      have hto := HBD.out.2 t (List.mem_of_getElem? hkt)
      have HKT : Hid (k0.take (k + 1) = k0.take k ++ [t]) := Lib.hid (by rw [List.take_add_one, hkt]; rfl)
      have HKEY := Lib.hid (kS_of t (by have := hto.2; unfold maxLen; omega))
      have HZ : Hid (t.size ≤ maxLen) := Lib.hid (by have := hto.2; unfold maxLen; omega)
      have HMX : Hid (q < maxLen) := Lib.hid (by unfold maxLen; omega)
      have HIR : Hid (plainElem (H := Unit) Tryz.prog 3 (.int .i64 1) = some (.lit (.int .i64 1), [])) := Lib.hid (plainInt _ ⟨by decide, by decide⟩)
      have hk0 : (0 : Int) ≤ (k : Int) := by omega
      have hkN : (k : Int) < (nb : Int) := by omega
      have HCK := Lib.hid hck
      have ckk := hck
      clear hkt htk hto hck
      by_cases hin2 : t ∈ ks
      ·have HAT : Hid (∀ cc : Int, Dm.atKey (kS t) (.lit (.int .i64 0)) = .lit (.int .i64 cc) → cc = 1) := Lib.hid fun cc h => by
        have h2 := HO.out.map.2.1 t hin2
        rw [h] at h2
        injection h2 with h2
        injection h2
       have HIN := Lib.hid hin2
       clear hin2
       go_wp2_with (at_lookup; refine wpList_lookup_own_int _ rfl _ _ 154 rfl 9 3 .i64 strKeyed Tryz.underlying154 Tryz.underlying3 (zeroInt _) mb q Dm rfl HO.out.own _ _ rfl HKEY.out ?_; intro cc hcc _; obtain rfl := HAT.out cc hcc; clear hcc)
       go_roundg (nb - (k + 1))
       case measure => rw [HGK2.out]; omega
       case rel => exact ⟨k + 1, ks, Dm, L, q, cl, M, cm, by omega, rfl, rfl, by go_num, rfl, hq, HO, Lib.hid ⟨fun s => by
        rw [HKT.out, ← List.append_assoc, List.mem_append, ← HKS.out.1 s, List.mem_singleton]
        exact ⟨.inl, fun h => h.elim id fun e => by rw [e]; exact HIN.out⟩, by have := HKS.out.2; omega⟩⟩
      ·have HAT : Hid (∀ cc : Int, Dm.atKey (kS t) (.lit (.int .i64 0)) = .lit (.int .i64 cc) → cc = 0) := Lib.hid fun cc h => by
        have h2 := HO.out.map.2.2 t hin2
        rw [h] at h2
        injection h2 with h2
        injection h2
       have HIN := Lib.hid hin2
       have hq1 : q + 1 ≤ 1048576 := by have := HKS.out.2; have := HBD.out.1; omega
       clear hin2
       go_wp2_with (first
        | (at_lookup; refine wpList_lookup_own_int _ rfl _ _ 154 rfl 9 3 .i64 strKeyed Tryz.underlying154 Tryz.underlying3 (zeroInt _) mb q Dm rfl HO.out.own _ _ rfl HKEY.out ?_; intro cc hcc _; obtain rfl := HAT.out cc hcc; clear hcc)
        | (at_mapUpdate; refine wpList_mapUpdate_own _ rfl _ _ _ 154 rfl 9 3 strKeyed Tryz.underlying154 _ mb q Dm rfl HO.out.own HMX.out _ _ _ rfl rfl HKEY.out (.lit (.int .i64 1)) [] HIR.out ?_; intro w9 hown9 hg9; have HO9 := Lib.hid hown9; have HK9 : Hid (Keeps (fun i => i = mb) wr w9) := Lib.hid ((Keeps.of_grown hg9).mono fun i _ e => by injection e with e; exact e.symm); obtain ⟨cv5, cvk⟩ := HT3.out w9 (HK9.out.mono fun i _ e => by have := HO.out.lo; omega); have HT9 : Hid (Two w w9 9 1 L q cl (ks.map .string) 31 6 M q cm (nullsC q)) := Lib.hid (HO.out.two.aside HK9.out (fun i e => by have := HO.out.lo; omega) (fun g hg e => HO.out.na (by rw [hg, e])) (fun g hg e => HO.out.nb (by rw [hg, e]))); clear hown9 hg9)
        | (at_builtin; refine wpList_append_S _ rfl (.tmp 51) (.tmp 60) 29 rfl 9 (.string .empty) 1 16 Tryz.underlying29 (by kernel_rfl) rfl (by decide) L q cl _ rfl (HT9.out.alloc _).a.1 _ 1 1 [.string t] rfl (RdS.blk (Blk.new _ 9 [.string t]) rfl) (by intro u hu; rw [List.mem_singleton.1 hu]; rfl) (by unfold maxLen; omega) (by omega) ?_; intro A4 c4 w4 ho4 hg4 hb4; have HT4 := Lib.hid ((HT9.out.alloc _).grown ho4 hg4 hb4); have HB4 := Lib.hid hb4; have HK4 := Lib.hid (((Keeps.refl (fun i => (Value.slice L q cl).ownBlock = some i) w9).alloc (.cells #[.string t] 9)).trans ((Keeps.of_grown hg4).mono fun i _ e => e) (fun _ _ h => h)); clear ho4 hg4 hb4)
        | (at_builtin; refine wpList_append_S _ rfl (.tmp 62) (.tmp 64) 28 rfl 31 (.agg #[.int .i64 0, .bool false, .int .u64 0, .string .empty, .slice none 0 0, .slice none 0 0]) 6 88 Tryz.underlying28 (by kernel_rfl) rfl (by decide) M q cm _ rfl (HT4.out.alloc _).b.1 _ 1 1 nullC rfl (RdS.blk (Blk.new _ 31 nullC) rfl) (by decide) (by unfold maxLen; omega) (by omega) ?_; intro A5 c5 w5 ho5 hg5 hb5; have HT5 := Lib.hid (((HT4.out.swap.alloc _).grown ho5 hg5 hb5).swap); have HB5 := Lib.hid hb5; have HK5 := Lib.hid (((Keeps.refl (fun i => (Value.slice M q cm).ownBlock = some i) w4).alloc (.cells nullC.toArray 31)).trans ((Keeps.of_grown hg5).mono fun i _ e => e) (fun _ _ h => h)); clear ho5 hg5 hb5))
       go_roundg (nb - (k + 1))
       case measure => rw [HGK2.out]; omega
       case rel =>
        refine ⟨k + 1, ks ++ [t], Dm.put (kS t) (.lit (.int .i64 1)), A4, q + 1, c4, A5, c5, by omega, rfl, rfl, by go_num, rfl, hq1, Lib.hid ⟨?_, ?_, ?_, HO.out.lo, ?_, ?_, HO.out.map.step HZ.out, ?_⟩, Lib.hid ⟨fun s => ?_, by have := HKS.out.2; omega⟩⟩
        ·rw [List.length_append, ← HO.out.len]; rfl
        ·rw [List.map_append, nullsC_next]; exact HT5.out
        ·exact Keeps.mapS HK5.out (Keeps.mapS HK4.out HO9.out HO.out.na) HO.out.nb
        ·have := map_lt HO9.out
         rcases HB4.out with h | h
         ·rw [h]; exact HO.out.na
         ·rw [h, World.size_alloc]; intro e; injection e with e; omega
        ·have := map_lt HO9.out
         have := HK4.out.size
         rcases HB5.out with h | h
         ·rw [h]; exact HO.out.nb
         ·rw [h, World.size_alloc]; intro e; injection e with e; omega
        ·exact List.nodup_append.2 ⟨HO.out.nodup, by simp, fun a ha b hb e => HIN.out (by rw [← List.mem_singleton.1 hb, ← e]; exact ha)⟩
        ·rw [HKT.out, ← List.append_assoc, List.mem_append, HKS.out.1 s]
         exact List.mem_append.symm
     ·obtain rfl : k = nb := by omega
      have HKE : Hid (∀ s, s ∈ ks ↔ s ∈ keysTo os (i + 1)) := Lib.hid fun s => by
       rw [HKS.out.1 s, HKN.out, List.take_of_length_le (by rw [HKB.out.1]; exact Nat.le_refl _)]; rfl
      have HQE : Hid (q ≤ (keysTo os (i + 1)).length) := Lib.hid (by
       rw [HKN.out, List.length_append]
       have h3 : (mem2 (some (JV.obj k0 l0))).1.length = k0.length := rfl
       have := HKS.out.2; have := HKB.out.1; omega)
      go_wp2
      go_roundg (n - (i + 1))
      case measure => rw [HGK.out]; omega
      case rel => exact ⟨i + 1, ks, Dm, L, q, cl, M, cm, by omega, rfl, rfl, by go_num, rfl, hq, HO, Lib.hid ⟨HKE.out, HQE.out⟩⟩
   ·have hne : (so != 6) = true := by simpa using h6
    have HE0 : Hid (keysTo os (i + 1) = keysTo os i) := Lib.hid (by rw [HKN.out, mem2_none (by rw [← hso]; exact h6), List.append_nil])
    clear hox hso h6 hc hcs hov hrg
    go_wp2
    go_roundg (n - (i + 1))
    case measure => rw [HGK.out]; omega
    case rel => exact ⟨i + 1, ks, Dm, L, q, cl, M, cm, by omega, rfl, rfl, by go_num, rfl, hq, HO, Lib.hid (by rw [HE0.out]; exact HKS.out)⟩
  ·obtain rfl : i = n := by omega
   have HMK2 := Lib.hid (HMK.out wr L q cl M cm ks HO.out.two.a.2.1 HO.out.len.symm (MineS.rd HO.out.two.a) (MineS.rdS HO.out.two.b) HO.out.nodup HKS.out.1 hq)
   clear HMK
   go_wp2_with (go_at_call 69; refine HMK2.out.mono ?_; rintro e w9 ⟨u0, u1, u2, u3, M9, u4, u5, A9, m9, c9, cs9, rfl, H9⟩; have hfld := fun W => field_val5 u0 u1 u2 u3 M9 u4 u5 A9 m9 c9 W)
   go_ret
   exact ⟨A9, m9, c9, cs9, rfl, H9.out.1, by rw [H9.out.2.1]; exact hq, H9.out.2.2.1, H9.out.2.2.2.1, H9.out.2.2.2.2.1, H9.out.2.2.2.2.2.1, H9.out.2.2.2.2.2.2⟩
end Go.Proofs.YtdmcioghdindfaaGreatDoor
namespace Go.Json
theorem jv_ext {j k : JV} (h1 : j.sort = k.sort) (h2 : j.last.flag = k.last.flag) (h3 : j.last.bits = k.last.bits) (h4 : j.last.text = k.last.text) (h5 : j.items = k.items) (h6 : j.keys = k.keys) : j = k := by
 cases j <;> cases k <;> first
  | rfl
  | (simp [JV.sort] at h1; done)
  | (simp [JV.last, step0] at h2; rw [h2]; done)
  | (simp [JV.last, step0] at h3; rw [h3]; done)
  | (simp [JV.last, step0] at h4; rw [h4]; done)
  | (simp [JV.items] at h5; simp [JV.keys] at h6; subst h5; first | rfl | (subst h6; rfl))
end Go.Json
namespace Go.Proofs.YtdmcioghdindfaaGreatDoor
open Go Go.RowKit Go.Aff Go.Json
attribute [local go_sem] Oper.semAt_some
def SamePost (w : World) (j k : JV) (e : Ending) (w' : World) : Prop := ∃ b, e = .returned (.bool b) ∧ (b = true ↔ j = k) ∧ Keeps (fun _ => False) w w'
structure Box2V (w W : World) (b1 b2 : Nat) (X Y : List Value) : Prop where
 keep : Keeps (fun _ => False) w W
 k1 : Blk W b1 31 X
 k2 : Blk W b2 31 Y
theorem Box2V.stay {w W W' : World} {b1 b2 : Nat} {X Y : List Value} (h : Box2V w W b1 b2 X Y) (k : Keeps (fun _ => False) W W') : Box2V w W' b1 b2 X Y := ⟨h.keep.trans k fun _ _ h => h, k.blk h.k1 (fun h => h), k.blk h.k2 (fun h => h)⟩
theorem same_no {w w' : World} {j k : JV} (hk : Keeps (fun _ => False) w w') (h : j ≠ k) : SamePost w j k (.returned (.bool false)) w' := ⟨false, rfl, ⟨fun h => (by cases h), fun e => absurd e h⟩, hk⟩
theorem rsame_one {D E : Nat → Prop} (w : World) (v v2 : List Value) (j k : JV) (h : RAt D w v j) (h2 : RAt E w v2 k) (hn : j.nodes ≤ 1048576) (hkl : j.keys.length ≤ 1048576)
  (ih : ∀ x, x ∈ j.items → ∀ (y : JV) (W : World) (t s : List Value), RAt D W t x → RAt E W s y → Calls Tryz.prog 68 #[.agg t.toArray, .agg s.toArray] W (SamePost W x y)) :
  Calls Tryz.prog 68 #[.agg v.toArray, .agg v2.toArray] w (SamePost w j k) := by
 obtain ⟨A, c, B, d, cs, hv, hA, _, hB, _, hx⟩ := h.form
 obtain ⟨A2, c2, B2, d2, cs2, hv2, hA2, _, hB2, _, hx2⟩ := h2.form
 obtain ⟨z, hz⟩ : ∃ z, z = j.sort := ⟨_, rfl⟩
 obtain ⟨z2, hz2⟩ : ∃ z, z = k.sort := ⟨_, rfl⟩
 obtain ⟨f, hf⟩ : ∃ z, z = j.last.flag := ⟨_, rfl⟩
 obtain ⟨f2, hf2⟩ : ∃ z, z = k.last.flag := ⟨_, rfl⟩
 obtain ⟨u, hu⟩ : ∃ z, z = j.last.bits := ⟨_, rfl⟩
 obtain ⟨u2, hu2⟩ : ∃ z, z = k.last.bits := ⟨_, rfl⟩
 obtain ⟨t, ht⟩ : ∃ z, z = j.last.text := ⟨_, rfl⟩
 obtain ⟨t2, ht2⟩ : ∃ z, z = k.last.text := ⟨_, rfl⟩
 obtain ⟨n, hnn⟩ : ∃ z, z = j.items.length := ⟨_, rfl⟩
 obtain ⟨n2, hn2⟩ : ∃ z, z = k.items.length := ⟨_, rfl⟩
 obtain ⟨m, hm⟩ : ∃ z, z = j.keys.length := ⟨_, rfl⟩
 obtain ⟨m2, hm2⟩ : ∃ z, z = k.keys.length := ⟨_, rfl⟩
 have hv' : v = [.int .i64 z, .bool f, .int .u64 u, .string t, .slice A n c, .slice B m d] := by rw [hv, hz, hf, hu, ht, hnn, hm]; rfl
 have hv2' : v2 = [.int .i64 z2, .bool f2, .int .u64 u2, .string t2, .slice A2 n2 c2, .slice B2 m2 d2] := by rw [hv2, hz2, hf2, hu2, ht2, hn2, hm2]; rfl
 have HZ := Lib.hid (And.intro (And.intro hz hz2) (And.intro (And.intro hf hf2) (And.intro (And.intro hu hu2) (And.intro ht ht2))))
 have HN := Lib.hid (And.intro (And.intro hnn hn2) (And.intro hm hm2))
 have HX := Lib.hid (And.intro hx hx2)
 have HRW := Lib.hid (And.intro hA hA2)
 have HKR := Lib.hid (And.intro hB hB2)
 have HIH := Lib.hid ih
 have HSM := Lib.hid (And.intro hn hkl)
 subst hv' hv2'
 have HB0 : Hid (Box2V w ((w.alloc (.cells #[.int .i64 z, .bool f, .int .u64 u, .string t, .slice A n c, .slice B m d] 31)).alloc (.cells #[.int .i64 z2, .bool f2, .int .u64 u2, .string t2, .slice A2 n2 c2, .slice B2 m2 d2] 31)) w.heap.size (w.heap.size + 1) [.int .i64 z, .bool f, .int .u64 u, .string t, .slice A n c, .slice B m d] [.int .i64 z2, .bool f2, .int .u64 u2, .string t2, .slice A2 n2 c2, .slice B2 m2 d2]) := Lib.hid (by
  have h1 := Blk.new w 31 [.int .i64 z, .bool f, .int .u64 u, .string t, .slice A n c, .slice B m d]
  have h2 := Blk.new (w.alloc (.cells #[.int .i64 z, .bool f, .int .u64 u, .string t, .slice A n c, .slice B m d] 31)) 31 [.int .i64 z2, .bool f2, .int .u64 u2, .string t2, .slice A2 n2 c2, .slice B2 m2 d2]
  rw [World.size_alloc] at h2
  exact ⟨((Keeps.refl _ w).alloc _).alloc _, h1.alloc _, h2⟩)
 clear h h2 hv hv2 hA hA2 hB hB2 hx hx2 hz hz2 hf hf2 hu hu2 ht ht2 hnn hn2 hm hm2 ih hn hkl
 obtain ⟨b1, hb1⟩ : ∃ b, b = w.heap.size := ⟨_, rfl⟩
 obtain ⟨b2, hb2⟩ : ∃ b, b = w.heap.size + 1 := ⟨_, rfl⟩
 go_enter Tryz.func68, Tryz.ntmps68
 go_upto_region 1 with fail
 rw [← hb2, ← hb1] at HB0
 rw [← hb2, ← hb1]
 clear hb1 hb2
 refine gen_codeF (fun W => Box2V w W b1 b2 [.int .i64 z, .bool f, .int .u64 u, .string t, .slice A n c, .slice B m d] [.int .i64 z2, .bool f2, .int .u64 u2, .string t2, .slice A2 n2 c2, .slice B2 m2 d2]) HB0.out ?_
 intro w1 hbx
 have x0 : w1.cell? ⟨b1, 0, none⟩ = some (.int .i64 z) := hbx.k1.cell 0
 have y0 : w1.cell? ⟨b2, 0, none⟩ = some (.int .i64 z2) := hbx.k2.cell 0
 have x1 : w1.cell? ⟨b1, 1, none⟩ = some (.bool f) := hbx.k1.cell 1
 have y1 : w1.cell? ⟨b2, 1, none⟩ = some (.bool f2) := hbx.k2.cell 1
 have x2 : w1.cell? ⟨b1, 2, none⟩ = some (.int .u64 u) := hbx.k1.cell 2
 have y2 : w1.cell? ⟨b2, 2, none⟩ = some (.int .u64 u2) := hbx.k2.cell 2
 have x3 : w1.cell? ⟨b1, 3, none⟩ = some (.string t) := hbx.k1.cell 3
 have y3 : w1.cell? ⟨b2, 3, none⟩ = some (.string t2) := hbx.k2.cell 3
 have x4 : w1.cell? ⟨b1, 4, none⟩ = some (.slice A n c) := hbx.k1.cell 4
 have y4 : w1.cell? ⟨b2, 4, none⟩ = some (.slice A2 n2 c2) := hbx.k2.cell 4
 have x5 : w1.cell? ⟨b1, 5, none⟩ = some (.slice B m d) := hbx.k1.cell 5
 have y5 : w1.cell? ⟨b2, 5, none⟩ = some (.slice B2 m2 d2) := hbx.k2.cell 5
 have HBX := Lib.hid hbx
 clear hbx HB0
 by_cases h0 : z = z2
 case neg =>
  have HN0 : Hid (j ≠ k) := Lib.hid fun e => h0 (by rw [HZ.out.1.1, HZ.out.1.2, e])
  have q0 : (z != z2) = true := by simpa using h0
  clear h0
  go_wp2
  go_ret
  exact same_no HBX.out.keep HN0.out
 subst h0
 by_cases h0 : f = f2
 case neg =>
  have HN0 : Hid (j ≠ k) := Lib.hid fun e => h0 (by rw [HZ.out.2.1.1, HZ.out.2.1.2, e])
  have q0 : (f == f2) = false := by simpa using h0
  clear h0
  go_wp2
  go_ret
  exact same_no HBX.out.keep HN0.out
 subst h0
 by_cases h0 : u = u2
 case neg =>
  have HN0 : Hid (j ≠ k) := Lib.hid fun e => h0 (by rw [HZ.out.2.2.1.1, HZ.out.2.2.1.2, e])
  have q0 : ((u : Int) != (u2 : Int)) = true := by rw [bne_iff_ne]; omega
  clear h0
  go_wp2
  go_ret
  exact same_no HBX.out.keep HN0.out
 subst h0
 by_cases h0 : t = t2
 case neg =>
  have HN0 : Hid (j ≠ k) := Lib.hid fun e => h0 (by rw [HZ.out.2.2.2.1, HZ.out.2.2.2.2, e])
  have q0 : (t.toList == t2.toList) = false := by rw [bytes_told]; exact decide_eq_false h0
  clear h0
  go_wp2
  go_ret
  exact same_no HBX.out.keep HN0.out
 subst h0
 by_cases h0 : n = n2
 case neg =>
  have HN0 : Hid (j ≠ k) := Lib.hid fun e => h0 (by rw [HN.out.1.1, HN.out.1.2, e])
  have q0 : ((n : Int) != (n2 : Int)) = true := by rw [bne_iff_ne]; omega
  clear h0
  go_wp2
  go_ret
  exact same_no HBX.out.keep HN0.out
 subst h0
 by_cases h0 : m = m2
 case neg =>
  have HN0 : Hid (j ≠ k) := Lib.hid fun e => h0 (by rw [HN.out.2.1, HN.out.2.2, e])
  have q0 : ((m : Int) != (m2 : Int)) = true := by rw [bne_iff_ne]; omega
  clear h0
  go_wp2
  go_ret
  exact same_no HBX.out.keep HN0.out
 subst h0
 have hm20 : m ≤ 1048576 := by rw [HN.out.2.1]; exact HSM.out.2
 have hn20 : n ≤ 1048576 := by rw [HN.out.1.1]; have := items_nodes j; have := HSM.out.1; omega
 go_upto_block 0 with fail
 clear x0 x1 x2 x3 x4 x5 y0 y1 y2 y3 y4 y5
 go_wp2
 go_loopg [5] m (fun gk tt wx => ∃ i : Nat, i ≤ m ∧ tt = .int .i64 i ∧ gk = m - i ∧ Hid (Keeps (fun _ => False) w1 wx ∧ j.keys.take i = k.keys.take i))
 case atStart => exact ⟨0, by omega, rfl, rfl, Lib.hid ⟨Keeps.refl _ _, by simp⟩⟩
 case round =>
  obtain ⟨i, hin, rfl, hgk, HO⟩ := hrel
  have HGK := Lib.hid hgk
  clear hgk
  have hbb := HBX.out.stay HO.out.1
  have x5 : wr.cell? ⟨b1, 5, none⟩ = some (.slice B m d) := hbb.k1.cell 5
  have y5 : wr.cell? ⟨b2, 5, none⟩ = some (.slice B2 m d2) := hbb.k2.cell 5
  have HK2 := Lib.hid hbb
  clear hbb
  by_cases hlt : i < m
  ·obtain ⟨g, o, s, hA, hs, hck⟩ := textAt (HKR.out.1.keep HK2.out.keep (fun _ _ _ h => h)) (by rw [← HN.out.2.1]; exact hlt)
   obtain ⟨g2, o2, s2, hA2, hs2, hck2⟩ := textAt (HKR.out.2.keep HK2.out.keep (fun _ _ _ h => h)) (by rw [← HN.out.2.2]; exact hlt)
   subst hA hA2
   have HT3 := Lib.hid (And.intro (And.intro x5 y5) (And.intro hck hck2))
   have HS := Lib.hid (And.intro hs hs2)
   obtain ⟨q, hq⟩ : ∃ q, q = (s.toList == s2.toList) := ⟨_, rfl⟩
   have HQ := Lib.hid hq
   have hi63 : (0 : Int) ≤ (i : Int) := by omega
   have hiN : (i : Int) < (m : Int) := by omega
   have hq2 : (s.toList == s2.toList) = q := hq.symm
   clear hs hs2 hck hck2 hq
   rcases q with _ | _
   all_goals
    go_upto_region 6 with fail
    refine wp_region_held_drew (S := Keeps (fun _ => False) wr) (by kernel_rfl) (Keeps.refl _ _).drew (fun hHeld => ?_)
    refine tI 0 58 hHeld ?_
    try simp only [pu]
    refine tH (i := 1) (oi := ⟨some 59, _, _, _, _, _⟩) (v := ?_) rfl (Or.inl ⟨by rfl, ?_⟩) hHeld ?_
    rotate_left
    ·intro w' hSw
     have cv := cell_keep hSw HT3.out.1.1
     go_simp
     first | done | rfl
    try simp only [pu]
    refine tI 2 60 hHeld ?_
    try simp only [pu]
    refine tI 3 61 hHeld ?_
    try simp only [pu]
    refine tH (i := 4) (oi := ⟨some 62, _, _, _, _, _⟩) (v := ?_) rfl (Or.inl ⟨by rfl, ?_⟩) hHeld ?_
    rotate_left
    ·intro w' hSw
     have cv := cell_keep hSw HT3.out.2.1
     go_simp
     first | done | rfl
    try simp only [pu]
    refine tI 5 63 hHeld ?_
    try simp only [pu]
    refine tH (i := 6) (oi := ⟨some 64, _, _, _, _, _⟩) (v := ?_) rfl (Or.inl ⟨by rfl, ?_⟩) hHeld ?_
    rotate_left
    ·intro w' hSw
     have cv := cell_keep hSw HT3.out.1.2
     go_simp
     first | done | rfl
    try simp only [pu]
    refine tI 7 65 hHeld ?_
    try simp only [pu]
    refine tI 8 66 hHeld ?_
    try simp only [pu]
    refine tH (i := 9) (oi := ⟨some 67, _, _, _, _, _⟩) (v := ?_) rfl (Or.inl ⟨by rfl, ?_⟩) hHeld ?_
    rotate_left
    ·intro w' hSw
     have cv := cell_keep hSw HT3.out.2.2
     go_simp
     first | done | rfl
    try simp only [pu]
    refine tI 10 68 hHeld ?_
    try simp only [pu]
    refine wpAnyH_done (by kernel_rfl) ?_ _
    have HK9 := Lib.hid (HK2.out.keep.trans hHeld fun _ _ h => h)
    have HK8 := Lib.hid (HO.out.1.trans hHeld fun _ _ h => h)
    clear hHeld x5 y5
   ·have HN0 : Hid (j ≠ k) := Lib.hid fun e => by
     have h1 := HS.out.1
     rw [e, HS.out.2] at h1
     injection h1 with h1
     have h2 := HQ.out
     rw [h1] at h2
     simp at h2
    go_wp2
    go_ret
    exact same_no HK9.out HN0.out
   ·have HE : Hid (j.keys.take (i + 1) = k.keys.take (i + 1)) := Lib.hid (by
     have h2 := HQ.out.symm
     rw [bytes_told] at h2
     rw [List.take_add_one, List.take_add_one, HO.out.2, HS.out.1, HS.out.2, of_decide_eq_true h2])
    go_wp2
    go_roundg (m - (i + 1))
    case measure => rw [HGK.out]; omega
    case rel => exact ⟨i + 1, by omega, by go_num, rfl, Lib.hid ⟨HK8.out, HE.out⟩⟩
  ·obtain rfl : i = m := by omega
   have HKE : Hid (j.keys = k.keys) := Lib.hid (by
    have h := HO.out.2
    rwa [List.take_of_length_le (by rw [HN.out.2.1]; exact Nat.le_refl _), List.take_of_length_le (by rw [HN.out.2.2]; exact Nat.le_refl _)] at h)
   go_upto_block 2 with fail
   clear x5 y5
   go_wp2
   go_loopg [6] n (fun gk tt wx => ∃ e : Nat, e ≤ n ∧ tt = .int .i64 e ∧ gk = n - e ∧ Hid (Keeps (fun _ => False) w1 wx ∧ j.items.take e = k.items.take e))
   case atStart => exact ⟨0, by omega, rfl, rfl, Lib.hid ⟨HO.out.1, by simp⟩⟩
   case round =>
    obtain ⟨e, hen, rfl, hgk2, HP⟩ := hrel
    have HGK2 := Lib.hid hgk2
    clear hgk2
    have hbb := HBX.out.stay HP.out.1
    have x4 : wr.cell? ⟨b1, 4, none⟩ = some (.slice A n c) := hbb.k1.cell 4
    have y4 : wr.cell? ⟨b2, 4, none⟩ = some (.slice A2 n c2) := hbb.k2.cell 4
    have HK3 := Lib.hid hbb
    clear hbb
    by_cases hle : e < n
    ·obtain ⟨x, hxx⟩ : ∃ x, j.items[e]? = some x := ⟨_, List.getElem?_eq_getElem (by rw [← HN.out.1.1]; exact hle)⟩
     obtain ⟨y, hyy⟩ : ∃ y, k.items[e]? = some y := ⟨_, List.getElem?_eq_getElem (by rw [← HN.out.1.2]; exact hle)⟩
     obtain ⟨g, o, hA, hr⟩ := HRW.out.1 (by rw [← HN.out.1.1]; omega)
     obtain ⟨g2, o2, hA2, hr2⟩ := HRW.out.2 (by rw [← HN.out.1.2]; omega)
     have hrg := hr e (by rw [← HN.out.1.1]; exact hle)
     have hrg2 := hr2 e (by rw [← HN.out.1.2]; exact hle)
     have hra := HX.out.1 e x hxx
     have hra2 := HX.out.2 e y hyy
     subst hA hA2
     obtain ⟨a0, a1, a2, a3, a4, a5, hac⟩ : ∃ a0 a1 a2 a3 a4 a5, cs e = [a0, a1, a2, a3, a4, a5] := by
      obtain ⟨_, _, _, _, _, h1, _⟩ := hra.form
      exact ⟨_, _, _, _, _, _, h1⟩
     obtain ⟨e0, e1, e2, e3, e4, e5, hec⟩ : ∃ a0 a1 a2 a3 a4 a5, cs2 e = [a0, a1, a2, a3, a4, a5] := by
      obtain ⟨_, _, _, _, _, h1, _⟩ := hra2.form
      exact ⟨_, _, _, _, _, _, h1⟩
     rw [hac] at hrg hra
     rw [hec] at hrg2 hra2
     obtain ⟨bb, hbb⟩ : ∃ bb : Bool, (bb = true ↔ x = y) := ⟨@decide (x = y) (Classical.propDecidable _), by simp⟩
     have HSA : Hid (∀ W, Keeps (fun _ => False) wr W → Calls Tryz.prog 68 #[.agg #[a0, a1, a2, a3, a4, a5], .agg #[e0, e1, e2, e3, e4, e5]] W fun e w' => e = .returned (.bool bb) ∧ Keeps (fun _ => False) W w') := Lib.hid fun W hW => by
      have hkW := HK3.out.keep.trans hW fun _ _ h => h
      refine (HIH.out x (List.mem_of_getElem? hxx) y W [a0, a1, a2, a3, a4, a5] [e0, e1, e2, e3, e4, e5] (hra.stay hkW) (hra2.stay hkW)).mono ?_
      rintro e' w' ⟨b', he, hb', hk⟩
      refine ⟨?_, hk⟩
      rw [he, show b' = bb from Bool.eq_iff_iff.2 (hb'.trans hbb.symm)]
     have HT4 := Lib.hid (And.intro (And.intro x4 y4) (And.intro (fun W (hW : Keeps (fun _ => False) wr W) q v hv => cell_keep (HK3.out.keep.trans hW fun _ _ h => h) (hrg q v hv)) (fun W (hW : Keeps (fun _ => False) wr W) q v hv => cell_keep (HK3.out.keep.trans hW fun _ _ h => h) (hrg2 q v hv))))
     have HXY := Lib.hid (And.intro (And.intro hxx hyy) hbb)
     have hi63 : (0 : Int) ≤ (e : Int) := by omega
     have hiN : (e : Int) < (n : Int) := by omega
     clear hxx hyy hr hr2 hrg hrg2 hra hra2 hac hec hbb
     go_upto_region 11 with fail
     refine wp_region_held_drew (S := Keeps (fun _ => False) wr) (by kernel_rfl) (Keeps.refl _ _).drew (fun hHeld => ?_)
     refine tI 0 76 hHeld ?_
     try simp only [pu]
     refine tH (i := 1) (oi := ⟨some 77, _, _, _, _, _⟩) (v := ?_) rfl (Or.inl ⟨by rfl, ?_⟩) hHeld ?_
     rotate_left
     ·intro w' hSw
      have cv := cell_keep hSw HT4.out.1.1
      go_simp
      first | done | rfl
     try simp only [pu]
     refine tI 2 78 hHeld ?_
     try simp only [pu]
     refine tI 3 79 hHeld ?_
     try simp only [pu]
     refine tH (i := 4) (oi := ⟨some 80, _, _, _, _, _⟩) (v := _) rfl (yieldsIf_load_mid (by rfl) _ _ rfl _ _ rfl [a0, a1, a2, a3, a4, a5] _ (fun w' h => HT4.out.2.1 _ h) Tryz.underlying31 rfl (by kernel_rfl)) hHeld ?_
     try simp only [pu]
     refine tI 5 81 hHeld ?_
     try simp only [pu]
     refine tH (i := 6) (oi := ⟨some 82, _, _, _, _, _⟩) (v := ?_) rfl (Or.inl ⟨by rfl, ?_⟩) hHeld ?_
     rotate_left
     ·intro w' hSw
      have cv := cell_keep hSw HT4.out.1.2
      go_simp
      first | done | rfl
     try simp only [pu]
     refine tI 7 83 hHeld ?_
     try simp only [pu]
     refine tI 8 84 hHeld ?_
     try simp only [pu]
     refine tH (i := 9) (oi := ⟨some 85, _, _, _, _, _⟩) (v := _) rfl (yieldsIf_load_mid (by rfl) _ _ rfl _ _ rfl [e0, e1, e2, e3, e4, e5] _ (fun w' h => HT4.out.2.2 _ h) Tryz.underlying31 rfl (by kernel_rfl)) hHeld ?_
     try simp only [pu]
     refine rH 10 (some 86) fun K hK => ?_
     go_simp
     refine (HSA.out _ hHeld).mono ?_
     rintro e vv ⟨rfl, hkk⟩
     have hqq := hHeld.trans hkk (fun _ _ h => h)
     refine hK.out _ _ hqq (fun hHeld => ?_)
     clear hK K
     try simp only [pu]
     refine tI 11 87 hHeld ?_
     try simp only [pu]
     refine wpAnyH_done (by kernel_rfl) ?_ _
     have HK9 := Lib.hid (HK3.out.keep.trans hHeld fun _ _ h => h)
     have HK8 := Lib.hid (HP.out.1.trans hHeld fun _ _ h => h)
     clear hHeld x4 y4
     rcases bb with _ | _
     ·have HN0 : Hid (j ≠ k) := Lib.hid fun e' => by
       have h1 := HXY.out.1.1
       rw [e', HXY.out.1.2] at h1
       injection h1 with h1
       have h2 := HXY.out.2.2 h1.symm
       cases h2
      go_wp2
      go_ret
      exact same_no HK9.out HN0.out
     ·have HE : Hid (j.items.take (e + 1) = k.items.take (e + 1)) := Lib.hid (by
       rw [List.take_add_one, List.take_add_one, HP.out.2, HXY.out.1.1, HXY.out.1.2, HXY.out.2.1 rfl])
      go_wp2
      go_roundg (n - (e + 1))
      case measure => rw [HGK2.out]; omega
      case rel => exact ⟨e + 1, by omega, by go_num, rfl, Lib.hid ⟨HK8.out, HE.out⟩⟩
    ·obtain rfl : e = n := by omega
     have HJK : Hid (j = k) := Lib.hid (by
      have h := HP.out.2
      rw [List.take_of_length_le (by rw [HN.out.1.1]; exact Nat.le_refl _), List.take_of_length_le (by rw [HN.out.1.2]; exact Nat.le_refl _)] at h
      have hz := HZ.out
      exact jv_ext (hz.1.1.symm.trans hz.1.2) (hz.2.1.1.symm.trans hz.2.1.2) (hz.2.2.1.1.symm.trans hz.2.2.1.2) (hz.2.2.2.1.symm.trans hz.2.2.2.2) h HKE.out)
     go_wp2
     go_ret
     exact ⟨true, rfl, ⟨fun _ => HJK.out, fun _ => rfl⟩, HK3.out.keep⟩
theorem rsame_any : ∀ (j : JV), JOk j → j.nodes ≤ 1048576 → ∀ (k : JV) (D E : Nat → Prop) (w : World) (v v2 : List Value), RAt D w v j → RAt E w v2 k → Calls Tryz.prog 68 #[.agg v.toArray, .agg v2.toArray] w (SamePost w j k) := by
 intro j hok
 induction hok with
 | mk j h1 h2 hp hr ht h ih =>
  intro hn k D E w v v2 hj hk
  have h3 := items_nodes j
  refine rsame_one w v v2 j k hj hk hn (by have := (JOk.mk j h1 h2 hp hr ht h).form.1; omega) fun x hx y W t s hx2 hy2 => ih x hx ?_ y D E W t s hx2 hy2
  have h5 := sumN_mem (List.mem_map.2 ⟨x, hx, rfl⟩ : x.nodes ∈ j.items.map fun x => x.nodes)
  rw [JV.nodes_eq] at hn
  omega
end Go.Proofs.YtdmcioghdindfaaGreatDoor
