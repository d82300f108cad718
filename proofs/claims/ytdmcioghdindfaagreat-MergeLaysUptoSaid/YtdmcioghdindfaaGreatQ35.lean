/-
  Texts put together: RKeysW.
-/
import Derived.Test.YtdmcioghdindfaaGreatQ32
import Derived.Test.YtdmcioghdindfaaGreatQ18
import Derived.Test.YtdmcioghdindfaaGreatQ03
set_option linter.unusedSimpArgs false
namespace Go.Aff
open Go Go.RowKit
theorem Two.aside {F : Nat → Prop} {w wr w' : World} {e f : TypeId} {s t : Nat} {A B : Option Addr} {n c m d : Nat} {xs ys : List Value} (h : Two w wr e s A n c xs f t B m d ys) (hk : Keeps F wr w') (h0 : ∀ i, F i → w.heap.size ≤ i)
  (h1 : ∀ g, (Value.slice A n c).ownBlock = some g → ¬ F g) (h2 : ∀ g, (Value.slice B m d).ownBlock = some g → ¬ F g) : Two w w' e s A n c xs f t B m d ys :=
 have hw : Keeps (fun _ => False) w w' := h.a.2.1.trans hk fun i hi e => by have := h0 i e; omega
 ⟨⟨hk.own h.a.1 h1, hw, h.a.2.2⟩, ⟨hk.own h.b.1 h2, hw, h.b.2.2⟩, h.ap⟩
end Go.Aff
namespace Go.Json
def keysTo (os : List (Option JV)) (i : Nat) : List ByteArray := ((os.take i).map fun o => (mem2 o).1).flatten
theorem keysTo_next {os : List (Option JV)} {i : Nat} {o : Option JV} (h : os[i]? = some o) : keysTo os (i + 1) = keysTo os i ++ (mem2 o).1 := by
 unfold keysTo
 rw [List.take_add_one, h, List.map_append, List.flatten_append]
 simp
theorem keysTo_sub (os : List (Option JV)) (i : Nat) : (keysTo os i).Sublist (keysTo os os.length) := by
 unfold keysTo
 rw [List.take_length]
 have h : ∀ a b : List (List ByteArray), a.flatten.Sublist (a ++ b).flatten := fun a b => by rw [List.flatten_append]; exact List.sublist_append_left _ _
 have := h ((os.take i).map fun o => (mem2 o).1) ((os.drop i).map fun o => (mem2 o).1)
 rwa [← List.map_append, List.take_append_drop] at this
end Go.Json
namespace Go.Proofs.YtdmcioghdindfaaGreat
open Go Go.RowKit Go.Aff Go.Json
attribute [local go_sem] Oper.semAt_some
def MetMap (D : DataW Unit) (ks : List ByteArray) : Prop := Maps.IsMap D ∧ (∀ s, s ∈ ks → D.atKey (kS s) (.lit (.int .i64 0)) = .lit (.int .i64 1)) ∧ ∀ s, s ∉ ks → D.atKey (kS s) (.lit (.int .i64 0)) = .lit (.int .i64 0)
theorem MetMap.zero : MetMap (.map []) [] := ⟨⟨[], rfl⟩, fun s h => absurd h List.not_mem_nil, fun s _ => Maps.atKey_of_not_has (by simp [Maps.has]) _⟩
theorem MetMap.step {D : DataW Unit} {ks : List ByteArray} {s : ByteArray} (h : MetMap D ks) (hsz : s.size ≤ maxLen) : MetMap (D.put (kS s) (.lit (.int .i64 1))) (ks ++ [s]) := by
 obtain ⟨h1, h2, h3⟩ := h
 refine ⟨?_, fun t ht => ?_, fun t ht => ?_⟩
 ·obtain ⟨es, rfl⟩ := h1
  exact ⟨_, rfl⟩
 ·by_cases e : t = s
  ·subst e
   exact Maps.atKey_put_same h1 (kS_key t hsz) _ _
  ·rw [Maps.atKey_put_other (fun e' => e (kS_inj e'))]
   exact h2 t ((List.mem_append.1 ht).resolve_right fun h => e (List.mem_singleton.1 h))
 ·have e : t ≠ s := fun e => ht (List.mem_append_right _ (List.mem_singleton.2 e))
  rw [Maps.atKey_put_other (fun e' => e (kS_inj e'))]
  exact h3 t fun h => ht (List.mem_append_left _ h)
theorem field_val5 (u0 : Int) (u1 : Bool) (u2 : Int) (u3 : ByteArray) (M : Option Addr) (u4 u5 : Nat) (A : Option Addr) (m c : Nat) (w : World) : (Instr.field 29 (.agg #[.int .i64 u0, .bool u1, .int .u64 u2, .string u3, .slice M u4 u5, .slice A m c]) 5).run Tryz.prog w = .ok (.slice A m c) w := by kernel_rfl
def nullC : List Value := [.int .i64 1, .bool false, .int .u64 0, .string .empty, .slice none 0 0, .slice none 0 0]
def nullsC (n : Nat) : List Value := (List.replicate n nullC).flatten
theorem nullsC_next (n : Nat) : nullsC (n + 1) = nullsC n ++ nullC := by
 unfold nullsC
 rw [List.replicate_succ', List.flatten_append]
 simp
structure KSt (w wx : World) (mb : Nat) (ks : List ByteArray) (Dm : DataW Unit) (L : Option Addr) (q cl : Nat) (M : Option Addr) (cm : Nat) : Prop where
 len : q = ks.length
 two : Two w wx 9 1 L q cl (ks.map .string) 29 6 M q cm (nullsC q)
 own : wx.ownsMap Tryz.prog 9 (plainElem Tryz.prog 3) mb q Dm
 lo : w.heap.size ≤ mb
 na : (Value.slice L q cl).ownBlock ≠ some mb
 nb : (Value.slice M q cm).ownBlock ≠ some mb
 map : MetMap Dm ks
 nodup : ks.Nodup
theorem rd_low {w : World} {A : Option Addr} {n : Nat} {xs : List Value} (h : Rd w A n xs) (hn : 0 < n) {a : Addr} (e : A = some a) : a.block < w.heap.size := by
 obtain ⟨g, o, e1, h1⟩ := h.2 hn
 have h2 := h1 0 hn
 rw [e] at e1
 injection e1 with e1
 subst e1
 rw [List.getElem?_eq_getElem (by rw [h.1]; exact hn)] at h2
 exact World.block_lt_of_cell? _ _ h2
theorem map_lt {H : Type} {P : Program} {k : TypeId} {R : Value → Option (DataW H × List MemPlace)} {w : World} {b n : Nat} {D : DataW H} (h : w.ownsMap P k R b n D) : b < w.heap.size := by
 obtain ⟨es, clock, hb, _⟩ := h
 exact (Array.getElem?_eq_some_iff.1 hb).1
theorem keys_end {w w' : World} {v : List Value} {ks : List ByteArray} {n : Nat} {all : List ByteArray} (h : RAt (fun i => False ∨ w.heap.size ≤ i) w' v (mkObj ks (List.replicate n .null))) (hn : ks.length = n) (hnd : ks.Nodup) (hri : ∀ s ∈ ks, rightS s = true) (hall : ∀ s, s ∈ ks ↔ s ∈ all) :
  ∃ (u0 : Int) (u1 : Bool) (u2 : Int) (u3 : ByteArray) (M : Option Addr) (u4 u5 : Nat) (A : Option Addr) (m c : Nat) (cs : List ByteArray), v = [.int .i64 u0, .bool u1, .int .u64 u2, .string u3, .slice M u4 u5, .slice A m c] ∧ cs.length = m ∧ m = n ∧ Rd w' A m (cs.map .string) ∧ InB (fun i => w.heap.size ≤ i) A m ∧ cs.Pairwise ltS ∧ ∀ s, s ∈ cs ↔ s ∈ all := by
 obtain ⟨A, c, B, d, cs, hv, _, _, hB, oB, _⟩ := h.form
 have hl : ks.length = (List.replicate n JV.null).length := by rw [List.length_replicate, hn]
 have hk : (mkObj ks (List.replicate n JV.null)).keys = (sortM (ks.zip (List.replicate n JV.null))).map (·.1) := rfl
 have hp := fst_perm hl
 refine ⟨_, _, _, _, A, _, c, B, _, d, (mkObj ks (List.replicate n JV.null)).keys, hv, rfl, ?_, hB, oB.mono fun i hi => hi.elim False.elim id, ?_, fun s => ?_⟩
 ·rw [hk, hp.length_eq, hn]
 ·rw [hk]
  exact rising_map (sorted_rising hl hnd hri)
 ·rw [hk, hp.mem_iff, hall]
set_option maxHeartbeats 4000000 in
set_option maxRecDepth 100000 in
theorem rkeysof_any {D : Nat → Prop} (w : World) (A : Option Addr) (n c : Nat) (css : List (List Value)) (os : List (Option JV)) (hA : RdS 6 w A n css.flatten) (hcl : css.length = n) (hol : os.length = n) (hx : ∀ (i : Nat) cs o, css[i]? = some cs → os[i]? = some o → ORAt D w cs o)
  (hm : (keysTo os n).length ≤ 1048576) (hri : ∀ s ∈ keysTo os n, rightS s = true ∧ s.size ≤ 1099511627776) (hn : n ≤ 1048576) :
  Calls Tryz.prog 22 #[.slice A n c] w fun e w' => ∃ (A' : Option Addr) (m c' : Nat) (cs : List ByteArray), e = .returned (.slice A' m c') ∧ cs.length = m ∧ m ≤ 1048576 ∧ Rd w' A' m (cs.map .string) ∧ InB (fun i => w.heap.size ≤ i) A' m ∧ cs.Pairwise ltS ∧ (∀ s, s ∈ cs ↔ s ∈ keysTo os n) ∧ Keeps (fun _ => False) w w' := by
 have h6 : ∀ cs ∈ css, cs.length = 6 := fun cs hc => by
  obtain ⟨i, hi⟩ := List.mem_iff_getElem?.1 hc
  have hlt := (List.getElem?_eq_some_iff.1 hi).1
  obtain ⟨o, ho⟩ : ∃ o, os[i]? = some o := ⟨_, List.getElem?_eq_getElem (by omega)⟩
  exact (hx i cs o hi ho).len
 have HA := Lib.hid (And.intro hA h6)
 have HX := Lib.hid hx
 have HN := Lib.hid (And.intro hcl hol)
 have HM := Lib.hid (And.intro hm hri)
 have HMK : Hid (∀ W (L : Option Addr) (q cl : Nat) (M : Option Addr) (cm : Nat) (ks : List ByteArray), Keeps (fun _ => False) w W → ks.length = q → Rd W L q (ks.map .string) → RdS 6 W M q (nullsC q) → ks.Nodup → (∀ s, s ∈ ks ↔ s ∈ keysTo os n) → q ≤ 1048576 → Calls Tryz.prog 36 #[.slice L q cl, .slice M q cm] W fun e w' => ∃ (u0 : Int) (u1 : Bool) (u2 : Int) (u3 : ByteArray) (M : Option Addr) (u4 u5 : Nat) (A : Option Addr) (m c : Nat) (cs : List ByteArray), e = .returned (.agg #[.int .i64 u0, .bool u1, .int .u64 u2, .string u3, .slice M u4 u5, .slice A m c]) ∧ Hid (cs.length = m ∧ m = q ∧ Rd w' A m (cs.map .string) ∧ InB (fun i => w.heap.size ≤ i) A m ∧ cs.Pairwise ltS ∧ (∀ s, s ∈ cs ↔ s ∈ keysTo os n) ∧ Keeps (fun _ => False) w w')) := Lib.hid fun W L q cl M cm ks hW hkl hL hM hnd hall hq => by
  refine (rmade_any (D := fun _ => False) W L q cl ks hkl hL M cm (List.replicate q nullC) (List.replicate q .null) hM ⟨by simp, fun i cs x h1 h2 => ?_⟩ (by simp) hnd (fun s hs => (hri s ((hall s).1 hs)).1) (fun s hs => (hri s ((hall s).1 hs)).2) hq).mono ?_
  ·have e1 : cs = nullC := List.eq_of_mem_replicate (List.mem_of_getElem? h1)
   have e2 : x = .null := List.eq_of_mem_replicate (List.mem_of_getElem? h2)
   subst e1 e2
   exact RAt.leaf .null rfl rfl
  ·rintro e w' ⟨v, he, hr, hk⟩
   obtain ⟨u0, u1, u2, u3, M', u4, u5, A, m, c, cs, hv, h1, h2, h3, h4, h5, h6⟩ := keys_end hr hkl hnd (fun s hs => (hri s ((hall s).1 hs)).1) hall
   subst hv
   exact ⟨u0, u1, u2, u3, M', u4, u5, A, m, c, cs, he, Lib.hid ⟨h1, h2, h3, h4.mono fun i hi => Nat.le_trans hW.size hi, h5, h6, hW.trans hk fun _ _ h => h⟩⟩
 clear hA h6 hcl hol hx hm hri
 go_enter Tryz.func22, Tryz.ntmps22
 have hmm := @run_makeMap Tryz.prog
 go_upto_region 2 with fail
 clear hmm
 obtain ⟨mb, hmbq⟩ : ∃ b, b = w.heap.size := ⟨_, rfl⟩
 have hM0 : KSt w (w.alloc (.map #[] 0)) mb [] (.map []) none 0 0 none 0 := by
  rw [hmbq]
  exact ⟨rfl, (Two.nil w 9 29 1 6).alloc _, World.ownsMap_made (H := Unit) w Tryz.prog 9 (plainElem Tryz.prog 3), Nat.le_refl _, by simp [Value.ownBlock], by simp [Value.ownBlock], MetMap.zero, .nil⟩
 rw [← hmbq]
 have HM0 := Lib.hid hM0
 clear hM0 hmbq
 refine gen_codeF (fun W => KSt w W mb [] (.map []) none 0 0 none 0) HM0.out ?_
 clear HM0
 intro w2 hs2
 have HS2 := Lib.hid hs2
 clear hs2
 go_upto_block 0 with fail
 go_wp2
 go_loopg [4, 5, 6] n (fun gk y z t wx => ∃ (i : Nat) (ks : List ByteArray) (Dm : DataW Unit) (L : Option Addr) (q cl : Nat) (M : Option Addr) (cm : Nat), i ≤ n ∧ y = .slice L q cl ∧ z = .slice M q cm ∧ t = .int .i64 i ∧ gk = n - i ∧ q ≤ 1048576 ∧ Hid (KSt w wx mb ks Dm L q cl M cm) ∧ Hid ((∀ s, s ∈ ks ↔ s ∈ keysTo os i) ∧ q ≤ (keysTo os i).length))
 case atStart => exact ⟨0, [], .map [], none, 0, 0, none, 0, by omega, rfl, rfl, rfl, rfl, by omega, HS2, Lib.hid ⟨fun s => by simp [keysTo], by omega⟩⟩
 case round =>
  obtain ⟨i, ks, Dm, L, q, cl, M, cm, hin, rfl, rfl, rfl, hgk, hq, HO, HKS⟩ := hrel
  have HGK := Lib.hid hgk
  clear hgk
  by_cases hlt : i < n
  ·obtain ⟨g, o, hAe, hc⟩ := (HA.out.1.keep HO.out.two.a.2.1 (fun _ _ _ h => h)).2 (by omega)
   subst hAe
   obtain ⟨cs, hcs⟩ : ∃ cs, css[i]? = some cs := ⟨_, List.getElem?_eq_getElem (by rw [HN.out.1]; exact hlt)⟩
   obtain ⟨ov, hov⟩ : ∃ ov, os[i]? = some ov := ⟨_, List.getElem?_eq_getElem (by rw [HN.out.2]; exact hlt)⟩
   have hrg := item_range hc hlt HA.out.2 hcs
   have hox := HX.out i cs ov hcs hov
   have HKN := Lib.hid (keysTo_next hov)
   obtain ⟨u1, u2, u3, A4, na, c4, B, nb, d, hv⟩ := hox.six
   obtain ⟨so, hso⟩ : ∃ so, so = osort ov := ⟨_, rfl⟩
   rw [← hso] at hv
   subst hv
   have x0 : wr.cell? ⟨g, o + i * 6, none⟩ = some (.int .i64 so) := by have := hrg 0 _ rfl; simpa using this
   have x5 : wr.cell? ⟨g, o + i * 6 + 5, none⟩ = some (.slice B nb d) := hrg 5 _ rfl
   have hi63 : (0 : Int) ≤ (i : Int) := by omega
   have hiN : (i : Int) < (n : Int) := by omega
   by_cases h6 : so = 6
   ·have hne : (so != 6) = false := by rw [h6]; rfl
    obtain ⟨k0, l0, ho⟩ := osort_obj (hso ▸ h6)
    subst ho
    have hnb : nb = k0.length ∧ Rd w B nb (k0.map .string) := by
     obtain ⟨A', c', B', d', cs', hv', _, _, hB', _⟩ := RAt.form hox
     injection hv' with _ hv'
     injection hv' with _ hv'
     injection hv' with _ hv'
     injection hv' with _ hv'
     injection hv' with _ hv'
     injection hv' with hv' _
     injection hv' with e1 e2 e3
     subst e1 e2 e3
     exact ⟨rfl, hB'⟩
    have HKB := Lib.hid hnb
    have HXL : Hid (g < w.heap.size ∧ w.cell? ⟨g, o + i * 6 + 5, none⟩ = some (.slice B nb d)) := Lib.hid (by
     obtain ⟨g', o', e1, e2⟩ := HA.out.1.2 (by omega)
     injection e1 with e1
     injection e1 with e1 e3
     subst e1 e3
     have h5 := item_range e2 hlt HA.out.2 hcs 5 _ rfl
     exact ⟨World.block_lt_of_cell? _ _ h5, h5⟩)
    have hnbl : nb ≤ 1048576 := by
     have h1 := (keysTo_sub os (i + 1)).length_le
     rw [HN.out.2, HKN.out, List.length_append] at h1
     have h2 := HM.out.1
     have h3 : (mem2 (some (JV.obj k0 l0))).1.length = k0.length := rfl
     have := hnb.1
     omega
    have HBD : Hid ((keysTo os i).length + nb ≤ 1048576 ∧ ∀ s ∈ k0, rightS s = true ∧ s.size ≤ 1099511627776) := Lib.hid (by
     have h1 := (keysTo_sub os (i + 1)).length_le
     have h0 := fun s => (keysTo_sub os (i + 1)).subset (a := s)
     rw [HN.out.2, HKN.out] at h0 h1
     rw [List.length_append] at h1
     have h2 := HM.out.1
     have h3 : (mem2 (some (JV.obj k0 l0))).1 = k0 := rfl
     have := hnb.1
     rw [h3] at h0 h1
     exact ⟨by omega, fun s hs => HM.out.2 s (h0 s (List.mem_append_right _ hs))⟩)
    clear hox hso h6 hnb hc hcs hov hrg
    have hIX : (i : Int) < (n : Int) := hiN
    go_upto_block 2 with fail
    go_wp2
    go_loopg [4, 5, 7] nb (fun gk y z t wx => ∃ (k : Nat) (ks : List ByteArray) (Dm : DataW Unit) (L : Option Addr) (q cl : Nat) (M : Option Addr) (cm : Nat), k ≤ nb ∧ y = .slice L q cl ∧ z = .slice M q cm ∧ t = .int .i64 k ∧ gk = nb - k ∧ q ≤ 1048576 ∧ Hid (KSt w wx mb ks Dm L q cl M cm) ∧ Hid ((∀ s, s ∈ ks ↔ s ∈ keysTo os i ++ k0.take k) ∧ q ≤ (keysTo os i).length + k))
    case atStart => exact ⟨0, ks, Dm, L, q, cl, M, cm, by omega, rfl, rfl, rfl, rfl, by omega, HO, Lib.hid ⟨fun s => by rw [List.take_zero, List.append_nil]; exact HKS.out.1 s, HKS.out.2⟩⟩
    case round =>
     clear x0 x5 HO HKS hq ks Dm L cl M cm q
     obtain ⟨k, ks, Dm, L, q, cl, M, cm, hkn, rfl, rfl, rfl, hgk2, hq, HO, HKS⟩ := hrel
     have HGK2 := Lib.hid hgk2
     clear hgk2
     have HCE : Hid (∀ V, Keeps (fun i => w.heap.size ≤ i) w V → V.cell? ⟨g, o + i * 6 + 5, none⟩ = some (.slice B nb d) ∧ Rd V B nb (k0.map .string)) := Lib.hid fun V hV => ⟨(hV.cell HXL.out.1 (fun e => by have h2 : w.heap.size ≤ g := e; have := HXL.out.1; omega)).trans HXL.out.2, HKB.out.2.keep hV fun hn a e h => by have := rd_low HKB.out.2 hn e; have h2 : w.heap.size ≤ a.block := h; omega⟩
     have x5 := (HCE.out wr (HO.out.two.a.2.1.mono fun _ _ h => h.elim)).1
     by_cases hlk : k < nb
     ·obtain ⟨g3, o3, t, hB, hkt, hck⟩ := textAt (HCE.out wr (HO.out.two.a.2.1.mono fun _ _ h => h.elim)).2 hlk
      subst hB
      have HT3 : Hid (∀ V, Keeps (fun i => w.heap.size ≤ i) wr V → V.cell? ⟨g, o + i * 6 + 5, none⟩ = some (.slice (some ⟨g3, o3, none⟩) nb d) ∧ V.cell? ⟨g3, o3 + k, none⟩ = some (.string t)) := Lib.hid fun V hV => by
       obtain ⟨h1, h2⟩ := HCE.out V ((HO.out.two.a.2.1.mono (G := fun i => w.heap.size ≤ i) fun _ _ h => h.elim).trans hV fun _ _ h => h)
       obtain ⟨g', o', t', e1, e2, e3⟩ := textAt h2 hlk
       injection e1 with e1
       injection e1 with e1 e4
       subst e1 e4
       rw [hkt] at e2
       injection e2 with e2
       subst e2
       exact ⟨h1, e3⟩
      have htk : k0[k]? = some t := hkt
      have hto := HBD.out.2 t (List.mem_of_getElem? hkt)
      have HKT : Hid (k0.take (k + 1) = k0.take k ++ [t]) := Lib.hid (by rw [List.take_add_one, hkt]; rfl)
      have HKEY := Lib.hid (kS_of t (by have := hto.2; unfold maxLen; omega))
      have HZ : Hid (t.size ≤ maxLen) := Lib.hid (by have := hto.2; unfold maxLen; omega)
      have HMX : Hid (q < maxLen) := Lib.hid (by unfold maxLen; omega)
      have HIR : Hid (plainElem (H := Unit) Tryz.prog 3 (.int .i64 1) = some (.lit (.int .i64 1), [])) := Lib.hid (plainInt _ ⟨by decide, by decide⟩)
      have hk0 : (0 : Int) ≤ (k : Int) := by omega
      have hkN : (k : Int) < (nb : Int) := by omega
      have HCK := Lib.hid hck
      have ckk := hck
      clear hkt htk hto hck
      by_cases hin2 : t ∈ ks
      ·have HAT : Hid (∀ cc : Int, Dm.atKey (kS t) (.lit (.int .i64 0)) = .lit (.int .i64 cc) → cc = 1) := Lib.hid fun cc h => by
        have h2 := HO.out.map.2.1 t hin2
        rw [h] at h2
        injection h2 with h2
        injection h2
       have HIN := Lib.hid hin2
       clear hin2
       go_wp2_with (at_lookup; refine wpList_lookup_own_int _ rfl _ _ 97 rfl 9 3 .i64 strKeyed Tryz.underlying97 Tryz.underlying3 (zeroInt _) mb q Dm rfl HO.out.own _ _ rfl HKEY.out ?_; intro cc hcc _; obtain rfl := HAT.out cc hcc; clear hcc)
       go_roundg (nb - (k + 1))
       case measure => rw [HGK2.out]; omega
       case rel => exact ⟨k + 1, ks, Dm, L, q, cl, M, cm, by omega, rfl, rfl, by go_num, rfl, hq, HO, Lib.hid ⟨fun s => by
        rw [HKT.out, ← List.append_assoc, List.mem_append, ← HKS.out.1 s, List.mem_singleton]
        exact ⟨.inl, fun h => h.elim id fun e => by rw [e]; exact HIN.out⟩, by have := HKS.out.2; omega⟩⟩
      ·have HAT : Hid (∀ cc : Int, Dm.atKey (kS t) (.lit (.int .i64 0)) = .lit (.int .i64 cc) → cc = 0) := Lib.hid fun cc h => by
        have h2 := HO.out.map.2.2 t hin2
        rw [h] at h2
        injection h2 with h2
        injection h2
       have HIN := Lib.hid hin2
       have hq1 : q + 1 ≤ 1048576 := by have := HKS.out.2; have := HBD.out.1; omega
       clear hin2
       go_wp2_with (first
        | (at_lookup; refine wpList_lookup_own_int _ rfl _ _ 97 rfl 9 3 .i64 strKeyed Tryz.underlying97 Tryz.underlying3 (zeroInt _) mb q Dm rfl HO.out.own _ _ rfl HKEY.out ?_; intro cc hcc _; obtain rfl := HAT.out cc hcc; clear hcc)
        | (at_mapUpdate; refine wpList_mapUpdate_own _ rfl _ _ _ 97 rfl 9 3 strKeyed Tryz.underlying97 _ mb q Dm rfl HO.out.own HMX.out _ _ _ rfl rfl HKEY.out (.lit (.int .i64 1)) [] HIR.out ?_; intro w9 hown9 hg9; have HO9 := Lib.hid hown9; have HK9 : Hid (Keeps (fun i => i = mb) wr w9) := Lib.hid ((Keeps.of_grown hg9).mono fun i _ e => by injection e with e; exact e.symm); obtain ⟨cv5, cvk⟩ := HT3.out w9 (HK9.out.mono fun i _ e => by have := HO.out.lo; omega); have HT9 : Hid (Two w w9 9 1 L q cl (ks.map .string) 29 6 M q cm (nullsC q)) := Lib.hid (HO.out.two.aside HK9.out (fun i e => by have := HO.out.lo; omega) (fun g hg e => HO.out.na (by rw [hg, e])) (fun g hg e => HO.out.nb (by rw [hg, e]))); clear hown9 hg9)
        | (at_builtin; refine wpList_append_S _ rfl (.tmp 51) (.tmp 60) 27 rfl 9 (.string .empty) 1 16 Tryz.underlying27 (by kernel_rfl) rfl (by decide) L q cl _ rfl (HT9.out.alloc _).a.1 _ 1 1 [.string t] rfl (RdS.blk (Blk.new _ 9 [.string t]) rfl) (by intro u hu; rw [List.mem_singleton.1 hu]; rfl) (by unfold maxLen; omega) (by omega) ?_; intro A4 c4 w4 ho4 hg4 hb4; have HT4 := Lib.hid ((HT9.out.alloc _).grown ho4 hg4 hb4); have HB4 := Lib.hid hb4; have HK4 := Lib.hid (((Keeps.refl (fun i => (Value.slice L q cl).ownBlock = some i) w9).alloc (.cells #[.string t] 9)).trans ((Keeps.of_grown hg4).mono fun i _ e => e) (fun _ _ h => h)); clear ho4 hg4 hb4)
        | (at_builtin; refine wpList_append_S _ rfl (.tmp 62) (.tmp 64) 26 rfl 29 (.agg #[.int .i64 0, .bool false, .int .u64 0, .string .empty, .slice none 0 0, .slice none 0 0]) 6 88 Tryz.underlying26 (by kernel_rfl) rfl (by decide) M q cm _ rfl (HT4.out.alloc _).b.1 _ 1 1 nullC rfl (RdS.blk (Blk.new _ 29 nullC) rfl) (by decide) (by unfold maxLen; omega) (by omega) ?_; intro A5 c5 w5 ho5 hg5 hb5; have HT5 := Lib.hid (((HT4.out.swap.alloc _).grown ho5 hg5 hb5).swap); have HB5 := Lib.hid hb5; have HK5 := Lib.hid (((Keeps.refl (fun i => (Value.slice M q cm).ownBlock = some i) w4).alloc (.cells nullC.toArray 29)).trans ((Keeps.of_grown hg5).mono fun i _ e => e) (fun _ _ h => h)); clear ho5 hg5 hb5))
       go_roundg (nb - (k + 1))
       case measure => rw [HGK2.out]; omega
       case rel =>
        refine ⟨k + 1, ks ++ [t], Dm.put (kS t) (.lit (.int .i64 1)), A4, q + 1, c4, A5, c5, by omega, rfl, rfl, by go_num, rfl, hq1, Lib.hid ⟨?_, ?_, ?_, HO.out.lo, ?_, ?_, HO.out.map.step HZ.out, ?_⟩, Lib.hid ⟨fun s => ?_, by have := HKS.out.2; omega⟩⟩
        ·rw [List.length_append, ← HO.out.len]; rfl
        ·rw [List.map_append, nullsC_next]; exact HT5.out
        ·exact Keeps.mapS HK5.out (Keeps.mapS HK4.out HO9.out HO.out.na) HO.out.nb
        ·have := map_lt HO9.out
         rcases HB4.out with h | h
         ·rw [h]; exact HO.out.na
         ·rw [h, World.size_alloc]; intro e; injection e with e; omega
        ·have := map_lt HO9.out
         have := HK4.out.size
         rcases HB5.out with h | h
         ·rw [h]; exact HO.out.nb
         ·rw [h, World.size_alloc]; intro e; injection e with e; omega
        ·exact List.nodup_append.2 ⟨HO.out.nodup, by simp, fun a ha b hb e => HIN.out (by rw [← List.mem_singleton.1 hb, ← e]; exact ha)⟩
        ·rw [HKT.out, ← List.append_assoc, List.mem_append, HKS.out.1 s]
         exact List.mem_append.symm
     ·obtain rfl : k = nb := by omega
      have HKE : Hid (∀ s, s ∈ ks ↔ s ∈ keysTo os (i + 1)) := Lib.hid fun s => by
       rw [HKS.out.1 s, HKN.out, List.take_of_length_le (by rw [HKB.out.1]; exact Nat.le_refl _)]; rfl
      have HQE : Hid (q ≤ (keysTo os (i + 1)).length) := Lib.hid (by
       rw [HKN.out, List.length_append]
       have h3 : (mem2 (some (JV.obj k0 l0))).1.length = k0.length := rfl
       have := HKS.out.2; have := HKB.out.1; omega)
      go_wp2
      go_roundg (n - (i + 1))
      case measure => rw [HGK.out]; omega
      case rel => exact ⟨i + 1, ks, Dm, L, q, cl, M, cm, by omega, rfl, rfl, by go_num, rfl, hq, HO, Lib.hid ⟨HKE.out, HQE.out⟩⟩
   ·have hne : (so != 6) = true := by simpa using h6
    have HE0 : Hid (keysTo os (i + 1) = keysTo os i) := Lib.hid (by rw [HKN.out, mem2_none (by rw [← hso]; exact h6), List.append_nil])
    clear hox hso h6 hc hcs hov hrg
    go_wp2
    go_roundg (n - (i + 1))
    case measure => rw [HGK.out]; omega
    case rel => exact ⟨i + 1, ks, Dm, L, q, cl, M, cm, by omega, rfl, rfl, by go_num, rfl, hq, HO, Lib.hid (by rw [HE0.out]; exact HKS.out)⟩
  ·obtain rfl : i = n := by omega
   have HMK2 := Lib.hid (HMK.out wr L q cl M cm ks HO.out.two.a.2.1 HO.out.len.symm (MineS.rd HO.out.two.a) (MineS.rdS HO.out.two.b) HO.out.nodup HKS.out.1 hq)
   clear HMK
   go_wp2_with (go_at_call 36; refine HMK2.out.mono ?_; rintro e w9 ⟨u0, u1, u2, u3, M9, u4, u5, A9, m9, c9, cs9, rfl, H9⟩; have hfld := fun W => field_val5 u0 u1 u2 u3 M9 u4 u5 A9 m9 c9 W)
   go_ret
   exact ⟨A9, m9, c9, cs9, rfl, H9.out.1, by rw [H9.out.2.1]; exact hq, H9.out.2.2.1, H9.out.2.2.2.1, H9.out.2.2.2.2.1, H9.out.2.2.2.2.2.1, H9.out.2.2.2.2.2.2⟩
end Go.Proofs.YtdmcioghdindfaaGreat
