/- Texts. -/
import Derived.Test.YtplleficmkfniaaGreatDoorQ23
import GoSem.Core.Float
import Derived.Laws.Externs
import Derived.Laws.BitsAllLaws
set_option linter.unusedSimpArgs false
set_option maxRecDepth 100000
set_option maxHeartbeats 4000000
namespace Go.Aff
open Go Go.RowKit
theorem wpList_make_S {P : Program} (w0 w : World) {ops : Array Oper} {rest : List Oper} {o : Oper} {a : Act} {Q : Exit → Act → World → Prop} (hg : o.guard = none) (l c : Operand) (t : TypeId) (hop : o.op = Op.makeSlice t l c)
  (e : TypeId) (z : Value) (s bytes : Nat) (ht : P.underlying t = some (.slice e)) (hinfo : (P.info? e).map (fun i => (i.zero, i.size, i.bytes)) = some (some z, s, bytes))
  (kl kc : IntKind) (C : Int) (n : Nat) (hl : a.eval l = .int kl 0) (hc : a.eval c = .int kc C) (hC : C = (n : Int)) (b2 : bytes * n ≤ 281474976710656) (b3 : n ≤ maxLen) (hk : Keeps (fun _ => False) w0 w)
  (hK : ∀ A' w', MineS s w0 w' e A' 0 n [] → wpList P ops Q rest (a.put o.dst (.slice A' 0 n)) w') :
  wpList P ops Q (o :: rest) a w := by
 obtain ⟨i, h2, h3, h4, h5⟩ := info_parts hinfo
 refine wpList_make_own w hg l c t hop 0 e i z s ht h2 h3 h4 kl kc C n hl hc hC (by rw [h5]; exact b2) b3 (Nat.zero_le _) fun w' ho hgr => hK _ w' ⟨ho, hk.trans (Keeps.of_grown hgr) (fun g _ hb => by simp at hb), fun g hg => ?_⟩
 have e1 : some w.heap.size = some g := hg
 injection e1 with e1
 have := hk.size
 omega
end Go.Aff
namespace Go.Proofs.YtplleficmkfniaaGreatDoor
open Go Go.RowKit Go.Aff Go.Json
attribute [local go_sem] Oper.semAt_some
inductive ValIs : JV → Value → Prop
 | null : ValIs .null (.iface 263 (.agg #[]))
 | flag (b : Bool) : ValIs (.flag b) (.iface 265 (.bool b))
 | num (b : Nat) : ValIs (.num b) (.iface 266 (.float .f64 b))
 | text (s : ByteArray) : ValIs (.text s) (.iface 268 (.string s))
 | list (l : List JV) (A : Option Addr) (n c : Nat) : ValIs (.list l) (.iface 317 (.slice A n c))
 | obj (ks : List ByteArray) (l : List JV) (A : Option Addr) (n c : Nat) : ValIs (.obj ks l) (.iface 319 (.slice A n c))
theorem ValIs.iface {j : JV} {v : Value} (h : ValIs j v) : ∃ T y, v = .iface T y := by cases h <;> exact ⟨_, _, rfl⟩
def ValPost (w : World) (j : JV) (e : Ending) (w' : World) : Prop := ∃ v, e = .returned v ∧ ValIs j v ∧ Keeps (fun _ => False) w w'
theorem val_leaf {D : Nat → Prop} (w : World) (v : Value) (j : JV) (hj : JAt D w v j) (hs : j.sort < 5) : Calls Tryz.prog 137 #[.agg #[v]] w (ValPost w j) := by
 cases hj with
 | null =>
  have hb := Blk.new w 95 [.iface 217 (.agg #[])]
  have cb := hb.cell 0
  have HK := H_ ((Keeps.refl (fun _ => False) w).alloc (.cells #[.iface 217 (.agg #[])] 95))
  clear hb hs
  have a0 := as_null_null
  go_enter Tryz.func137, Tryz.ntmps137
  go_wp2
  go_ret
  exact ⟨_, rfl, .null, HK.out.alloc _⟩
 | flag b =>
  have hb := Blk.new w 95 [.iface 218 (.bool b)]
  have cb := hb.cell 0
  have HK := H_ ((Keeps.refl (fun _ => False) w).alloc (.cells #[.iface 218 (.bool b)] 95))
  clear hb hs
  have a0 := as_flag_null
  have a1 := as_flag_flag
  go_enter Tryz.func137, Tryz.ntmps137
  go_wp2
  go_ret
  exact ⟨_, rfl, .flag b, HK.out⟩
 | num b _ _ _ =>
  have hb := Blk.new w 95 [.iface 223 (.float .f64 b)]
  have cb := hb.cell 0
  have HK := H_ ((Keeps.refl (fun _ => False) w).alloc (.cells #[.iface 223 (.float .f64 b)] 95))
  clear hb hs
  have a0 := as_num_null
  have a1 := as_num_flag
  have a2 := as_num_num
  go_enter Tryz.func137, Tryz.ntmps137
  go_wp2
  go_ret
  exact ⟨_, rfl, .num b, HK.out⟩
 | text s =>
  have hb := Blk.new w 95 [.iface 224 (.string s)]
  have cb := hb.cell 0
  have HK := H_ ((Keeps.refl (fun _ => False) w).alloc (.cells #[.iface 224 (.string s)] 95))
  clear hb hs
  have a0 := as_text_null
  have a1 := as_text_flag
  have a2 := as_text_num
  have a3 := as_text_text
  go_enter Tryz.func137, Tryz.ntmps137
  go_wp2
  go_ret
  exact ⟨_, rfl, .text s, HK.out⟩
 | list => simp [JV.sort] at hs
 | obj => simp [JV.sort] at hs
theorem infoVal : (Tryz.prog.info? 261).map (fun i => (i.zero, i.size, i.bytes)) = some (some .nilIface, 1, 16) := by kernel_rfl
theorem infoMem : (Tryz.prog.info? 321).map (fun i => (i.zero, i.size, i.bytes)) = some (some (.agg #[.string ⟨#[]⟩, .nilIface]), 2, 32) := by kernel_rfl
theorem val_list {D : Nat → Prop} (w : World) (v : Value) (l : List JV) (hj : JAt D w v (.list l)) (hn : l.length ≤ 1099511627776) (ih : ∀ x ∈ l, ∀ (W : World) (u : Value), JAt D W u x → Calls Tryz.prog 137 #[.agg #[u]] W (ValPost W x)) :
  Calls Tryz.prog 137 #[.agg #[v]] w (ValPost w (.list l)) := by
 cases hj with
 | @list b A c vs _ hD hbl hr ho hl =>
  obtain ⟨n, hnn⟩ : ∃ n, n = l.length := ⟨_, rfl⟩
  have hb := Blk.new w 95 [.iface 186 (.pointer (some ⟨b, 0, none⟩))]
  have cb := hb.cell 0
  have hk1 : Keeps (fun _ => False) w (w.alloc (.cells #[.iface 186 (.pointer (some ⟨b, 0, none⟩))] 95)) := (Keeps.refl (fun _ => False) w).alloc _
  have HK1 := H_ hk1
  have HC3 : Hid (∀ V, Keeps (fun _ => False) w V → V.cell? ⟨b, 3, none⟩ = some (.slice A n c)) := H_ fun V hV => by
   have := (hV.blk hbl (fun h => h)).cell 3
   rw [← hnn] at this
   exact this
  have c3 := HC3.out _ hk1
  have HIT : Hid (∀ V, Keeps (fun _ => False) w V → ∀ k, k < n → ∃ g o T y, A = some ⟨g, o, none⟩ ∧ V.cell? ⟨g, o + k, none⟩ = some (.iface T y) ∧ ∀ W, Keeps (fun _ => False) V W → Calls Tryz.prog 137 #[.agg #[.iface T y]] W fun e w' => ∃ T' y', e = .returned (.iface T' y') ∧ Keeps (fun _ => False) W w') := H_ fun V hV k hk => by
   obtain ⟨g, o, hA, hc⟩ := (hr.keep hV (no_outF _ _)).2 (by omega)
   obtain ⟨u, hu⟩ : ∃ u, vs[k]? = some u := ⟨_, List.getElem?_eq_getElem (by rw [hr.1]; omega)⟩
   obtain ⟨x, hx⟩ : ∃ x, l[k]? = some x := ⟨_, List.getElem?_eq_getElem (by omega)⟩
   have hat := hl k u x hu hx
   obtain ⟨T, y, e⟩ := hat.iface
   refine ⟨g, o, T, y, hA, by rw [hc k (by omega), hu, e], fun W hW => ?_⟩
   refine (ih x (List.mem_of_getElem? hx) W _ (e ▸ (hat.stay hV).stay hW)).mono ?_
   rintro e' w' ⟨v', he, hv, hk⟩
   obtain ⟨T', y', e2⟩ := hv.iface
   exact ⟨T', y', by rw [he, e2], hk⟩
  have HN := H_ (And.intro hnn hn)
  have hnb : n ≤ 1099511627776 := by omega
  clear hD hbl hr ho hl hb hk1 ih hnn hn
  have a1 := as_list_null
  have a2 := as_list_flag
  have a3 := as_list_num
  have a4 := as_list_text
  have a5 := as_list_list
  go_enter Tryz.func137, Tryz.ntmps137
  go_wp2_with ((with_reducible show wpList _ _ _ (⟨some 45, Op.makeSlice _ _ _, _, _, _, _⟩ :: _) _ _); refine wpList_make_S w _ rfl (.const (.int .i64 0)) (.tmp 44) 317 rfl 261 .nilIface 1 16 Tryz.underlying317 infoVal .i64 .i64 n n rfl rfl rfl (by omega) (by simp only [maxLen]; omega) HK1.out ?_; intro A2 w2 hm2; have HM2 := H_ hm2; have c4 := HC3.out _ hm2.2.1; clear hm2)
  go_loopw [8, 10, 51] (fun v _ i wr => ∃ (k : Nat) (A3 : Option Addr) (c3 : Nat), k ≤ n ∧ i = .int .i64 k ∧ v = .slice A3 k c3 ∧ Hid (∃ xs, MineS 1 w wr 261 A3 k c3 xs)) (fun _ _ i _ => n - (intOf i).toNat)
  case atStart => exact ⟨0, _, _, by omega, rfl, rfl, H_ ⟨[], HM2.out⟩⟩
  case round =>
   obtain ⟨k, A3, c3, hk, rfl, rfl, HO⟩ := hrel
   obtain ⟨xs, hm⟩ := HO.out
   by_cases hlt : k < n
   ·obtain ⟨g, o, T, y, hA, hcell, hcall⟩ := HIT.out wr hm.2.1 k hlt
    subst hA
    have HCA := H_ (hcall wr (Keeps.refl _ _))
    have HM := H_ hm
    clear hcall hm HO
    go_wp2_with (first
     | (go_at_call 137; refine HCA.out.mono ?_; rintro e w5 ⟨T5, y5, rfl, hk5⟩; have HM5 := H_ ((HM.out.keep hk5).alloc (.cells #[.iface T5 y5] 261)); have HB5 := H_ (RdS.blk (s := 1) (n := 1) (Blk.new w5 261 [.iface T5 y5]) rfl); clear hk5)
     | (at_builtin; refine wpList_append_mine w _ rfl (.tmp 55) (.tmp 59) 317 rfl 261 .nilIface 1 16 Tryz.underlying317 infoVal rfl (by decide) rfl HM5.out (some ⟨w5.heap.size, 0, none⟩) 1 1 [.iface T5 y5] rfl HB5.out (by intro u hu; rw [List.mem_singleton.1 hu]; rfl) (by simp only [maxLen]; omega) (by omega) ?_; intro A6 c6 w6 hm6; have HM6 := H_ hm6; clear hm6))
    go_roundw
    case rel => exact ⟨k + 1, A6, c6, by omega, by go_num, rfl, H_ ⟨_, HM6.out⟩⟩
    case measure => simp [intOf]; omega
   ·obtain rfl : k = n := by omega
    have HM := H_ hm
    clear hm HO
    go_wp2
    go_ret
    exact ⟨_, rfl, .list _ _ _ _, HM.out.2.1⟩
theorem val_obj {D : Nat → Prop} (w : World) (v : Value) (ks : List ByteArray) (l : List JV) (hj : JAt D w v (.obj ks l)) (hkl : ks.length = l.length) (hn : l.length ≤ 1099511627776) (ih : ∀ x ∈ l, ∀ (W : World) (u : Value), JAt D W u x → Calls Tryz.prog 137 #[.agg #[u]] W (ValPost W x)) :
  Calls Tryz.prog 137 #[.agg #[v]] w (ValPost w (.obj ks l)) := by
 cases hj with
 | @obj b A B c d vs _ _ hD hbl hkr hok hr ho hl =>
  obtain ⟨n, hnn⟩ : ∃ n, n = l.length := ⟨_, rfl⟩
  have hb := Blk.new w 95 [.iface 187 (.pointer (some ⟨b, 0, none⟩))]
  have cb := hb.cell 0
  have hk1 : Keeps (fun _ => False) w (w.alloc (.cells #[.iface 187 (.pointer (some ⟨b, 0, none⟩))] 95)) := (Keeps.refl (fun _ => False) w).alloc _
  have HK1 := H_ hk1
  have HC3 : Hid (∀ V, Keeps (fun _ => False) w V → V.cell? ⟨b, 3, none⟩ = some (.slice B n d) ∧ V.cell? ⟨b, 4, none⟩ = some (.slice A n c)) := H_ fun V hV => by
   have h1 := (hV.blk hbl (fun h => h)).cell 3
   have h2 := (hV.blk hbl (fun h => h)).cell 4
   rw [hkl, ← hnn] at h1
   rw [← hnn] at h2
   exact ⟨h1, h2⟩
  have c3 := (HC3.out _ hk1).2
  have HIT : Hid (∀ V, Keeps (fun _ => False) w V → ∀ k, k < n → ∃ g o T y, A = some ⟨g, o, none⟩ ∧ V.cell? ⟨g, o + k, none⟩ = some (.iface T y) ∧ ∀ W, Keeps (fun _ => False) V W → Calls Tryz.prog 137 #[.agg #[.iface T y]] W fun e w' => ∃ T' y', e = .returned (.iface T' y') ∧ Keeps (fun _ => False) W w') := H_ fun V hV k hk => by
   obtain ⟨g, o, hA, hc⟩ := (hr.keep hV (no_outF _ _)).2 (by omega)
   obtain ⟨u, hu⟩ : ∃ u, vs[k]? = some u := ⟨_, List.getElem?_eq_getElem (by rw [hr.1]; omega)⟩
   obtain ⟨x, hx⟩ : ∃ x, l[k]? = some x := ⟨_, List.getElem?_eq_getElem (by omega)⟩
   have hat := hl k u x hu hx
   obtain ⟨T, y, e⟩ := hat.iface
   refine ⟨g, o, T, y, hA, by rw [hc k (by omega), hu, e], fun W hW => ?_⟩
   refine (ih x (List.mem_of_getElem? hx) W _ (e ▸ (hat.stay hV).stay hW)).mono ?_
   rintro e' w' ⟨v', he, hv, hk⟩
   obtain ⟨T', y', e2⟩ := hv.iface
   exact ⟨T', y', by rw [he, e2], hk⟩
  have HKY : Hid (∀ k, k < n → ∃ g o s, B = some ⟨g, o, none⟩ ∧ ∀ V, Keeps (fun _ => False) w V → V.cell? ⟨g, o + k, none⟩ = some (.string s)) := H_ fun k hk => by
   obtain ⟨g, o, hB, hc⟩ := hkr.2 (by omega)
   obtain ⟨s, hs⟩ : ∃ s, ks[k]? = some s := ⟨_, List.getElem?_eq_getElem (by omega)⟩
   have h1 : w.cell? ⟨g, o + k, none⟩ = some (.string s) := by rw [hc k (by omega), List.getElem?_map, hs]; rfl
   exact ⟨g, o, s, hB, fun V hV => cell_keep hV h1⟩
  have HN := H_ (And.intro hnn hn)
  have hnb : n ≤ 1099511627776 := by omega
  clear hD hbl hkr hok hr ho hl hb hk1 ih hnn hn
  have a1 := as_obj_null
  have a2 := as_obj_flag
  have a3 := as_obj_num
  have a4 := as_obj_text
  have a5 := as_obj_list
  have a6 := as_obj_obj
  go_enter Tryz.func137, Tryz.ntmps137
  go_wp2_with ((with_reducible show wpList _ _ _ (⟨some 72, Op.makeSlice _ _ _, _, _, _, _⟩ :: _) _ _); refine wpList_make_S w _ rfl (.const (.int .i64 0)) (.tmp 71) 319 rfl 321 (.agg #[.string ⟨#[]⟩, .nilIface]) 2 32 Tryz.underlying319 infoMem .i64 .i64 n n rfl rfl rfl (by omega) (by simp only [maxLen]; omega) HK1.out ?_; intro A2 w2 hm2; have HM2 := H_ hm2; have c4 := (HC3.out _ hm2.2.1).2; clear hm2)
  go_loopw [12, 13, 14, 78] (fun v _ _ i wr => ∃ (k : Nat) (A3 : Option Addr) (q3 : Nat), k ≤ n ∧ i = .int .i64 k ∧ v = .slice A3 k q3 ∧ Hid (∃ xs, MineS 2 w wr 321 A3 k q3 xs)) (fun _ _ _ i _ => n - (intOf i).toNat)
  case atStart => exact ⟨0, _, _, by omega, rfl, rfl, H_ ⟨[], HM2.out⟩⟩
  case round =>
   obtain ⟨k, A3, q3, hk, rfl, rfl, HO⟩ := hrel
   obtain ⟨xs, hm⟩ := HO.out
   by_cases hlt : k < n
   ·obtain ⟨g, o, T, y, hA, hcell, hcall⟩ := HIT.out wr hm.2.1 k hlt
    obtain ⟨g2, o2, ky, hB, hkc⟩ := HKY.out k hlt
    subst hA hB
    have HCA := H_ hcall
    have HM := H_ hm
    have HKC : Hid (∀ V, Keeps (fun _ => False) wr V → V.cell? ⟨b, 3, none⟩ = some (.slice (some ⟨g2, o2, none⟩) n d) ∧ V.cell? ⟨g2, o2 + k, none⟩ = some (.string ky)) := H_ fun V hV => ⟨(HC3.out _ (hm.2.1.trans hV fun _ _ h => h)).1, hkc _ (hm.2.1.trans hV fun _ _ h => h)⟩
    have hk0 : (0 : Int) ≤ (k : Int) := by omega
    have hkN : (k : Int) < (n : Int) := by omega
    clear hcall hm HO hkc
    go_upto_region 29 with fail
    refine wp_region_tail (S := (fun V => Keeps (fun _ => False) wr V)) 13 (by kernel_rfl) (Keeps.refl _ _).drew (fun h_ => ?_)
    refine tJ 0 83 ?_
    try simp only [pu]
    refine tJ 1 84 ?_
    try simp only [pu]
    refine tJ 2 85 ?_
    try simp only [pu]
    refine tJ 3 86 ?_
    try simp only [pu]
    refine tT [4, 6, 7, 11, 12] (i := 4) (oi := ⟨some 87, _, _, _, _, _⟩) (v := ?_) rfl (Or.inl ⟨by rfl, ?_⟩) h_ ?_
    rotate_left
    ·intro w' hSw
     have cv := (HKC.out _ hSw).1
     go_simp
     first | done | rfl
    try simp only [pu]
    refine tJ 5 88 ?_
    try simp only [pu]
    refine tJ 6 89 ?_
    try simp only [pu]
    refine tT [7, 11, 12] (i := 7) (oi := ⟨some 90, _, _, _, _, _⟩) (v := ?_) rfl (Or.inl ⟨by rfl, ?_⟩) h_ ?_
    rotate_left
    ·intro w' hSw
     have cv := (HKC.out _ hSw).2
     go_simp
     first | done | rfl
    try simp only [pu]
    refine tJ 8 91 ?_
    try simp only [pu]
    refine tJ 9 92 ?_
    try simp only [pu]
    refine wpAnyT_step (i := 10) (o := ⟨some 93, _, _, _, _, _⟩) (by kernel_rfl) rfl (fun K hK => ?_)
    go_simp
    refine (HCA.out _ h_).mono ?_
    rintro e w5 ⟨T5, y5, rfl, hk5⟩
    have hS5 := h_.trans hk5 (fun _ _ h => h)
    refine hK.out _ _ hS5 (fun h_ => ?_)
    clear hK K
    try simp only [pu]
    refine tJ 11 94 ?_
    try simp only [pu]
    refine wpAnyT_step (i := 12) (o := ⟨some 95, _, _, _, _, _⟩) (by kernel_rfl) rfl (fun K hK => ?_)
    go_simp
    refine hK.out _ _ (h_.alloc _) (fun h_ => ?_)
    clear hK K
    try simp only [pu]
    refine wpAnyT_tail (i := 13) (o := ⟨some 96, _, _, _, _, _⟩) (by kernel_rfl) (by kernel_rfl) rfl (fun K hK => ?_)
    refine step_append_own rfl (.tmp 83) (.tmp 95) 319 rfl 321 (.agg #[.string ⟨#[]⟩, .nilIface]) 2 32 Tryz.underlying319 infoMem rfl (by decide) A3 k q3 xs rfl ((HM.out.keep hS5).alloc _).1 ⟨w5.heap.size, 0, none⟩ 1 1 [.string ky, .iface T5 y5] rfl rfl (fun j u hu => by have := (Blk.new w5 321 [.string ky, .iface T5 y5]).cell j; rw [add_at, Nat.zero_add]; exact this.trans hu) (by intro u hu; simp at hu; rcases hu with rfl | rfl <;> rfl) (by simp only [maxLen]; omega) (by omega) ?_
    intro A6 c6 w6 ho6 hg6 hb6
    have HM6 := H_ (((HM.out.keep hS5).alloc _).grown ho6 hg6 hb6)
    refine hK.out _ _ ?_
    clear hK K
    try simp only [pu]
    refine wpAnyT_tail (i := 14) (o := ⟨some 12, _, _, _, _, _⟩) (by kernel_rfl) (by kernel_rfl) rfl (fun K hK => ?_)
    go_simp
    refine hK.out _ _ ?_
    clear hK K
    try simp only [pu]
    refine wpAnyT_done (by kernel_rfl) ?_
    go_wp2
    go_roundw
    case rel => exact ⟨k + 1, A6, c6, by omega, by go_num, rfl, H_ ⟨_, HM6.out⟩⟩
    case measure => simp [intOf]; omega
   ·obtain rfl : k = n := by omega
    have HM := H_ hm
    clear hm HO
    go_wp2
    go_ret
    exact ⟨_, rfl, .obj _ _ _ _ _, HM.out.2.1⟩
theorem nodes_item {j x : JV} (h : x ∈ j.items) : x.nodes ≤ j.nodes := by
 rw [JV.nodes_eq j]
 have := sumN_mem (List.mem_map.2 ⟨x, h, rfl⟩ : x.nodes ∈ j.items.map fun x => x.nodes)
 omega
theorem val_any : ∀ (j : JV), JOk j → j.nodes ≤ 1048576 → ∀ (D : Nat → Prop) (w : World) (v : Value), JAt D w v j → Calls Tryz.prog 137 #[.agg #[v]] w (ValPost w j) := by
 intro j hok
 induction hok with
 | mk j h1 h2 hp hr ht h ih =>
  intro hn D w v hv
  have hio := items_nodes j
  have hsub : ∀ x ∈ j.items, ∀ (W : World) (u : Value), JAt D W u x → Calls Tryz.prog 137 #[.agg #[u]] W (ValPost W x) := fun x hx W u hu => ih x hx (Nat.le_trans (nodes_item (j := j) hx) hn) D W u hu
  match j, h2, hsub, hv, hio with
  | .null, _, _, hv, _ => exact val_leaf w v _ hv (by simp [JV.sort])
  | .flag b, _, _, hv, _ => exact val_leaf w v _ hv (by simp [JV.sort])
  | .num b, _, _, hv, _ => exact val_leaf w v _ hv (by simp [JV.sort])
  | .text s, _, _, hv, _ => exact val_leaf w v _ hv (by simp [JV.sort])
  | .list l, _, hsub, hv, hio => exact val_list w v l hv (by have : (JV.list l).items.length = l.length := rfl; omega) hsub
  | .obj ks l, h2, hsub, hv, hio => exact val_obj w v ks l hv (h2 rfl) (by have : (JV.obj ks l).items.length = l.length := rfl; omega) hsub
end Go.Proofs.YtplleficmkfniaaGreatDoor
namespace Go.Flt
open Ieee Go.Json
def rng (b : Nat) : Nat := b % 9223372036854775808
end Go.Flt
namespace Go.Proofs.YtplleficmkfniaaGreatDoor
open Go Go.RowKit Go.Aff Go.Json Go.Flt
theorem bitsof (n : Nat) (w : World) : (callFunc 140 #[.float .f64 n]).run Tryz.prog w = .ok (.value (.int .u64 n)) w := by
 rw [run_callFunc_extern Tryz.func140 (by kernel_rfl) (by kernel_rfl) (by kernel_rfl) (e := Extern.MathFloatBits.float64bits) (by kernel_rfl)]
 rfl
end Go.Proofs.YtplleficmkfniaaGreatDoor
