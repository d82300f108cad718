/-
  Texts put together: ROver2W; RPieceW; RPrintW; LTrailW; MergeBetweenW.
-/
import Derived.Test.YtdmcioghdindfaaGreatDoorQ37
import Derived.Lib.AppendStr
import Derived.LaidEql
import Derived.RowKitTokens
import Derived.Test.YtdmcioghdindfaaGreatDoorQ34
set_option linter.unusedSimpArgs false
set_option maxRecDepth 100000
set_option maxHeartbeats 4000000
namespace Go.Json
theorem keys_few {j : JV} (h : j.nodes ≤ 65536) (hj : JOk j) : j.keys.length ≤ 65536 := by
 have h3 := items_nodes j
 have h4 := hj.form.1
 omega
theorem keys_short {j : JV} (h : j.bytes ≤ 2097152) (hj : JOk j) {s : ByteArray} (hs : s ∈ j.keys) : rightS s = true ∧ s.size ≤ 2097152 := ⟨hj.form.2.2.2.1 s hs, by
 have h3 := sumN_mem (List.mem_map.2 ⟨s, hs, rfl⟩ : s.size ∈ j.keys.map fun k => k.size)
 have h4 := own_eq j
 have h5 := JV.bytes_eq j
 omega⟩
theorem part_small {j x : JV} (hx : x ∈ j.items) (h1 : j.nodes ≤ 65536) (h2 : j.bytes ≤ 2097152) : x.nodes ≤ 65536 ∧ x.bytes ≤ 2097152 := by
 have h3 := sumN_mem (List.mem_map.2 ⟨x, hx, rfl⟩ : x.nodes ∈ j.items.map fun x => x.nodes)
 have h4 := sumN_mem (List.mem_map.2 ⟨x, hx, rfl⟩ : x.bytes ∈ j.items.map fun x => x.bytes)
 rw [JV.nodes_eq] at h1
 rw [JV.bytes_eq] at h2
 omega
def OSm (o : Option JV) : Prop := ∀ x, o = some x → x.nodes ≤ 65536 ∧ x.bytes ≤ 2097152
theorem mem2_small : ∀ {o : Option JV}, OOk o → OSm o → (mem2 o).1.length ≤ 65536 ∧ (∀ s ∈ (mem2 o).1, rightS s = true ∧ s.size ≤ 2097152) ∧ ∀ x ∈ (mem2 o).2, x.nodes ≤ 65536 ∧ x.bytes ≤ 2097152
 | none, _, _ => ⟨Nat.zero_le _, fun _ hs => absurd hs List.not_mem_nil, fun _ hx => absurd hx List.not_mem_nil⟩
 | some .null, _, _ => ⟨Nat.zero_le _, fun _ hs => absurd hs List.not_mem_nil, fun _ hx => absurd hx List.not_mem_nil⟩
 | some (.flag _), _, _ => ⟨Nat.zero_le _, fun _ hs => absurd hs List.not_mem_nil, fun _ hx => absurd hx List.not_mem_nil⟩
 | some (.num _), _, _ => ⟨Nat.zero_le _, fun _ hs => absurd hs List.not_mem_nil, fun _ hx => absurd hx List.not_mem_nil⟩
 | some (.text _), _, _ => ⟨Nat.zero_le _, fun _ hs => absurd hs List.not_mem_nil, fun _ hx => absurd hx List.not_mem_nil⟩
 | some (.list _), _, _ => ⟨Nat.zero_le _, fun _ hs => absurd hs List.not_mem_nil, fun _ hx => absurd hx List.not_mem_nil⟩
 | some (.obj ks l), h, h2 => ⟨keys_few (h2 _ rfl).1 (h _ rfl), fun _ hs => keys_short (h2 _ rfl).2 (h _ rfl) hs, fun _ hx => part_small (j := .obj ks l) hx (h2 _ rfl).1 (h2 _ rfl).2⟩
end Go.Json
namespace Go.Proofs.YtdmcioghdindfaaGreatDoor
open Go Go.RowKit Go.Aff Go.Json
attribute [local go_sem] Oper.semAt_some
theorem rover_leaf {D : Nat → Prop} (w : World) (v u : List Value) (p : JV) (o : Option JV) (h : RAt D w v p) (hs : p.sort ≠ 6) (A : Option Addr) (n c : Nat) (way : List ByteArray) : Calls Tryz.prog 22 #[.agg u.toArray, .agg v.toArray, .slice A n c] w (ROverPost D w (p.over o way)) := by
 rw [over_whole p o way hs]
 have h := h.mono (C := fun i => D i ∧ i < w.heap.size) fun i h1 h2 => ⟨h1, h2⟩
 have hb1 := (Blk.new (w.alloc (.cells u.toArray 31)) 31 v).alloc (.cells #[.int .i64 0, .bool false, .int .u64 0, .string .empty, .slice none 0 0, .slice none 0 0] 31)
 have hb3 := Blk.new ((w.alloc (.cells u.toArray 31)).alloc (.cells v.toArray 31)) 31 [.int .i64 0, .bool false, .int .u64 0, .string .empty, .slice none 0 0, .slice none 0 0]
 have hk3 := (((Keeps.refl (fun _ => False) w).alloc (.cells u.toArray 31)).alloc (.cells v.toArray 31)).alloc (.cells #[.int .i64 0, .bool false, .int .u64 0, .string .empty, .slice none 0 0, .slice none 0 0] 31)
 simp only [World.size_alloc] at hb1 hb3
 obtain ⟨z, hz⟩ : ∃ z, z = p.sort := ⟨_, rfl⟩
 have hne : (z != 6) = true := by rw [hz]; simpa using hs
 obtain ⟨b2, hq2⟩ : ∃ b, b = w.heap.size := ⟨_, rfl⟩
 obtain ⟨b1, hq1⟩ : ∃ b, b = w.heap.size + 1 := ⟨_, rfl⟩
 obtain ⟨b3, hq3⟩ : ∃ b, b = w.heap.size + 1 + 1 := ⟨_, rfl⟩
 have HW3 := Lib.hid (And.intro hk3 (And.intro hb1 hb3))
 have HH := Lib.hid h
 have HSV := Lib.hid (infoV h.len)
 have HL : Hid (v.length = 6) := Lib.hid h.len
 have HZ := Lib.hid hz
 clear h hs hz hb1 hb3 hk3
 go_enter Tryz.func22, Tryz.ntmps22
 go_upto_region 1 with fail
 rw [← hq3, ← hq1] at HW3
 rw [← hq3, ← hq1, ← hq2]
 refine gen_codeF (fun W => Keeps (fun _ => False) w W ∧ Blk W b1 31 v ∧ Blk W b3 31 [.int .i64 0, .bool false, .int .u64 0, .string .empty, .slice none 0 0, .slice none 0 0]) HW3.out ?_
 rintro w1 ⟨k1, g1, g3⟩
 have c0 : w1.cell? ⟨b1, 0, none⟩ = some (.int .i64 z) := by
  obtain ⟨A', c', B', d', cs', hv', _⟩ := HH.out.form
  rw [g1.cell 0, hv', HZ.out]; rfl
 have H1 := Lib.hid (And.intro k1 (And.intro g1 (And.intro g3 hq3)))
 clear k1 g1 g3 hq1 hq2 hq3 HW3
 go_wp2_with (first
  | ((with_reducible show wpList _ _ _ (⟨some 22, _, _, _, _, _⟩ :: _) _ _); refine wpList_load_whole rfl 31 _ rfl _ rfl H1.out.2.1 Tryz.underlying31 rfl HSV.out ?_)
  | ((with_reducible show wpList _ _ _ (⟨none, Op.store _ _ _, _, _, _, _⟩ :: _) _ _); refine wpList_store_whole rfl 31 _ _ rfl v rfl rfl H1.out.2.2.1 (by rw [HL.out]; rfl) HSV.out HH.out.one ?_))
 refine bodyPost_ret (results_blk_tt rfl _ _ rfl (H1.out.2.2.1.setRow _) Tryz.underlying31 rfl HSV.out) rfl ⟨H1.out.1.trans (setRow_keep _ _ _) fun i hi e => by have := H1.out.2.2.2; omega, ?_⟩
 exact ⟨_, rfl, ((HH.out.stay H1.out.1).keep (setRow_keep _ _ _) fun i hi e => by have := hi.2; have := H1.out.2.2.2; omega).mono fun i hi _ => .inl hi.1⟩
theorem rover_any : ∀ (p : JV), JOk p → p.nodes ≤ 65536 → p.bytes ≤ 2097152 → ∀ (o : Option JV), OOk o → OSm o → ∀ (D : Nat → Prop) (w : World) (v u : List Value) (A : Option Addr) (n c : Nat) (way : List ByteArray), RAt D w v p → ORAt D w u o → Rd w A n (way.map .string) → way.length = n → n + p.deep ≤ 65536 → Calls Tryz.prog 22 #[.agg u.toArray, .agg v.toArray, .slice A n c] w (ROverPost D w (p.over o way)) := by
 refine JV.by_parts fun p ih hp hn hb o ho hob D w v u A n c way hv hu hr hl hroom => ?_
 by_cases hs : p.sort = 6
 ·obtain ⟨ko, lo, rfl⟩ := JOk.obj_of hs
  have hm := mem2_ok ho
  have hm2 := mem2_small ho hob
  have hkf := keys_few hn hp
  refine (rover_obj (D := fun i => D i ∧ i < w.heap.size) w v u ko lo o A n c way ⟨hv.mono fun i h1 h2 => ⟨h1, h2⟩, hu.mono fun i h1 h2 => ⟨h1, h2⟩, fun i h => h.2, hp, ho, by have h9 : (JV.obj ko lo).keys.length = ko.length := rfl; omega, fun s hs => ?_, hr, hl, hroom, fun x hx => ⟨hm.2.2.2 x hx, by have := hm2.2.2 x hx; omega⟩⟩ ?_).mono ?_
  ·rcases List.mem_append.1 hs with h | h
   ·exact ⟨(hm2.2.1 s h).1, Nat.le_trans (hm2.2.1 s h).2 (by decide)⟩
   ·have := keys_short hb hp (s := s) h
    exact ⟨this.1, Nat.le_trans this.2 (by decide)⟩
  ·intro y hy ou hou D' W t s A' n' c' way' ht hs' hr' hl' hroom'
   have hyp := part_small (j := .obj ko lo) hy hn hb
   exact ih y hy (hp.form.2.2.2.2.2 y hy) hyp.1 hyp.2 ou (fun x hx => hm.2.2.2 x (hou x hx)) (fun x hx => hm2.2.2 x (hou x hx)) D' W t s A' n' c' way' ht hs' hr' hl' hroom'
  ·rintro e w' ⟨hk, he⟩
   refine ⟨hk, ?_⟩
   cases hov : (JV.obj ko lo).over o way with
   | inl b => rw [hov] at he; exact he
   | inr j =>
    rw [hov] at he
    obtain ⟨v', he, ht'⟩ := he
    exact ⟨v', he, ht'.mono fun i hi _ => hi.imp (fun h => h.1) id⟩
 ·exact rover_leaf w v u p o hv hs A n c way
theorem run_bytep {s : ByteArray} {j : Nat} {x : Int} (h : (sb s)[j]? = some x) (W : World) : (Instr.index 9 (.string s) (.int .i64 (j : Int))).run Tryz.prog W = .ok (.int .u8 x) W := by
 have h2 := (List.getElem?_eq_some_iff.1 h).1
 rw [sb_len] at h2
 have hx : x = ((s.get j h2).toNat : Int) := by
  unfold sb at h
  rw [List.getElem?_map, List.getElem?_eq_getElem (by simpa using h2)] at h
  injection h with h
  rw [← h]; rfl
 rw [run_index_string W 9 s .i64 j Tryz.underlying9, dif_pos ⟨by omega, by omega⟩, hx]
 rfl
theorem vb_app (a b : List Int) : vb (a ++ b) = vb a ++ vb b := List.map_append
theorem vb_one' (l : List Int) : ∀ u ∈ vb l, u.oneCell' = true := fun u hu => by
 obtain ⟨x, _, rfl⟩ := List.mem_map.1 hu
 rfl
theorem rpiece_any (w : World) (t : ByteArray) (ht : t.size ≤ 1099511627776) : Calls Tryz.prog 53 #[.string t] w fun e w' => e = .returned (.string (pieceB t)) ∧ Keeps (fun _ => False) w w' := by
 obtain ⟨n, hn⟩ : ∃ n, n = t.size := ⟨_, rfl⟩
 have HN : Hid (n = t.size ∧ n = (sb t).length) := Lib.hid ⟨hn, by rw [sb_len, hn]⟩
 have hm0 : Mine w (w.alloc (.cells #[.int .u8 47] 5)) 5 (some ⟨w.heap.size, 0, none⟩) 1 1 (vb [47]) := Mine.built w w 5 1 (vb [47]) (Keeps.refl _ w) rfl (by decide)
 have HM0 := Lib.hid hm0
 have HSZ : (t.size : Int) = (n : Int) := by omega
 have hsz2 := hn.symm
 rw [← hn] at ht
 clear hm0 hn
 go_enter Tryz.func53, Tryz.ntmps53
 go_upto_block 0 with fail
 refine gen_codeF (fun W => Mine w W 5 (some ⟨w.heap.size, 0, none⟩) 1 1 (vb [47])) HM0.out ?_
 intro w1 hm1
 have HM1 := Lib.hid hm1
 clear hm1 HM0
 obtain ⟨bk, hbk⟩ : ∃ b, b = w.heap.size := ⟨_, rfl⟩
 rw [← hbk] at HM1 ⊢
 have HK := Lib.hid hbk
 clear hbk
 go_wp2
 go_loopg [3, 4] n (fun gk y t' wx => ∃ (i : Nat) (A : Option Addr) (m c : Nat), i ≤ n ∧ y = .slice A m c ∧ t' = .int .i64 i ∧ gk = n - i ∧ m ≤ 2 * i + 1 ∧ Hid (Mine w wx 5 A m c (vb (47 :: ((sb t).take i).flatMap pieceZ))))
 case atStart => exact ⟨0, _, 1, 1, by omega, rfl, rfl, rfl, by omega, Lib.hid (by simpa using HM1.out)⟩
 case round =>
  obtain ⟨i, A, m, c, hin, rfl, rfl, hgk, hm, HO⟩ := hrel
  have HGK := Lib.hid hgk
  clear hgk
  have hlen : (t.size : Int) = (n : Int) := by omega
  by_cases hlt : i < n
  ·obtain ⟨x, hx⟩ : ∃ x, (sb t)[i]? = some x := ⟨_, List.getElem?_eq_getElem (by rw [← HN.out.2]; exact hlt)⟩
   have HX := Lib.hid (flatZ_next hx)
   have hbx := run_bytep hx
   have hi63 : (0 : Int) ≤ (i : Int) := by omega
   have hiN : (i : Int) < (n : Int) := by omega
   clear hx
   by_cases h1 : x = 126
   ·have hq1 : (x == 126) = true := by rw [h1]; rfl
    have HZ : Hid (pieceZ x = [126, 48]) := Lib.hid (by rw [h1]; rfl)
    clear h1
    go_wp2_with (at_builtin; refine wpList_append_mine w _ rfl (.tmp 16) (.tmp 17) 127 rfl 5 (.int .u8 0) 1 1 Tryz.underlying127 (by kernel_rfl) rfl (by decide) rfl (MineS.alloc HO.out _) _ 2 2 (vb [126, 48]) rfl (RdS.blk (Blk.new _ 5 (vb [126, 48])) rfl) (vb_one' _) (by unfold maxLen; omega) (by omega) ?_; intro A5 c5 w5 hM5; have HM5 := Lib.hid hM5; clear hM5)
    go_roundg (n - (i + 1))
    case measure => rw [HGK.out]; omega
    case rel => exact ⟨i + 1, A5, m + 2, c5, by omega, rfl, by go_num, rfl, by omega, Lib.hid (by
     rw [HX.out, HZ.out, ← List.cons_append, vb_app]
     exact HM5.out)⟩
   ·have hq1 : (x == 126) = false := by simpa using h1
    by_cases h2 : x = 47
    ·have hq2 : (x == 47) = true := by rw [h2]; rfl
     have HZ : Hid (pieceZ x = [126, 49]) := Lib.hid (by rw [h2]; rfl)
     clear h1 h2
     go_wp2_with (at_builtin; refine wpList_append_mine w _ rfl (.tmp 23) (.tmp 24) 127 rfl 5 (.int .u8 0) 1 1 Tryz.underlying127 (by kernel_rfl) rfl (by decide) rfl (MineS.alloc HO.out _) _ 2 2 (vb [126, 49]) rfl (RdS.blk (Blk.new _ 5 (vb [126, 49])) rfl) (vb_one' _) (by unfold maxLen; omega) (by omega) ?_; intro A5 c5 w5 hM5; have HM5 := Lib.hid hM5; clear hM5)
     go_roundg (n - (i + 1))
     case measure => rw [HGK.out]; omega
     case rel => exact ⟨i + 1, A5, m + 2, c5, by omega, rfl, by go_num, rfl, by omega, Lib.hid (by
      rw [HX.out, HZ.out, ← List.cons_append, vb_app]
      exact HM5.out)⟩
    ·have hq2 : (x == 47) = false := by simpa using h2
     have HZ : Hid (pieceZ x = [x]) := Lib.hid (by unfold pieceZ; rw [if_neg h1, if_neg h2])
     clear h1 h2
     go_wp2_with (at_builtin; refine wpList_append_mine w _ rfl (.tmp 26) (.tmp 30) 127 rfl 5 (.int .u8 0) 1 1 Tryz.underlying127 (by kernel_rfl) rfl (by decide) rfl (MineS.alloc HO.out _) _ 1 1 (vb [x]) rfl (RdS.blk (Blk.new _ 5 (vb [x])) rfl) (vb_one' _) (by unfold maxLen; omega) (by omega) ?_; intro A5 c5 w5 hM5; have HM5 := Lib.hid hM5; clear hM5)
     go_roundg (n - (i + 1))
     case measure => rw [HGK.out]; omega
     case rel => exact ⟨i + 1, A5, m + 1, c5, by omega, rfl, by go_num, rfl, by omega, Lib.hid (by
      rw [HX.out, HZ.out, ← List.cons_append, vb_app]
      exact HM5.out)⟩
  ·obtain rfl : i = n := by omega
   have hcv := fun c => convert_rd wr (src := 127) (e := 5) (dst := 9) Tryz.underlying127 Tryz.underlying5 Tryz.underlying9 c (Mine.rd HO.out)
   have HST : Hid (strOfNums (47 :: ((sb t).take i).flatMap pieceZ) = pieceB t) := Lib.hid (by rw [List.take_of_length_le (by rw [← HN.out.2]; exact Nat.le_refl _), ← sb_piece, str_sb])
   rw [HST.out] at hcv
   go_wp2
   go_ret
   exact ⟨rfl, HO.out.2.1⟩
end Go.Proofs.YtdmcioghdindfaaGreatDoor
namespace Go.Aff
open Go Go.RowKit Go.Json
theorem vb_str (s : ByteArray) : Lib.strCells s = vb (sb s) := by
 unfold Lib.strCells vb sb
 rw [List.map_map]; rfl
theorem own_raise {w : World} {b b' : Nat} {e : TypeId} {sz n : Nat} {v : Value} {xs : List Value} (h : w.ownsRow b e sz v n xs) (hb : ∀ g, v.ownBlock = some g → b' ≤ g) : w.ownsRow b' e sz v n xs :=
 ⟨h.1, h.2.imp id fun ⟨g, cap, cur, h1, _, h3⟩ => ⟨g, cap, cur, h1, hb g (by rw [h1]; rfl), h3⟩⟩
theorem wpList_append_text {P : Program} (w0 w : World) {ops : Array Oper} {rest : List Oper} {o : Oper} {a : Act} {Q : Exit → Act → World → Prop} (hgd : o.guard = none) (sl x : Operand) (t u : TypeId)
  (ho : o.op = .call { callee := .builtin .append, args := #[sl, x], argTypes := #[t, u] })
  (e : TypeId) (i : TypeInfo) (ht : P.underlying t = some (.slice e)) (hu : P.underlying u = some .string) (hi : P.info? e = some i) (hz : i.zero = some (.int .u8 0))
  (hsize : i.size = 1) (hby : i.bytes = 1) {A : Option Addr} {n c : Nat} {xs : List Value} (hs : a.eval sl = .slice A n c) (hT : Mine w0 w e A n c xs) (s : ByteArray) (hx : a.eval x = .string s)
  (h63 : n + s.size ≤ maxLen) (hbytes : n + s.size ≤ 140737488355328)
  (h : ∀ A' c' w', Mine w0 w' e A' (n + s.size) c' (xs ++ vb (sb s)) → wpList P ops Q rest (a.put o.dst (.slice A' (n + s.size) c')) w') : wpList P ops Q (o :: rest) a w := by
 refine Lib.wpList_append_own_string w hgd sl x t u ho w0.heap.size e i ht hu hi hz hsize hby (.slice A n c) n xs hs (own_raise hT.1 hT.2.2) s hx h63 hbytes hT.2.1.size fun v' w' k1 k2 _ => ?_
 rw [vb_str] at k1
 have k3 : Keeps (fun _ => False) w0 w' := hT.2.1.trans (Keeps.of_grown k2) fun i hi e => by have := hT.2.2 i e; omega
 have k4 : w'.ownsRow 0 e 1 v' (n + s.size) (xs ++ vb (sb s)) := own_raise k1 fun _ _ => Nat.zero_le _
 rcases k1.2 with ⟨rfl, h0⟩ | ⟨g, cap, cur, rfl, hg, _⟩
 ·have e0 : n + s.size = 0 := h0
  rw [e0] at k4 h
  exact h none 0 w' ⟨k4, k3, fun g hg => by simp [Value.ownBlock] at hg⟩
 ·exact h _ cap w' ⟨k4, k3, fun g' hg' => by have e1 : some g = some g' := hg'; injection e1 with e1; omega⟩
end Go.Aff
namespace Go.Proofs.YtdmcioghdindfaaGreatDoor
open Go Go.RowKit Go.Aff Go.Json
attribute [local go_sem] Oper.semAt_some
theorem textAtP {w : World} {A : Option Addr} {n : Nat} {ks : List ByteArray} (h : Rd w A n (ks.map .string)) {j : Nat} (hj : j < n) : ∃ g o s, A = some ⟨g, o, none⟩ ∧ ks[j]? = some s ∧ w.cell? ⟨g, o + j, none⟩ = some (.string s) := by
 obtain ⟨g, o, e, q⟩ := h.2 (by omega)
 have hl : ks.length = n := by simpa using h.1
 obtain ⟨s, hs⟩ : ∃ s, ks[j]? = some s := ⟨_, List.getElem?_eq_getElem (by omega)⟩
 refine ⟨g, o, s, e, hs, ?_⟩
 rw [q j hj, List.getElem?_map, hs]; rfl
theorem info8 : ∃ i, Tryz.prog.info? 5 = some i ∧ i.zero = some (.int .u8 0) ∧ i.size = 1 ∧ i.bytes = 1 := by
 have h : (Tryz.prog.info? 5).map (fun i => (i.zero, i.size, i.bytes)) = some (some (.int .u8 0), 1, 1) := by kernel_rfl
 obtain ⟨i, hi, he⟩ := Option.map_eq_some_iff.1 h
 simp only [Prod.mk.injEq] at he
 exact ⟨i, hi, he.1, he.2.1, he.2.2⟩
theorem rprint_any (w : World) (A : Option Addr) (n c : Nat) (ts : List ByteArray) (hts : ts.length = n) (hr : Rd w A n (ts.map .string)) (hb : ∀ t ∈ ts, t.size ≤ 2097152) (hn : n ≤ 1048576) :
  Calls Tryz.prog 24 #[.slice A n c] w fun e w' => e = .returned (.string (printB ts)) ∧ Keeps (fun _ => False) w w' := by
 obtain ⟨i8, hi8, hz8, hs8, hb8⟩ := info8
 have HI8 := Lib.hid (And.intro hi8 (And.intro hz8 (And.intro hs8 hb8)))
 have HR := Lib.hid (And.intro hr hts)
 have HB := Lib.hid hb
 clear hr hts hb hi8 hz8 hs8 hb8
 go_enter Tryz.func24, Tryz.ntmps24
 go_upto_block 0 with fail
 go_wp2
 go_loopg [3, 4] n (fun gk y t' wx => ∃ (i : Nat) (A : Option Addr) (m c : Nat), i ≤ n ∧ y = .slice A m c ∧ t' = .int .i64 i ∧ gk = n - i ∧ m ≤ i * 4194305 ∧ Hid (Mine w wx 5 A m c (vb ((ts.take i).flatMap fun t => sb (pieceB t)))))
 case atStart => exact ⟨0, none, 0, 0, by omega, rfl, rfl, rfl, by omega, Lib.hid (by rw [List.take_zero]; exact MineS.nil 1 w _)⟩
 case round =>
  obtain ⟨i, A1, m, c1, hin, rfl, rfl, hgk, hm, HO⟩ := hrel
  have HGK := Lib.hid hgk
  clear hgk
  by_cases hlt : i < n
  ·obtain ⟨g, o, t, hA, hti, hck⟩ := textAtP (HR.out.1.keep HO.out.2.1 (fun _ _ _ h => h)) hlt
   subst hA
   have htb := HB.out t (List.mem_of_getElem? hti)
   have HPI := Lib.hid (rpiece_any wr t (Nat.le_trans htb (by decide)))
   have hps := pieceB_size t
   obtain ⟨z, hz⟩ : ∃ z, z = pieceB t := ⟨_, rfl⟩
   obtain ⟨q, hq⟩ : ∃ q, q = z.size := ⟨_, rfl⟩
   rw [← hz] at HPI hps
   rw [← hq] at hps
   have hqb : q ≤ 4194305 := by omega
   have HZ : Hid ((ts.take (i + 1)).flatMap (fun t => sb (pieceB t)) = (ts.take i).flatMap (fun t => sb (pieceB t)) ++ sb z ∧ q = z.size) := Lib.hid ⟨by rw [List.take_add_one, hti, List.flatMap_append, hz]; simp, hq⟩
   have hi63 : (0 : Int) ≤ (i : Int) := by omega
   have hiN : (i : Int) < (n : Int) := by omega
   have hmq : m + q ≤ (i + 1) * 4194305 := by omega
   have HMB : Hid (m + z.size ≤ 140737488355328) := Lib.hid (by rw [← hq]; omega)
   clear hti htb hps hz hq
   go_wp2_with (first
    | (go_at_call 53; refine HPI.out.mono ?_; rintro e w5 ⟨rfl, hk5⟩; have HK5 := Lib.hid hk5; clear hk5)
    | (at_builtin; refine wpList_append_text w _ rfl (.tmp 11) (.tmp 16) 127 9 rfl 5 i8 Tryz.underlying127 Tryz.underlying9 HI8.out.1 HI8.out.2.1 HI8.out.2.2.1 HI8.out.2.2.2 rfl (Mine.keep HO.out HK5.out) z rfl (by have := HMB.out; unfold maxLen; omega) HMB.out ?_; intro A6 c6 w6 hM6; rw [← HZ.out.2] at hM6 ⊢; have HM6 := Lib.hid hM6; clear hM6))
   go_roundg (n - (i + 1))
   case measure => rw [HGK.out]; omega
   case rel => exact ⟨i + 1, A6, m + q, c6, by omega, rfl, by go_num, rfl, hmq, Lib.hid (by rw [HZ.out.1, vb_app]; exact HM6.out)⟩
  ·obtain rfl : i = n := by omega
   have hcv := fun c => convert_rd wr (src := 127) (e := 5) (dst := 9) Tryz.underlying127 Tryz.underlying5 Tryz.underlying9 c (Mine.rd HO.out)
   have HST : Hid (strOfNums ((ts.take i).flatMap fun t => sb (pieceB t)) = printB ts) := Lib.hid (by rw [List.take_of_length_le (by rw [HR.out.2]; exact Nat.le_refl _), ← sb_print, str_sb])
   rw [HST.out] at hcv
   go_wp2
   go_ret
   exact ⟨rfl, HO.out.2.1⟩
end Go.Proofs.YtdmcioghdindfaaGreatDoor
namespace Go.Proofs.YtdmcioghdindfaaGreatDoor
open Go Go.RowKit Go.Aff Go.Json Go.Extern Go.Extern.Stop Go.Stop
theorem isTypeOf (v : Value) (w : World) : (Extern.ReflectliteType.typeOf #[.iface 42 v]).run Tryz.prog w = .ok (.iface 222 (.agg #[typeHandle Tryz.prog 42])) w := by kernel_rfl
theorem isComparable (w : World) : ((Extern.ReflectliteType.method fun t => do Extern.Rtype.noPackHeld "Comparable" t; pure (.bool (← typeInfo t).comparable)) #[.agg #[typeHandle Tryz.prog 42]]).run Tryz.prog w = .ok (.bool true) w := by kernel_rfl
theorem isMethodComparable (v : Value) (w : World) : (Go.method 420 222 v "Comparable").run Tryz.prog w = .ok (213, v) w := by kernel_rfl
theorem noIsS (v : Value) (xT : TypeId) (w : World) : (Instr.typeAssert (.iface 117 v) xT 224 true).run Tryz.prog w = .ok (.tuple #[.nilIface, .bool false]) w := run_typeAssert_lacksB Tryz.underlying224 (by kernel_rfl) (by kernel_rfl) v xT w
theorem hasUnwrapS (v : Value) (xT : TypeId) (w : World) : (Instr.typeAssert (.iface 117 v) xT 227 true).run Tryz.prog w = .ok (.tuple #[.iface 117 v, .bool true]) w := run_typeAssert_hasB Tryz.underlying227 (by kernel_rfl) v xT w
theorem methodUnwrapS (v : Value) (w : World) : (Go.method 420 117 v "Unwrap").run Tryz.prog w = .ok (193, v) w := by kernel_rfl
theorem eql_errno (k : Int) (w : World) : (binOp .eql 35 (.iface 42 (.int .i64 k)) (.iface 42 (.int .i64 k))).run Tryz.prog w = .ok (.bool true) w := by
 obtain ⟨i, hi, hcmp⟩ := Option.map_eq_some_iff.1 (show (Tryz.prog.info? 42).map (·.comparable) = some true by kernel_rfl)
 have h : ∀ d : Nat, (Op.equalIn (d + 2) 35 (.iface 42 (.int .i64 k)) (.iface 42 (.int .i64 k))).run Tryz.prog w = .ok true w := fun d => by
  simp [Op.equalIn, run_underlying Tryz.underlying35, run_underlying Tryz.underlying42, typeInfo, hi, hcmp]
 simp only [binOp]
 simp [Op.equal, Op.maxDepth, h 9998]
theorem is_trail (k : Int) (s : ByteArray) (w : World) :
  Calls Tryz.prog 52 #[.iface 117 (.agg #[.int .i64 k, .string s]), .iface 42 (.int .i64 k)] w fun e w' => e = .returned (.bool true) ∧ Keeps (fun _ => False) w w' := by
 have h8 := @run_callFunc_extern Tryz.prog 89 _ Extern.ReflectliteType.typeOf Tryz.func89 (by kernel_rfl) (by kernel_rfl) (by kernel_rfl) (by kernel_rfl)
 have h32 : ∀ w, (callFunc 213 #[.agg #[typeHandle Tryz.prog 42]]).run Tryz.prog w = .ok (.value (.bool true)) w := fun w => by
  rw [@run_callFunc_extern Tryz.prog 213 _ (Extern.ReflectliteType.method fun t => do Extern.Rtype.noPackHeld "Comparable" t; pure (.bool (← typeInfo t).comparable)) Tryz.func213 (by kernel_rfl) (by kernel_rfl) (by kernel_rfl) (by kernel_rfl), isComparable]
  rfl
 have tT := isTypeOf
 have mR := isMethodComparable
 have nE := noIsS
 have uE := hasUnwrapS
 have mU := methodUnwrapS
 have heq := eql_errno k
 have hty := run_eql_iface_types (P := Tryz.prog) 117 42 (.agg #[.int .i64 k, .string s]) (.int .i64 k) Tryz.underlying35 (by decide)
 go_enter Tryz.func52, Tryz.ntmps52
 go_wp2
 refine wp_loop_rounds 2 ?_
 rw [rounds_succ]
 go_wp2
 rw [rounds_succ]
 go_wp2
 go_ret
 exact ⟨rfl, (Keeps.refl _ w).alloc _⟩
theorem trTrail (v : Value) (w : World) : (Instr.typeAssert (.iface 117 v) 35 117 true).run Tryz.prog w = .ok (.tuple #[v, .bool true]) w := by kernel_rfl
theorem trLocated (v : Value) (w : World) : (Instr.typeAssert (.iface 117 v) 35 120 true).run Tryz.prog w = .ok (.tuple #[.iface 117 v, .bool true]) w := run_typeAssert_hasB Tryz.underlying120 (by kernel_rfl) v _ w
theorem trPlaced (v : Value) (w : World) : (Instr.typeAssert (.iface 117 v) 35 123 true).run Tryz.prog w = .ok (.tuple #[.nilIface, .bool false]) w := run_typeAssert_lacksB Tryz.underlying123 (by kernel_rfl) (by kernel_rfl) v _ w
theorem trWhere (v : Value) (w : World) : (Go.method 420 117 v "Where").run Tryz.prog w = .ok (194, v) w := by kernel_rfl
theorem where_any (w : World) (k : Int) (s : ByteArray) : Calls Tryz.prog 194 #[.agg #[.int .i64 k, .string s]] w fun e w' => e = .returned (.string s) ∧ Keeps (fun _ => False) w w' := by
 have HK := Lib.hid ((Keeps.refl (fun _ => False) w).alloc (.cells #[.int .i64 k, .string s] 117))
 go_enter Tryz.func194, Tryz.ntmps194
 go_wp2
 go_ret
 exact ⟨rfl, HK.out⟩
theorem ltrail_any (w : World) (s : ByteArray) : Calls Tryz.prog 23 #[.iface 117 (.agg #[.int .i64 180, .string s]), .int .i64 180, .string s] w fun e w' => e = .returned (.bool true) ∧ Keeps (fun _ => False) w w' := by
 have h1 := trTrail
 have h2 := trLocated
 have h3 := trPlaced
 have h4 := trWhere
 have hss : (s.toList == s.toList) = true := beq_self_eq_true _
 have HS := Lib.hid (is_trail 180 s)
 have HWH := Lib.hid fun W => where_any W 180 s
 go_enter Tryz.func23, Tryz.ntmps23
 go_wp2_with (first
  | (go_at_call 194; refine (HWH.out _).mono ?_; rintro e w5 ⟨rfl, hk5⟩; have HK5 := Lib.hid hk5; clear hk5)
  | (go_at_call 52; refine (HS.out _).mono ?_; rintro e w6 ⟨rfl, hk6⟩; have HK6 := Lib.hid hk6; clear hk6))
 go_ret
 exact ⟨rfl, (((Keeps.refl _ w).alloc _).trans HK5.out (fun _ _ h => h)).trans HK6.out (fun _ _ h => h)⟩
end Go.Proofs.YtdmcioghdindfaaGreatDoor
namespace Go.Proofs.YtdmcioghdindfaaGreatDoor
open Go Go.RowKit Go.Aff Go.Json
attribute [local go_sem] Oper.semAt_some
theorem betw_bad (w : World) (A : Option Addr) (n c : Nat) (B : Option Addr) (m d : Nat) (css dss : List (List Value)) (l k : List StepV) (hS : StepsIn w A n css l) (hM : Modest l) (hT : StepsIn w B m dss k) (hN : Modest k) (o1 o2 : Bool) (h1 : MadeAny w A n c o1) (h2 : MadeAny w B m d o2) (ho : (o1 && o2) = false) :
    Calls Tryz.prog 6 #[.slice A n c, .slice B m d] w fun e w' => e = .returned (.bool true) ∧ Keeps (fun _ => False) w w' := by
  have HB1 := Lib.hid (beyond_any w A n c css l hS hM)
  have HB2 : Hid (∀ W, Keeps (fun _ => False) w W → Calls Tryz.prog 7 #[.slice B m d] W fun e w' => e = .returned (.bool false) ∧ Keeps (fun _ => False) w w') := Lib.hid fun W hW => (beyond_any W B m d dss k (hT.stay hW) hN).mono fun e w' h => ⟨h.1, hW.trans h.2 fun _ _ h => h⟩
  have HM1 := Lib.hid h1
  have HM2 := Lib.hid h2
  unfold MadeAny at HM1 HM2
  clear hS hM hT hN h1 h2
  have tk : True := trivial
  have tm : True := trivial
  rcases o1 with _ | _ <;> rcases o2 with _ | _
  rotate_left 3
  · exact Bool.noConfusion ho
  all_goals
    (  clear ho
       go_enter Tryz.func6, Tryz.ntmps6
       go_wp2_with (first
         | (go_at_call 7; have _t := tk; clear tk; refine HB1.out.mono ?_; rintro e w1 ⟨rfl, hk1⟩; have HK1 := Lib.hid hk1; clear hk1)
         | (go_at_call 7; refine (HB2.out _ HK1.out).mono ?_; rintro e w2 ⟨rfl, hk2⟩; have HK2 := Lib.hid hk2; clear hk2)
         | (go_at_call 8; have _t := tm; clear tm; refine (HM1.out _ HK2.out).mono ?_; rintro e w3 ⟨t, u0, u1, u2, u3, A4, m4, c4, A5, m5, c5, rfl, HK3⟩; have hz := Blk.new w3 31 [.int .i64 0, .bool false, .int .u64 0, .string .empty, .slice none 0 0, .slice none 0 0]; have f0 := hz.frozen 0; have f1 := hz.frozen 1; have f2 := hz.frozen 2; have f3 := hz.frozen 3; have f4 := hz.frozen 4; have f5 := hz.frozen 5; clear hz)
         | (go_at_call 8; refine (HM2.out _ (HK3.out.alloc _)).mono ?_; rintro e w4 ⟨t', v0, v1, v2, v3, A6, m6, c6, A7, m7, c7, rfl, HK4⟩; have hz := Blk.new w4 31 [.int .i64 0, .bool false, .int .u64 0, .string .empty, .slice none 0 0, .slice none 0 0]; have g0 := hz.frozen 0; have g1 := hz.frozen 1; have g2 := hz.frozen 2; have g3 := hz.frozen 3; have g4 := hz.frozen 4; have g5 := hz.frozen 5; clear hz))
       go_ret
       exact ⟨rfl, HK4.out.alloc _⟩)
structure BetwSt (w W : World) (q : Nat) (v : Value) (j : JV) (q2 : Nat) (v2 : Value) (j2 : JV) (b6 b10 : Nat) (S1 S2 : List Value) : Prop where
  keep : Keeps (fun _ => False) w W
  t1 : TreeAt (fun _ => True) W q v j
  t2 : TreeAt (fun _ => True) W q2 v2 j2
  r1 : RAt (fun _ => True) W S1 j
  r2 : RAt (fun _ => True) W S2 j2
  k1 : Blk W b6 31 S1
  k2 : Blk W b10 31 S2
theorem BetwSt.stay {w W w' : World} {q : Nat} {v : Value} {j : JV} {q2 : Nat} {v2 : Value} {j2 : JV} {b6 b10 : Nat} {S1 S2 : List Value} (h : BetwSt w W q v j q2 v2 j2 b6 b10 S1 S2) (k : Keeps (fun _ => False) W w') : BetwSt w w' q v j q2 v2 j2 b6 b10 S1 S2 :=
  ⟨h.keep.trans k fun _ _ h => h, h.t1.stay k, h.t2.stay k, h.r1.stay k, h.r2.stay k, k.blk h.k1 (fun h => h), k.blk h.k2 (fun h => h)⟩
theorem betw_ok (w : World) (A : Option Addr) (n c : Nat) (B : Option Addr) (m d : Nat) (css dss : List (List Value)) (l k : List StepV) (hS : StepsIn w A n css l) (hM : Modest l) (hT : StepsIn w B m dss k) (hN : Modest k) (hmax : MaxAt w) (j j2 : JV) (h1 : MadeOne w A n c j) (h2 : MadeOne w B m d j2)
    (hj : JOk j) (hj2 : JOk j2) (hw : j.within) (hw2 : j2.within) :
    Calls Tryz.prog 6 #[.slice A n c, .slice B m d] w fun e w' => e = .returned (.bool true) ∧ Keeps (fun _ => False) w w' := by
  have HB1 := Lib.hid (beyond_any w A n c css l hS hM)
  have HB2 : Hid (∀ W, Keeps (fun _ => False) w W → Calls Tryz.prog 7 #[.slice B m d] W fun e w' => e = .returned (.bool false) ∧ Keeps (fun _ => False) w w') := Lib.hid fun W hW => (beyond_any W B m d dss k (hT.stay hW) hN).mono fun e w' h => ⟨h.1, hW.trans h.2 fun _ _ h => h⟩
  have HM1 := Lib.hid h1
  have HM2 := Lib.hid h2
  unfold MadeOne at HM1 HM2
  have HJ := Lib.hid (And.intro hj (And.intro hj2 (And.intro hw (And.intro hw2 hmax))))
  clear hS hM hT hN h1 h2 hj hj2 hw hw2 hmax
  have tk : True := trivial
  have tm : True := trivial
  go_enter Tryz.func6, Tryz.ntmps6
  go_upto_region 9 with (first
    | (go_at_call 7; have _t := tk; clear tk; refine HB1.out.mono ?_; rintro e w1 ⟨rfl, hk1⟩; have HK1 := Lib.hid hk1; clear hk1)
    | (go_at_call 7; refine (HB2.out _ HK1.out).mono ?_; rintro e w2 ⟨rfl, hk2⟩; have HK2 := Lib.hid hk2; clear hk2)
    | (go_at_call 8; have _t := tm; clear tm; refine (HM1.out _ HK2.out).mono ?_; rintro e w3 ⟨q, v, u0, u1, u2, u3, A4, m4, c4, A5, m5, c5, rfl, H3⟩; have hz := Blk.new w3 31 [.int .i64 0, .bool false, .int .u64 0, .string .empty, .slice none 0 0, .slice none 0 0]; have f0 := hz.frozen 0; have f1 := hz.frozen 1; have f2 := hz.frozen 2; have f3 := hz.frozen 3; have f4 := hz.frozen 4; have f5 := hz.frozen 5; clear hz)
    | (go_at_call 8; refine (HM2.out _ (H3.out.2.2.1.alloc _)).mono ?_; rintro e w4 ⟨q2, v2, x0, x1, x2, x3, A6, m6, c6, A7, m7, c7, rfl, H4⟩; have hz := Blk.new w4 31 [.int .i64 0, .bool false, .int .u64 0, .string .empty, .slice none 0 0, .slice none 0 0]; have g0 := hz.frozen 0; have g1 := hz.frozen 1; have g2 := hz.frozen 2; have g3 := hz.frozen 3; have g4 := hz.frozen 4; have g5 := hz.frozen 5; clear hz))
  obtain ⟨S1, hS1⟩ : ∃ S1 : List Value, S1 = [.int .i64 u0, .bool u1, .int .u64 u2, .string u3, .slice A4 m4 c4, .slice A5 m5 c5] := ⟨_, rfl⟩
  obtain ⟨S2, hS2⟩ : ∃ S2 : List Value, S2 = [.int .i64 x0, .bool x1, .int .u64 x2, .string x3, .slice A6 m6 c6, .slice A7 m7 c7] := ⟨_, rfl⟩
  obtain ⟨b6, hb6⟩ : ∃ b, b = w3.heap.size := ⟨_, rfl⟩
  obtain ⟨b10, hb10⟩ : ∃ b, b = w4.heap.size := ⟨_, rfl⟩
  have HST : Hid (BetwSt w (w4.alloc (.cells #[.int .i64 x0, .bool x1, .int .u64 x2, .string x3, .slice A6 m6 c6, .slice A7 m7 c7] 31)) q v j q2 v2 j2 b6 b10 S1 S2) := Lib.hid (by
    have k4c : Keeps (fun _ => False) w4 (w4.alloc (.cells #[.int .i64 x0, .bool x1, .int .u64 x2, .string x3, .slice A6 m6 c6, .slice A7 m7 c7] 31)) := (Keeps.refl _ w4).alloc _
    have k34 : Keeps (fun _ => False) w3 w4 := ((Keeps.refl _ w3).alloc _).trans H4.out.2.2.2 fun _ _ h => h
    have k3c := k34.trans k4c fun _ _ h => h
    refine ⟨H3.out.2.2.1.trans k3c fun _ _ h => h, H3.out.1.stay k3c, H4.out.1.stay k4c, ?_, ?_, ?_, ?_⟩
    · rw [hS1]; exact H3.out.2.1.stay k3c
    · rw [hS2]; exact H4.out.2.1.stay k4c
    · rw [hb6, hS1]; exact ((H4.out.2.2.2.trans k4c fun _ _ h => h).blk (Blk.new w3 _ _) (fun h => h))
    · rw [hb10, hS2]; exact Blk.new w4 _ _)
  rw [← hb6, ← hb10]
  refine gen_codeF (fun W => BetwSt w W q v j q2 v2 j2 b6 b10 S1 S2) HST.out ?_
  intro w9 hst
  have HS := Lib.hid hst
  clear hst HST hS1 hS2 hb6 hb10 HB1 HB2 HM1 HM2 HK1 HK2 H3 H4 f0 f1 f2 f3 f4 f5 g0 g1 g2 g3 g4 g5
  have HSV := Lib.hid (infoVal6 HS.out.r1.len)
  have HSW := Lib.hid (infoVal6 HS.out.r2.len)
  have HMX := Lib.hid (HJ.out.2.2.2.2.stay HS.out.keep)
  obtain ⟨r, hr⟩ : ∃ r, r = j2.over (some j) [] := ⟨_, rfl⟩
  have HBE : Hid (Calls Tryz.prog 20 #[.pointer (some ⟨q, 0, none⟩), .pointer (some ⟨q2, 0, none⟩)] w9 (BetwPost (fun _ => True) w9 r)) := Lib.hid (by rw [hr]; exact between_tree w9 q q2 v v2 j j2 HS.out.t1 HS.out.t2 HJ.out.1 HJ.out.2.1 HJ.out.2.2.1 HJ.out.2.2.2.1 HMX.out)
  have HOV : Hid (∀ W, Keeps (fun _ => False) w9 W → Calls Tryz.prog 22 #[.agg S1.toArray, .agg S2.toArray, .slice none 0 0] W (ROverPost (fun _ => True) W r)) := Lib.hid fun W hW => by
    rw [hr]
    exact rover_any j2 HJ.out.2.1 HJ.out.2.2.2.1.1 HJ.out.2.2.2.1.2.1 (some j) (OOk.one HJ.out.1) (fun x hx => by injection hx with hx; rw [← hx]; exact ⟨HJ.out.2.2.1.1, HJ.out.2.2.1.2.1⟩) _ W S2 S1 none 0 0 [] (HS.out.r2.stay hW) (RAt.stay HS.out.r1 hW) ⟨rfl, fun h => absurd h (Nat.lt_irrefl 0)⟩ rfl (by have := HJ.out.2.2.2.1.2.2; omega)
  have HRR := Lib.hid hr
  clear hr
  cases r with
  | inl b =>
    have HB : Hid ((∀ s ∈ b, s.size ≤ 2097152) ∧ b.length ≤ 1048576) := Lib.hid (by
      obtain ⟨ks, he, hl, hk⟩ := over_way j2 HJ.out.2.1 (some j) (OOk.one HJ.out.1) [] b HRR.out.symm
      rw [List.nil_append] at he
      subst he
      have h1 := HJ.out.2.2.2.1.2.1
      have h2 := HJ.out.2.2.2.1.2.2
      exact ⟨fun s hs => Nat.le_trans (hk s hs).2 h1, by omega⟩)
    obtain ⟨s, hs⟩ : ∃ s, s = printB b := ⟨_, rfl⟩
    have HBE2 : Hid (Calls Tryz.prog 20 #[.pointer (some ⟨q, 0, none⟩), .pointer (some ⟨q2, 0, none⟩)] w9 fun e w' => e = .returned (.tuple #[.pointer none, .iface 117 (.agg #[.int .i64 180, .string s])]) ∧ Hid (Keeps (fun _ => False) w9 w')) := Lib.hid (HBE.out.mono fun e w' h => ⟨by rw [hs]; exact h.1, Lib.hid h.2⟩)
    have HOV2 : Hid (∀ W, Keeps (fun _ => False) w9 W → Calls Tryz.prog 22 #[.agg S1.toArray, .agg S2.toArray, .slice none 0 0] W fun e w' => ∃ A n c, e = .returned (.tuple #[.agg #[.int .i64 0, .bool false, .int .u64 0, .string .empty, .slice none 0 0, .slice none 0 0], .slice A n c, .bool false]) ∧ Hid (b.length = n ∧ Rd w' A n (b.map .string) ∧ Keeps (fun _ => False) w9 w')) := Lib.hid fun W hW => (HOV.out W hW).mono fun e w' h => by
      obtain ⟨hk, A, n, c, he, hl, hr, _⟩ := h
      exact ⟨A, n, c, he, Lib.hid ⟨hl, hr, hW.trans hk fun _ _ h => h⟩⟩
    have HPR : Hid (∀ W A n c, Keeps (fun _ => False) w9 W → b.length = n → Rd W A n (b.map .string) → Calls Tryz.prog 24 #[.slice A n c] W fun e w' => e = .returned (.string s) ∧ Hid (Keeps (fun _ => False) w9 w')) := Lib.hid fun W A n c hW hl hr => (rprint_any W A n c b hl hr HB.out.1 (by have := HB.out.2; omega)).mono fun e w' h => ⟨by rw [hs]; exact h.1, Lib.hid (hW.trans h.2 fun _ _ h => h)⟩
    clear HBE HOV HRR hs HB
    go_wp2_with (first
      | (go_at_call 20; refine HBE2.out.mono ?_; rintro e wa ⟨rfl, HA⟩)
      | ((with_reducible show wpList _ _ _ (⟨some 63, _, _, _, _, _⟩ :: _) _ _); refine wpList_load_whole rfl 31 _ rfl _ rfl (HS.out.stay HA.out).k1 Tryz.underlying31 rfl HSV.out ?_)
      | ((with_reducible show wpList _ _ _ (⟨some 64, _, _, _, _, _⟩ :: _) _ _); refine wpList_load_whole rfl 31 _ rfl _ rfl (HS.out.stay HA.out).k2 Tryz.underlying31 rfl HSW.out ?_)
      | (go_at_call 22; refine (HOV2.out _ HA.out).mono ?_; rintro e wb ⟨A2, n2, c2, rfl, H2⟩; have hz := Blk.new wb 31 [.int .i64 0, .bool false, .int .u64 0, .string .empty, .slice none 0 0, .slice none 0 0]; have e0 := hz.frozen 0; have e1 := hz.frozen 1; have e2 := hz.frozen 2; have e3 := hz.frozen 3; have e4 := hz.frozen 4; have e5 := hz.frozen 5; clear hz)
      | (go_at_call 24; refine (HPR.out _ A2 n2 c2 (H2.out.2.2.alloc _) H2.out.1 (H2.out.2.1.keep ((Keeps.refl (fun _ => False) wb).alloc _) (fun _ _ _ h => h))).mono ?_; rintro e wc ⟨rfl, HC⟩)
      | (go_at_call 23; refine (ltrail_any _ s).mono ?_; rintro e wd ⟨rfl, hd⟩; have HD := Lib.hid (HC.out.trans hd fun _ _ h => h); clear hd))
    go_ret
    exact ⟨rfl, HS.out.keep.trans HD.out fun _ _ h => h⟩
  | inr z =>
    have HZ : Hid (SmallJ z ∧ JOk z ∧ z.lay (some j) = j2) := Lib.hid (by
      have hs := over_small HJ.out.2.1 HJ.out.2.2.2.1 HJ.out.1 HJ.out.2.2.1 HRR.out.symm
      exact ⟨small_of (by omega) (by omega), over_ok j2 HJ.out.2.1 (some j) (OOk.one HJ.out.1) [] z HRR.out.symm, over_leads j2 HJ.out.2.1 (some j) (OOk.one HJ.out.1) [] z HRR.out.symm⟩)
    have HOV2 : Hid (∀ W, Keeps (fun _ => False) w9 W → Calls Tryz.prog 22 #[.agg S1.toArray, .agg S2.toArray, .slice none 0 0] W fun e w' => ∃ R, e = .returned (.tuple #[.agg R.toArray, .slice none 0 0, .bool true]) ∧ Hid (RAt (fun _ => True) w' R z ∧ Keeps (fun _ => False) w9 w' ∧ Keeps (fun _ => False) W w')) := Lib.hid fun W hW => (HOV.out W hW).mono fun e w' h => by
      obtain ⟨hk, R, he, hr⟩ := h
      exact ⟨R, he, Lib.hid ⟨hr.mono fun _ _ _ => trivial, hW.trans hk fun _ _ h => h, hk⟩⟩
    have HL6 : Hid (∀ {v : List Value}, v.length = 6 → (Tryz.prog.info? 31).map (·.size) = some v.length) := Lib.hid fun h => infoVal6 h
    by_cases hwl : z.within
    · have HBE2 : Hid (Calls Tryz.prog 20 #[.pointer (some ⟨q, 0, none⟩), .pointer (some ⟨q2, 0, none⟩)] w9 fun e w' => ∃ q3 u3, e = .returned (.tuple #[.pointer (some ⟨q3, 0, none⟩), .nilIface]) ∧ Hid (TreeAt (fun _ => True) w' q3 u3 z ∧ Keeps (fun _ => False) w9 w')) := Lib.hid (HBE.out.mono fun e w' h => by
        obtain ⟨⟨q3, u3, he, ht, _⟩ | ⟨_, hw⟩, hk⟩ := h
        · exact ⟨q3, u3, he, Lib.hid ⟨ht.true, hk⟩⟩
        · exact absurd hwl hw)
      have HAN : Hid (∀ W q3 u3 R, Keeps (fun _ => False) w9 W → TreeAt (fun _ => True) W q3 u3 z → RAt (fun _ => True) W R z → Calls Tryz.prog 25 #[.pointer (some ⟨q3, 0, none⟩), .nilIface, .agg R.toArray] W fun e w' => e = .returned (.bool true) ∧ Hid (Keeps (fun _ => False) w9 w' ∧ Keeps (fun _ => False) W w')) := Lib.hid fun W q3 u3 R hW ht hr => (answered_any W z _ _ R (.inl ⟨q3, u3, rfl, rfl, ht, hwl⟩) hr HZ.out.2.1 HZ.out.1).mono fun e w' h => ⟨h.1, Lib.hid ⟨hW.trans h.2 fun _ _ h => h, h.2⟩⟩
      have HMA : Hid (∀ W q3 u3, Keeps (fun _ => False) w9 W → TreeAt (fun _ => True) W q3 u3 z → Calls Tryz.prog 18 #[.pointer (some ⟨q, 0, none⟩), .pointer (some ⟨q3, 0, none⟩)] W fun e w' => ∃ q4 u4, e = .returned (.tuple #[.pointer (some ⟨q4, 0, none⟩), .nilIface]) ∧ Hid (TreeAt (fun _ => True) w' q4 u4 j2 ∧ Keeps (fun _ => False) w9 w')) := Lib.hid fun W q3 u3 hW ht => (merge_law (HS.out.t1.stay hW) ht HJ.out.1 HZ.out.2.1 HJ.out.2.2.1 hwl j2 HZ.out.2.2.symm).mono fun e w' h => by
        obtain ⟨p, x, he, ⟨q4, u4, rfl, rfl, ht, _⟩ | ⟨_, _, hw⟩, hk⟩ := h
        · exact ⟨q4, u4, he, Lib.hid ⟨ht, hW.trans hk fun _ _ h => h⟩⟩
        · exact absurd HJ.out.2.2.2.1 hw
      have HIS : Hid (∀ W q v, Keeps (fun _ => False) w9 W → TreeAt (fun _ => True) W q v j2 → Calls Tryz.prog 13 #[.pointer (some ⟨q, 0, none⟩), .agg S2.toArray] W fun e w' => e = .returned (.bool true) ∧ Hid (Keeps (fun _ => False) w9 w')) := Lib.hid fun W q v hW ht => (is_same W q v S2 j2 ht (HS.out.r2.stay hW) HJ.out.2.1 (Nat.le_trans HJ.out.2.2.2.1.1 (by decide))).mono fun e w' h => ⟨h.1, Lib.hid (hW.trans h.2 fun _ _ h => h)⟩
      clear HBE HOV HRR hwl
      go_wp2_with (first
        | (go_at_call 20; refine HBE2.out.mono ?_; rintro e wa ⟨q3, u3, rfl, HA⟩)
        | ((with_reducible show wpList _ _ _ (⟨some 63, _, _, _, _, _⟩ :: _) _ _); refine wpList_load_whole rfl 31 _ rfl _ rfl (HS.out.stay HA.out.2).k1 Tryz.underlying31 rfl HSV.out ?_)
        | ((with_reducible show wpList _ _ _ (⟨some 64, _, _, _, _, _⟩ :: _) _ _); refine wpList_load_whole rfl 31 _ rfl _ rfl (HS.out.stay HA.out.2).k2 Tryz.underlying31 rfl HSW.out ?_)
        | (go_at_call 22; refine (HOV2.out _ HA.out.2).mono ?_; rintro e wb ⟨R, rfl, H2⟩)
        | ((with_reducible show wpList _ _ _ (⟨none, Op.store 31 _ (.tmp 66), _, _, _, _⟩ :: _) _ _); refine wpList_store_whole rfl 31 _ _ rfl R rfl rfl (Blk.new wb 31 [.int .i64 0, .bool false, .int .u64 0, .string .empty, .slice none 0 0, .slice none 0 0]) (by rw [H2.out.1.len]; rfl) (HL6.out H2.out.1.len) H2.out.1.one ?_; have HC : Hid (Keeps (fun _ => False) wb ((wb.alloc (.cells #[.int .i64 0, .bool false, .int .u64 0, .string .empty, .slice none 0 0, .slice none 0 0] 31)).setRow wb.heap.size R.toArray)) := Lib.hid (((Keeps.refl _ wb).alloc _).trans (setRow_keep _ _ _) fun i hi e => by omega); have HC9 := Lib.hid (H2.out.2.1.trans HC.out fun _ _ h => h); have HBK := Lib.hid ((Blk.new wb 31 [.int .i64 0, .bool false, .int .u64 0, .string .empty, .slice none 0 0, .slice none 0 0]).setRow R))
        | ((with_reducible show wpList _ _ _ (⟨some 81, _, _, _, _, _⟩ :: _) _ _); refine wpList_load_whole rfl 31 _ rfl _ rfl HBK.out Tryz.underlying31 rfl (HL6.out H2.out.1.len) ?_)
        | (go_at_call 25; refine (HAN.out _ q3 u3 R HC9.out ((HA.out.1.stay H2.out.2.2).stay HC.out) (H2.out.1.stay HC.out)).mono ?_; rintro e wd ⟨rfl, HD⟩)
        | (go_at_call 18; refine (HMA.out _ q3 u3 HD.out.1 (((HA.out.1.stay H2.out.2.2).stay HC.out).stay HD.out.2)).mono ?_; rintro e we ⟨q4, u4, rfl, HE⟩)
        | ((with_reducible show wpList _ _ _ (⟨some 96, _, _, _, _, _⟩ :: _) _ _); refine wpList_load_whole_g (by kernel_rfl) 31 _ rfl _ rfl (HS.out.stay HE.out.2).k2 Tryz.underlying31 rfl HSW.out ?_)
        | (go_at_call 13; refine (HIS.out _ q4 u4 HE.out.2 HE.out.1).mono ?_; rintro e wf ⟨rfl, HF⟩))
      go_ret
      exact ⟨rfl, HS.out.keep.trans HF.out fun _ _ h => h⟩
    · have HBE2 : Hid (Calls Tryz.prog 20 #[.pointer (some ⟨q, 0, none⟩), .pointer (some ⟨q2, 0, none⟩)] w9 fun e w' => e = .returned (.tuple #[.pointer none, errE 3]) ∧ Hid (Keeps (fun _ => False) w9 w')) := Lib.hid (HBE.out.mono fun e w' h => by
        obtain ⟨⟨q3, u3, he, ht, hw⟩ | ⟨he, hw⟩, hk⟩ := h
        · exact absurd hw hwl
        · exact ⟨he, Lib.hid hk⟩)
      have HAN : Hid (∀ W R, Keeps (fun _ => False) w9 W → RAt (fun _ => True) W R z → Calls Tryz.prog 25 #[.pointer none, errE 3, .agg R.toArray] W fun e w' => e = .returned (.bool true) ∧ Hid (Keeps (fun _ => False) w9 w')) := Lib.hid fun W R hW hr => (answered_any (D := fun _ => True) W z _ _ R (.inr ⟨rfl, rfl, hwl⟩) hr HZ.out.2.1 HZ.out.1).mono fun e w' h => ⟨h.1, Lib.hid (hW.trans h.2 fun _ _ h => h)⟩
      unfold errE at HBE2 HAN
      clear HBE HOV HRR hwl
      go_wp2_with (first
        | (go_at_call 20; refine HBE2.out.mono ?_; rintro e wa ⟨rfl, HA⟩)
        | ((with_reducible show wpList _ _ _ (⟨some 63, _, _, _, _, _⟩ :: _) _ _); refine wpList_load_whole rfl 31 _ rfl _ rfl (HS.out.stay HA.out).k1 Tryz.underlying31 rfl HSV.out ?_)
        | ((with_reducible show wpList _ _ _ (⟨some 64, _, _, _, _, _⟩ :: _) _ _); refine wpList_load_whole rfl 31 _ rfl _ rfl (HS.out.stay HA.out).k2 Tryz.underlying31 rfl HSW.out ?_)
        | (go_at_call 22; refine (HOV2.out _ HA.out).mono ?_; rintro e wb ⟨R, rfl, H2⟩)
        | ((with_reducible show wpList _ _ _ (⟨none, Op.store 31 _ (.tmp 66), _, _, _, _⟩ :: _) _ _); refine wpList_store_whole rfl 31 _ _ rfl R rfl rfl (Blk.new wb 31 [.int .i64 0, .bool false, .int .u64 0, .string .empty, .slice none 0 0, .slice none 0 0]) (by rw [H2.out.1.len]; rfl) (HL6.out H2.out.1.len) H2.out.1.one ?_; have HC : Hid (Keeps (fun _ => False) wb ((wb.alloc (.cells #[.int .i64 0, .bool false, .int .u64 0, .string .empty, .slice none 0 0, .slice none 0 0] 31)).setRow wb.heap.size R.toArray)) := Lib.hid (((Keeps.refl _ wb).alloc _).trans (setRow_keep _ _ _) fun i hi e => by omega); have HC9 := Lib.hid (H2.out.2.1.trans HC.out fun _ _ h => h); have HBK := Lib.hid ((Blk.new wb 31 [.int .i64 0, .bool false, .int .u64 0, .string .empty, .slice none 0 0, .slice none 0 0]).setRow R))
        | ((with_reducible show wpList _ _ _ (⟨some 81, _, _, _, _, _⟩ :: _) _ _); refine wpList_load_whole rfl 31 _ rfl _ rfl HBK.out Tryz.underlying31 rfl (HL6.out H2.out.1.len) ?_)
        | (go_at_call 25; refine (HAN.out _ R HC9.out (H2.out.1.stay HC.out)).mono ?_; rintro e wd ⟨rfl, HD⟩))
      go_ret
      exact ⟨rfl, HS.out.keep.trans HD.out fun _ _ h => h⟩
theorem betw_any (w : World) (A : Option Addr) (n c : Nat) (B : Option Addr) (m d : Nat) (css dss : List (List Value)) (l k : List StepV) (hS : StepsIn w A n css l) (hM : Modest l) (hT : StepsIn w B m dss k) (hN : Modest k) (hmax : MaxAt w) :
    Calls Tryz.prog 6 #[.slice A n c, .slice B m d] w fun e w' => e = .returned (.bool true) ∧ Keeps (fun _ => False) w w' := by
  cases h1 : buildF l with
  | inl er =>
    cases h2 : buildF k with
    | inl er2 => exact betw_bad w A n c B m d css dss l k hS hM hT hN false false (made_bad hS hM h1) (made_bad hT hN h2) rfl
    | inr j2 => exact betw_bad w A n c B m d css dss l k hS hM hT hN false true (made_bad hS hM h1) (made_good hT hN h2).any rfl
  | inr j =>
    cases h2 : buildF k with
    | inl er2 => exact betw_bad w A n c B m d css dss l k hS hM hT hN true false (made_good hS hM h1).any (made_bad hT hN h2) rfl
    | inr j2 => exact betw_ok w A n c B m d css dss l k hS hM hT hN hmax j j2 (made_good hS hM h1) (made_good hT hN h2) (buildF_ok h1).1 (buildF_ok h2).1 (buildF_ok h1).2 (buildF_ok h2).2
end Go.Proofs.YtdmcioghdindfaaGreatDoor
