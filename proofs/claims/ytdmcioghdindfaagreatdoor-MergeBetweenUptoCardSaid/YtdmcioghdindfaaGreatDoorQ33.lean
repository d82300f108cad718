/-
  Texts put together: MDeepW; MNulW; OverP.
-/
import Derived.Test.YtdmcioghdindfaaGreatDoorQ32
import Derived.Test.YtdmcioghdindfaaGreatDoorQ23
import Derived.Test.YtdmcioghdindfaaGreatDoorQ24
import Derived.Laws.CopyOwn
import Derived.Test.YtdmcioghdindfaaGreatDoorQ22
import Derived.Test.YtdmcioghdindfaaGreatDoorQ28
import Derived.Test.YtdmcioghdindfaaGreatDoorQ03
set_option linter.unusedSimpArgs false
set_option maxRecDepth 100000
set_option maxHeartbeats 4000000
namespace Go.Proofs.YtdmcioghdindfaaGreatDoor
open Go Go.RowKit Go.Aff Go.Json Go.Rng
attribute [local go_sem] Oper.semAt_some
theorem splice_make {α : Type} (L : List α) (z : α) : Go.splice (List.replicate (L.length + 1) z) 0 L = L ++ [z] := by
 unfold Go.splice
 rw [List.take_zero, List.nil_append, Nat.zero_add, List.drop_replicate, show L.length + 1 - L.length = 1 by omega]
 rfl
theorem deeper_any (w : World) (A : Option Addr) (n c : Nat) (ts : List ByteArray) (hts : ts.length = n) (hr : Rd w A n (ts.map .string)) (key : ByteArray) (hn : n ≤ 65536) :
  Calls Tryz.prog 34 #[.slice A n c, .string key] w fun e w' => ∃ A', e = .returned (.slice A' (n + 1) (n + 1)) ∧ Rd w' A' (n + 1) ((ts ++ [key]).map .string) ∧ InB (fun i => w.heap.size ≤ i) A' (n + 1) ∧ Keeps (fun _ => False) w w' := by
 have HR := Lib.hid (And.intro hr hts)
 have HGI : Hid (goInt (ts.map Value.string).length = .int .i64 (n : Int)) := Lib.hid (by rw [List.length_map, hts]; rfl)
 have hn65 : (n : Int) ≤ 65536 := by omega
 obtain ⟨g, hg⟩ : ∃ g, g = w.heap.size := ⟨_, rfl⟩
 have HG := Lib.hid hg
 clear hr hts hn hg
 go_enter Tryz.func34, Tryz.ntmps34
 go_upto_region 2 with (refine wpList_makeN w rfl _ _ 29 rfl 9 (.string .empty) 16 Tryz.underlying29 (by kernel_rfl) rfl .i64 .i64 _ _ (n + 1) rfl rfl (by omega) (by omega) (by omega) (by unfold maxLen; omega) ?_; intro w2 ho2 hg2; rw [← HG.out] at ho2; have HO2 := Lib.hid (And.intro ho2 ((Keeps.of_grown hg2).mono (G := fun _ => False) fun i _ e => by cases e)); clear ho2 hg2)
 rw [← HG.out]
 have HG2 : Hid (w2.heap[g]? = some (.cells (List.replicate (n + 1) (Value.string .empty)).toArray 9 (0, 0)) ∧ w.heap.size ≤ g ∧ Below w.heap.size w w2) := Lib.hid (by
  obtain ⟨⟨hl, h⟩, hk⟩ := HO2.out
  refine ⟨?_, by rw [HG.out]; exact Nat.le_refl _, ⟨hk.os, hk.tape, hk.output, hk.size, fun i hi => hk.block i hi (fun h => h)⟩⟩
  rcases h with ⟨h, _⟩ | ⟨g', cap, cur, hv, _, hh, _, _, hcs, htk⟩
  ·cases h
  ·injection hv with e1 e2 e3
   injection e1 with e1
   injection e1 with e1 _
   subst e1 e3
   rw [hh]
   have : cur.toList = List.replicate (n + 1) (Value.string .empty) := by
    rw [← htk, List.take_of_length_le (by simp; omega)]
   rw [← this])
 have HSRC : Hid (∀ v ∈ ts.map Value.string, v.oneCell' = true) := Lib.hid fun v hv => by
  obtain ⟨x, _, rfl⟩ := List.mem_map.1 hv; rfl
 go_wp2_with ((with_reducible show wpList _ _ _ (⟨some 13, _, _, _, _, _⟩ :: _) _ _); refine wpList_copy_splice rfl (.tmp 11) (.tmp 12) 29 29 rfl 9 Tryz.underlying29 (by kernel_rfl) (some ⟨g, 0, none⟩) A (n + 1) (n + 1) n c rfl rfl g 0 (List.replicate (n + 1) (Value.string .empty)) 9 HG2.out.1 (ts.map .string) (by rw [List.length_map, HR.out.2]; exact (Nat.min_eq_left (by omega)).symm) (fun h0 => ⟨rfl, by
   obtain ⟨g1, o1, hA, hc⟩ := (HR.out.1.keep HO2.out.2 (fun _ _ _ h => h)).2 (by rw [List.length_map, HR.out.2] at h0; exact h0)
   refine ⟨⟨g1, o1, none⟩, hA, fun j v hj => ?_⟩
   have hjl := (List.getElem?_eq_some_iff.1 hj).1
   rw [List.length_map, HR.out.2] at hjl
   rw [← hj, add_at]
   exact hc j hjl⟩) (by rw [List.length_map, HR.out.2, List.length_replicate]; omega) HSRC.out w.heap.size w HG2.out.2.2 HG2.out.2.1 ?_; intro w3 hg3 hb3; rw [HGI.out]; have hbk : Blk w3 g 9 (ts.map .string ++ [.string .empty]) := (by
    have h4 := hg3.out
    have h5 := splice_make (ts.map Value.string) (Value.string .empty)
    rw [List.length_map, HR.out.2] at h5
    rw [h5] at h4
    exact h4); have HB3 := Lib.hid (And.intro hbk hb3); have cn : w3.cell? ⟨g, n, none⟩ = some (.string .empty) := (by rw [hbk.cell n, List.getElem?_append_right (by rw [List.length_map, HR.out.2]; exact Nat.le_refl _), List.length_map, HR.out.2, Nat.sub_self]; rfl); have fn := hbk.frozen n; clear hbk hb3 hg3)
 go_ret
 have hset := (HB3.out.1.set_ n (Value.string key))
 have hl : (ts.map Value.string ++ [Value.string .empty]).set n (Value.string key) = (ts ++ [key]).map .string := by
  rw [List.set_append_right _ _ (by rw [List.length_map, HR.out.2]; exact Nat.le_refl _), List.length_map, HR.out.2, Nat.sub_self, List.map_append]
  rfl
 rw [hl] at hset
 refine ⟨_, rfl, ⟨by rw [List.length_map, List.length_append, HR.out.2]; rfl, fun _ => ⟨g, 0, rfl, fun j _ => by rw [Nat.zero_add]; exact hset.cell j⟩⟩, fun _ a e => by injection e with e; rw [← e]; exact HG2.out.2.1, ?_⟩
 refine (Below.keeps0 HB3.out.2).trans ((Keeps.refl (fun i => i = g) w3).setCell (p := ⟨g, n, none⟩) (.inl rfl) _) fun i hi e => ?_
 have := HG2.out.2.1
 omega
def trailE (s : ByteArray) : Value := .iface 117 (.agg #[.int .i64 180, .string s])
theorem trail_any (w : World) (A : Option Addr) (n c : Nat) (ts : List ByteArray) (hts : ts.length = n) (hr : Rd w A n (ts.map .string)) (hm : MaxAt w) (hb : ∀ t ∈ ts, rightS t = true ∧ t.size ≤ 2097152) (hn : n ≤ 65536) :
  Calls Tryz.prog 88 #[.slice A n c] w fun e w' => e = .returned (trailE (printB ts)) ∧ Keeps (fun _ => False) w w' := by
 have HP := Lib.hid (print_any w A n c ts hts hr hm hb hn)
 unfold trailE
 obtain ⟨s, hs⟩ : ∃ s, s = printB ts := ⟨_, rfl⟩
 rw [← hs] at HP ⊢
 clear hts hr hm hb hn hs
 go_enter Tryz.func88, Tryz.ntmps88
 go_wp2_with (go_at_call 30; refine HP.out.mono ?_; rintro e w1 ⟨rfl, hk1⟩; have HK1 := Lib.hid hk1; clear hk1)
 go_ret
 exact ⟨rfl, HK1.out⟩
theorem null_within : JV.null.within := ⟨by simp [JV.nodes], by simp [JV.bytes], by simp [JV.deep]⟩
theorem doF_null : doF [] (step0 1) = .inr [.null] := by
 have hm : ∀ l, mkV (step0 1) l = .null := fun _ => rfl
 unfold doF
 rw [if_neg (by simp [usedF, step0]), if_neg (by show ¬ ((1 : Int) = 3 ∧ _); simp), if_neg (by show ¬ (rightS ByteArray.empty = false ∨ [].all rightS = false); rw [show rightS ByteArray.empty = true from by decide]; simp), if_neg (by show ¬ ¬ ([] : List ByteArray).Nodup; simp), if_neg (by show ¬ ([] : List JV).length < 0 + 0; simp), hm, if_neg (fun h => h null_within)]
 rfl
theorem step_null (D : Nat → Prop) (w : World) (p : Nat) (h : RowAt 204 D w p none 0 [] []) :
  Calls Tryz.prog 138 #[.pointer (some ⟨p, 0, none⟩), .agg #[.int .i64 1, .bool false, .int .u64 0, .string .empty, .int .i64 0, .slice none 0 0]] w fun e w' => e = .returned .nilIface ∧ (∃ A c vs, RowAt 204 D w' p A c vs [.null]) ∧ Keeps (fun i => p ≤ i) w w' := by
 have HDO : Hid (∀ W, Keeps (fun _ => False) w W → Calls Tryz.prog 48 #[.pointer (some ⟨p, 0, none⟩), .agg #[.int .i64 1, .bool false, .int .u64 0, .string .empty, .int .i64 0, .slice none 0 0]] W fun e w' => e = .returned .nilIface ∧ (∃ A c vs, RowAt 204 D w' p A c vs [.null]) ∧ Keeps (fun i => p ≤ i) w w') := Lib.hid fun W hW => by
  refine (do_any (step0 1) ⟨by show ByteArray.empty.size ≤ _; decide, by show byF [] ≤ _; decide, by show 0 ≤ _; decide, by show 0 < 18446744073709551616; decide⟩ _ D W p none 0 [] [] (h.stay hW) (by decide) (fun j hj => by cases hj) none 0 ⟨rfl, fun h => absurd h (Nat.lt_irrefl 0)⟩).mono fun e w' hq => ?_
  unfold DoPost at hq
  rw [doF_null] at hq
  exact ⟨hq.1, hq.2.1, (hW.mono (G := fun i => p ≤ i) fun _ _ h => h.elim).trans (hq.2.2.mono (G := fun i => p ≤ i) fun i _ e => e.elim (fun e => by omega) fun e => by simp [Value.ownBlock] at e) fun _ _ h => h⟩
 have HRW := Lib.hid h
 clear h
 have HB0 : Hid (Keeps (fun _ => False) w (w.alloc (.cells #[.int .i64 1, .bool false, .int .u64 0, .string .empty, .int .i64 0, .slice none 0 0] 53)) ∧ Blk (w.alloc (.cells #[.int .i64 1, .bool false, .int .u64 0, .string .empty, .int .i64 0, .slice none 0 0] 53)) w.heap.size 53 [.int .i64 1, .bool false, .int .u64 0, .string .empty, .int .i64 0, .slice none 0 0]) := Lib.hid ⟨(Keeps.refl _ _).alloc _, Blk.new _ _ _⟩
 go_enter Tryz.func138, Tryz.ntmps138
 go_upto_region 3 with fail
 obtain ⟨b, hb⟩ : ∃ b, b = w.heap.size := ⟨_, rfl⟩
 rw [← hb] at HB0 ⊢
 refine gen_codeF (fun W => Keeps (fun _ => False) w W ∧ Blk W b 53 [.int .i64 1, .bool false, .int .u64 0, .string .empty, .int .i64 0, .slice none 0 0]) HB0.out ?_
 rintro w1 ⟨k1, b1⟩
 have c0 := b1.cell 0
 have d0 : w1.cell? ⟨p, 0, none⟩ = some (.slice none 0 0) := (k1.blk HRW.out.blk (fun h => h)).cell 0
 have HK1 := Lib.hid (And.intro k1 b1)
 clear k1 b1 HB0 hb
 go_upto_region 5 with fail
 refine wp_region_tail (S := Keeps (fun _ => False) w1) 4 (by kernel_rfl) (Keeps.refl _ _).drew (fun hHeld => ?_)
 refine tJ 0 21 ?_
 try simp only [pu]
 refine tJ 1 22 ?_
 try simp only [pu]
 refine tJ 2 23 ?_
 try simp only [pu]
 refine tT [3] (i := 3) (oi := ⟨some 24, _, _, _, _, _⟩) (v := _) rfl (yieldsIf_load_mid (by rfl) _ _ rfl _ _ rfl [.int .i64 1, .bool false, .int .u64 0, .string .empty, .int .i64 0, .slice none 0 0] _ (fun w' h => blk_rng (h.blk HK1.out.2 (fun h => h))) Tryz.underlying53 rfl (by kernel_rfl)) hHeld ?_
 try simp only [pu]
 refine wpAnyT_tail (i := 4) (o := ⟨some 25, _, _, _, _, _⟩) (by kernel_rfl) (by kernel_rfl) rfl (fun K hK => ?_)
 go_simp
 refine (HDO.out _ (HK1.out.1.trans hHeld fun _ _ h => h)).mono ?_
 rintro e w2 ⟨rfl, hq⟩
 refine hK.out _ _ ?_
 clear hK K
 try simp only [pu]
 refine wpAnyT_tail (i := 5) (o := ⟨some 4, _, _, _, _, _⟩) (by kernel_rfl) (by kernel_rfl) rfl (fun K hK => ?_)
 go_simp
 refine hK.out _ _ ?_
 clear hK K
 try simp only [pu]
 refine wpAnyT_done (by kernel_rfl) ?_
 go_wp2
 go_ret
 exact ⟨rfl, hq⟩
theorem null_any (w : World) : Calls Tryz.prog 87 #[] w fun e w' => ∃ t, e = .returned t ∧ TAtR (fun i => w.heap.size ≤ i) w' t .null ∧ Keeps (fun _ => False) w w' := by
 have hka : Keeps (fun _ => False) w (w.alloc (.cells #[.slice none 0 0] 204)) := (Keeps.refl _ w).alloc _
 have hr : RowAt 204 (fun i => False ∨ w.heap.size ≤ i) (w.alloc (.cells #[.slice none 0 0] 204)) w.heap.size none 0 [] [] := RowAt.start w fun i hi => .inr hi
 have HN : Hid (Calls Tryz.prog 64 #[] w fun e w' => e = .returned (.pointer (some ⟨w.heap.size, 0, none⟩)) ∧ w' = w.alloc (.cells #[.slice none 0 0] 204)) := Lib.hid (new_any w)
 have HS := Lib.hid (step_null _ _ _ hr)
 have HK := Lib.hid hka
 have HNU : Hid (Calls Tryz.prog 115 #[.pointer (some ⟨w.heap.size, 0, none⟩)] (w.alloc (.cells #[.slice none 0 0] 204)) fun e w' => e = .returned .nilIface ∧ Hid ((∃ A c vs, RowAt 204 (fun i => False ∨ w.heap.size ≤ i) w' w.heap.size A c vs [.null]) ∧ Keeps (fun _ => False) w w')) := Lib.hid (by
  obtain ⟨W, hW⟩ : ∃ W, W = w.alloc (.cells #[.slice none 0 0] 204) := ⟨_, rfl⟩
  rw [← hW] at HS HK ⊢
  clear hka hr HN hW
  go_enter Tryz.func115, Tryz.ntmps115
  go_wp2_with (go_at_call 138; refine HS.out.mono ?_; rintro e w1 ⟨rfl, hrow, hk1⟩; have H1 := Lib.hid (And.intro hrow hk1); clear hrow hk1)
  go_ret
  exact ⟨rfl, Lib.hid ⟨H1.out.1, keep_lo HK.out H1.out.2 fun i h => h⟩⟩)
 clear hka hr HS HK
 go_enter Tryz.func87, Tryz.ntmps87
 go_upto_region 3 with (first
  | (go_at_call 64; refine HN.out.mono ?_; rintro e w1 ⟨rfl, rfl⟩)
  | (go_at_call 115; refine HNU.out.mono ?_; rintro e w2 ⟨rfl, H2⟩))
 obtain ⟨⟨A, c, vs, hrow⟩, hk2⟩ := H2.out
 have HT := Lib.hid (tree_one _ w2 _ A c vs .null hrow)
 have HK2 := Lib.hid hk2
 clear hrow hk2
 go_upto_region 4 with (go_at_call 65; refine HT.out.mono ?_; rintro e w3 ⟨q, v, rfl, ht, hk3⟩)
 obtain ⟨T, y, hv⟩ := ht.2.2.iface
 subst hv
 have HRT := Lib.hid (root_any w3 q T y ht.2.1)
 have HT3 := Lib.hid (And.intro ht hk3)
 clear ht hk3
 go_wp2_with (go_at_call 38; refine HRT.out.mono ?_; rintro e w4 ⟨rfl, hk4⟩; have HK4 := Lib.hid hk4; clear hk4)
 go_ret
 exact ⟨_, rfl, .whole ((HT3.out.1.2.2.stay HK4.out).mono fun i hi _ => hi.elim False.elim id) (by decide), (HK2.out.trans HT3.out.2 fun _ _ h => h).trans HK4.out fun _ _ h => h⟩
end Go.Proofs.YtdmcioghdindfaaGreatDoor
namespace Go.Json
def overAll {β : Type} (f : ByteArray → β ⊕ Option JV) : List ByteArray → β ⊕ List (ByteArray × JV)
 | [] => .inr []
 | key :: cs => match f key with
  | .inl b => .inl b
  | .inr o => match overAll f cs with
   | .inl b => .inl b
   | .inr ms => .inr ((o.map fun x => (key, x)).toList ++ ms)
def goodF {β : Type} (f : ByteArray → β ⊕ Option JV) (key : ByteArray) : Option JV := match f key with
 | .inr (some z) => some z
 | _ => none
theorem overAll_inr {β : Type} {f : ByteArray → β ⊕ Option JV} : ∀ {cs : List ByteArray}, (∀ key ∈ cs, ∃ o, f key = .inr o) → overAll f cs = .inr (keyed (goodF f) cs)
 | [], _ => rfl
 | key :: cs, h => by
  obtain ⟨o, ho⟩ := h key (List.mem_cons_self ..)
  have ih := overAll_inr (cs := cs) fun k hk => h k (List.mem_cons_of_mem _ hk)
  unfold overAll
  rw [ho, ih]
  have hg : goodF f key = o := by unfold goodF; rw [ho]; cases o <;> rfl
  unfold keyed
  rw [List.filterMap_cons, hg]
  cases o <;> rfl
theorem overAll_inl {β : Type} {f : ByteArray → β ⊕ Option JV} {b : β} : ∀ {cs : List ByteArray} {i : Nat} {key : ByteArray}, (∀ k ∈ cs.take i, ∃ o, f k = .inr o) → cs[i]? = some key → f key = .inl b → overAll f cs = .inl b
 | [], i, key, _, h, _ => by simp at h
 | c :: cs, 0, key, _, h, hb => by
  simp at h
  subst h
  unfold overAll
  rw [hb]
 | c :: cs, i + 1, key, hp, h, hb => by
  obtain ⟨o, ho⟩ := hp c (by simp)
  have ih := overAll_inl (cs := cs) (i := i) (fun k hk => hp k (by rw [List.take_succ_cons]; exact List.mem_cons_of_mem _ hk)) (by simpa using h) hb
  unfold overAll
  rw [ho, ih]
theorem overAll_cases {β : Type} (f : ByteArray → β ⊕ Option JV) : ∀ cs : List ByteArray, (∀ key ∈ cs, ∃ o, f key = .inr o) ∨ ∃ i key b, (∀ k ∈ cs.take i, ∃ o, f k = .inr o) ∧ cs[i]? = some key ∧ f key = .inl b
 | [] => .inl fun k hk => by cases hk
 | c :: cs => by
  cases hc : f c with
  | inl b => exact .inr ⟨0, c, b, fun k hk => by simp at hk, rfl, hc⟩
  | inr o =>
   rcases overAll_cases f cs with h | ⟨i, key, b, h1, h2, h3⟩
   ·exact .inl fun k hk => by
     rcases List.mem_cons.1 hk with rfl | hk
     ·exact ⟨o, hc⟩
     ·exact h k hk
   ·exact .inr ⟨i + 1, key, b, fun k hk => by
     rw [List.take_succ_cons] at hk
     rcases List.mem_cons.1 hk with rfl | hk
     ·exact ⟨o, hc⟩
     ·exact h1 k hk, by simpa using h2, h3⟩
noncomputable def overAt (x : Option JV) (y : Option (JV × (Option JV → List ByteArray → List ByteArray ⊕ JV))) (way : List ByteArray) : List ByteArray ⊕ Option JV := open Classical in match y with
 | none => .inr (some .null)
 | some (y, f) => if x = some y then .inr none else if y.sort = 1 then .inl way else match f x way with
  | .inl b => .inl b
  | .inr z => .inr (some z)
noncomputable def JV.over : JV → Option JV → List ByteArray → List ByteArray ⊕ JV
 | .obj kw lw => fun v way =>
  let L := lw.map fun y => (y, y.over)
  match overAll (fun key => overAt (atK (mem2 v).1 (mem2 v).2 key) (atK kw L key) (way ++ [key])) (unionK ((mem2 v).1 ++ kw)) with
  | .inl b => .inl b
  | .inr ms => .inr (.obj (ms.map (·.1)) (ms.map (·.2)))
 | w => fun _ _ => .inr w
theorem over_whole (p : JV) (v : Option JV) (way : List ByteArray) (h : p.sort ≠ 6) : p.over v way = .inr p := by cases p <;> first | exact absurd rfl h | simp [JV.over]
noncomputable def overF (kw : List ByteArray) (lw : List JV) (v : Option JV) (way : List ByteArray) (key : ByteArray) : List ByteArray ⊕ Option JV := overAt (atK (mem2 v).1 (mem2 v).2 key) (atK kw (lw.map fun y => (y, y.over)) key) (way ++ [key])
theorem over_obj (kw : List ByteArray) (lw : List JV) (v : Option JV) (way : List ByteArray) : (JV.obj kw lw).over v way = match overAll (overF kw lw v way) (unionK ((mem2 v).1 ++ kw)) with
  | .inl b => .inl b
  | .inr ms => .inr (.obj (ms.map (·.1)) (ms.map (·.2))) := by
 rw [JV.over]; rfl
section
variable {kw : List ByteArray} {lw : List JV} {v : Option JV} {way : List ByteArray} {key : ByteArray}
theorem overF_none (h : atK kw lw key = none) : overF kw lw v way key = .inr (some .null) := by
 unfold overF overAt; rw [atK_map, h]; rfl
theorem overF_same {y : JV} (h : atK kw lw key = some y) (hx : atK (mem2 v).1 (mem2 v).2 key = some y) : overF kw lw v way key = .inr none := by
 unfold overF overAt; rw [atK_map, h, hx]; simp
theorem overF_null {y : JV} (h : atK kw lw key = some y) (hx : atK (mem2 v).1 (mem2 v).2 key ≠ some y) (h1 : y.sort = 1) : overF kw lw v way key = .inl (way ++ [key]) := by
 unfold overF overAt; rw [atK_map, h]
 simp [hx, h1]
theorem overF_deep {y : JV} (h : atK kw lw key = some y) (hx : atK (mem2 v).1 (mem2 v).2 key ≠ some y) (h1 : y.sort ≠ 1) : overF kw lw v way key = match y.over (atK (mem2 v).1 (mem2 v).2 key) (way ++ [key]) with
  | .inl b => .inl b
  | .inr z => .inr (some z) := by
 unfold overF overAt; rw [atK_map, h]
 simp only [Option.map_some]
 rw [if_neg hx, if_neg h1]
end
def OverOk (r : List ByteArray ⊕ JV) : Prop := ∀ j, r = .inr j → JOk j
theorem null_ok : JOk .null := .mk .null (Nat.le_refl _) (fun h => by cases h) .nil (fun k hk => by cases hk) (by show rightS ByteArray.empty = true; decide) fun x hx => by cases hx
theorem over_mem {kw : List ByteArray} {lw : List JV} {v : Option JV} {way : List ByteArray} {key : ByteArray} {z : JV} (h : goodF (overF kw lw v way) key = some z) : (atK kw lw key = none ∧ z = .null) ∨ ∃ y, atK kw lw key = some y ∧ atK (mem2 v).1 (mem2 v).2 key ≠ some y ∧ y.sort ≠ 1 ∧ y.over (atK (mem2 v).1 (mem2 v).2 key) (way ++ [key]) = .inr z := by
 cases hy : atK kw lw key with
 | none =>
  unfold goodF at h
  rw [overF_none hy] at h
  injection h with h
  exact .inl ⟨rfl, h.symm⟩
 | some y =>
  by_cases hx : atK (mem2 v).1 (mem2 v).2 key = some y
  ·unfold goodF at h
   rw [overF_same hy hx] at h
   cases h
  ·by_cases h1 : y.sort = 1
   ·unfold goodF at h
    rw [overF_null hy hx h1] at h
    cases h
   ·refine .inr ⟨y, rfl, hx, h1, ?_⟩
    unfold goodF at h
    rw [overF_deep hy hx h1] at h
    cases ho : y.over (atK (mem2 v).1 (mem2 v).2 key) (way ++ [key]) with
    | inl b => rw [ho] at h; cases h
    | inr z' => rw [ho] at h; injection h with h; rw [h]
theorem over_form {kw : List ByteArray} {lw : List JV} {v : Option JV} {way : List ByteArray} {j : JV} (h : (JV.obj kw lw).over v way = .inr j) : (∀ key ∈ unionK ((mem2 v).1 ++ kw), ∃ o, overF kw lw v way key = .inr o) ∧ j = .obj ((keyed (goodF (overF kw lw v way)) (unionK ((mem2 v).1 ++ kw))).map (·.1)) ((keyed (goodF (overF kw lw v way)) (unionK ((mem2 v).1 ++ kw))).map (·.2)) := by
 rw [over_obj] at h
 rcases overAll_cases (overF kw lw v way) (unionK ((mem2 v).1 ++ kw)) with hc | ⟨i, key, b, h1, h2, h3⟩
 ·rw [overAll_inr hc] at h
  injection h with h
  exact ⟨hc, h.symm⟩
 ·rw [overAll_inl h1 h2 h3] at h
  cases h
theorem over_ok : ∀ (p : JV), JOk p → ∀ v, OOk v → ∀ way j, p.over v way = .inr j → JOk j := by
 refine JV.by_parts fun p ih hp v hv way j hj => ?_
 by_cases hs : p.sort = 6
 ·obtain ⟨kw, lw, rfl⟩ := JOk.obj_of hs
  obtain ⟨_, rfl⟩ := over_form hj
  have hu := lay_union hp hv
  have hR := keyed_rising (f := goodF (overF kw lw v way)) hu.1
  refine JOk.obj (by simp) (List.pairwise_map.2 hR) (fun k hk => ?_) fun x hx => ?_
  ·obtain ⟨q, hq, rfl⟩ := List.mem_map.1 hk
   exact (List.mem_append.1 ((hu.2 _).1 (keyed_mem.1 hq).1)).elim ((mem2_ok hv).2.2.1 _) (hp.form.2.2.2.1 _)
  ·obtain ⟨q, hq, rfl⟩ := List.mem_map.1 hx
   rcases over_mem (keyed_mem.1 hq).2 with ⟨_, h⟩ | ⟨y, hy, _, _, hz⟩
   ·rw [h]; exact null_ok
   ·have hm := (atK_some_mem hp.form.2.2.1 hy).2
    exact ih y hm (hp.form.2.2.2.2.2 y hm) _ (at_ok (mem2_ok hv).2.1 (mem2_ok hv).2.2.2) _ _ hz
 ·rw [over_whole p v way hs] at hj
  injection hj with hj
  rw [← hj]; exact hp
theorem over_weight {f : JV → Nat} {c : Nat} {g : ByteArray → Nat} (hw : Weight f c g) (h0 : ∀ j, f .null ≤ f j) : ∀ (p : JV), JOk p → ∀ v, OOk v → ∀ way j, p.over v way = .inr j → f j ≤ f p + ow f v := by
 refine JV.by_parts fun p ih hp v hv way j hj => ?_
 by_cases hs : p.sort = 6
 ·obtain ⟨kw, lw, rfl⟩ := JOk.obj_of hs
  obtain ⟨_, rfl⟩ := over_form hj
  have hu := lay_union hp hv
  have hn := ltS_nodup hu.1
  obtain ⟨cs, hcs⟩ : ∃ cs, cs = unionK ((mem2 v).1 ++ kw) := ⟨_, rfl⟩
  rw [← hcs] at hu hn ⊢
  rw [hw.obj, hw.obj]
  have h1 := sumN_keys g _ _ ((keyed_keys (goodF (overF kw lw v way)) cs).nodup hn) (fun s hm => (hu.2 s).1 ((keyed_keys (goodF (overF kw lw v way)) cs).subset hm))
  rw [List.map_append, sumN_app] at h1
  have hin : ∀ key z, key ∈ cs → atK kw lw key = none → goodF (overF kw lw v way) key = some z → ∃ u, atK (mem2 v).1 (mem2 v).2 key = some u := fun key z hk h2 _ => by
   rcases List.mem_append.1 ((hu.2 key).1 hk) with h3 | h3
   ·cases h4 : atK (mem2 v).1 (mem2 v).2 key with
    | some u => exact ⟨u, rfl⟩
    | none => exact absurd h3 (atK_none (mem2_ok hv).1 h4)
   ·exact absurd h3 (atK_none (hp.form.2.1 rfl) h2)
  have h2 : sumN ((keyed (goodF (overF kw lw v way)) cs).map fun p => f p.2) ≤ sumN (cs.map fun key => ow f (atK (mem2 v).1 (mem2 v).2 key)) + sumN (cs.map fun key => ow f (atK kw lw key)) := by
   have hmain : ∀ ds : List ByteArray, (∀ k ∈ ds, k ∈ cs) → sumN ((keyed (goodF (overF kw lw v way)) ds).map fun p => f p.2) ≤ sumN (ds.map fun key => ow f (atK (mem2 v).1 (mem2 v).2 key)) + sumN (ds.map fun key => ow f (atK kw lw key)) := by
    intro ds
    induction ds with
    | nil => intro _; simp [keyed, sumN]
    | cons d ds ihd =>
     intro hd
     have h3 := ihd fun k hk => hd k (List.mem_cons_of_mem _ hk)
     simp only [List.map_cons, sumN]
     unfold keyed at h3 ⊢
     rw [List.filterMap_cons]
     cases hc : goodF (overF kw lw v way) d with
     | none => simp only [Option.map_none]; omega
     | some z =>
      simp only [Option.map_some, List.map_cons, sumN]
      have h4 : f z ≤ ow f (atK (mem2 v).1 (mem2 v).2 d) + ow f (atK kw lw d) := by
       rcases over_mem hc with ⟨hy, hz⟩ | ⟨y, hy, _, _, hz⟩
       ·obtain ⟨u, hu⟩ := hin d z (hd d (List.mem_cons_self ..)) hy hc
        rw [hu, hz]
        have := h0 u
        show f .null ≤ f u + _
        omega
       ·have hm := (atK_some_mem hp.form.2.2.1 hy).2
        have := ih y hm (hp.form.2.2.2.2.2 y hm) _ (at_ok (mem2_ok hv).2.1 (mem2_ok hv).2.2.2) _ _ hz
        rw [hy]
        show f z ≤ _ + f y
        omega
      omega
   exact hmain cs fun k hk => hk
  have h3 := sumN_at f cs hn (mem2 v).1 (mem2 v).2
  have h4 := sumN_at f cs hn kw lw
  have h5 := ow_mem hw v
  have h6 : ((keyed (goodF (overF kw lw v way)) cs).map (·.2)).map f = (keyed (goodF (overF kw lw v way)) cs).map fun p => f p.2 := by rw [List.map_map]; rfl
  rw [h6]
  omega
 ·rw [over_whole p v way hs] at hj
  injection hj with hj
  rw [← hj]; exact Nat.le_add_right _ _
theorem over_sort {p : JV} {v : Option JV} {way : List ByteArray} {j : JV} (h : p.over v way = .inr j) : j.sort = p.sort := by
 by_cases hs : p.sort = 6
 ·obtain ⟨kw, lw, rfl⟩ := JOk.obj_of hs
  obtain ⟨_, rfl⟩ := over_form h
  rfl
 ·rw [over_whole p v way hs] at h
  injection h with h
  rw [h]
theorem over_leads : ∀ (p : JV), JOk p → ∀ v, OOk v → ∀ way j, p.over v way = .inr j → j.lay v = p := by
 refine JV.by_parts fun p ih hp v hv way j hj => ?_
 by_cases hs : p.sort = 6
 ·obtain ⟨kw, lw, rfl⟩ := JOk.obj_of hs
  have hjo := over_ok _ hp v hv way j hj
  obtain ⟨hall, he⟩ := over_form hj
  have hu := lay_union hp hv
  obtain ⟨M, hM⟩ : ∃ M, M = keyed (goodF (overF kw lw v way)) (unionK ((mem2 v).1 ++ kw)) := ⟨_, rfl⟩
  have hat : ∀ key, key ∈ unionK ((mem2 v).1 ++ kw) → atK (M.map (·.1)) (M.map (·.2)) key = goodF (overF kw lw v way) key := fun key hk => by
   refine Option.ext fun x => ?_
   rw [hM, atK_zip (List.pairwise_map.2 (keyed_rising hu.1)), zip_parts, keyed_mem]
   exact ⟨fun h => h.2, fun h => ⟨hk, h⟩⟩
  have hat2 : ∀ key, key ∉ unionK ((mem2 v).1 ++ kw) → atK (M.map (·.1)) (M.map (·.2)) key = none := fun key hk => by
   refine Option.ext fun x => ?_
   rw [hM, atK_zip (List.pairwise_map.2 (keyed_rising hu.1)), zip_parts, keyed_mem]
   exact ⟨fun h => absurd h.1 hk, fun h => by cases h⟩
  rw [← hM] at he
  subst he
  have hlo := lay_ok _ hjo v hv
  rw [lay_obj] at hlo ⊢
  refine obj_ext hlo.form.2.2.1 hp.form.2.2.1 (hlo.form.2.1 rfl) (hp.form.2.1 rfl) fun key => ?_
  rw [lay_at hjo hv]
  by_cases hk : key ∈ unionK ((mem2 v).1 ++ kw)
  ·cases hg : goodF (overF kw lw v way) key with
   | none =>
    rw [layF_none (by rw [hat key hk, hg])]
    obtain ⟨o, ho⟩ := hall key hk
    cases hy : atK kw lw key with
    | none => unfold goodF at hg; rw [overF_none hy] at hg; cases hg
    | some y =>
     by_cases hx : atK (mem2 v).1 (mem2 v).2 key = some y
     ·exact hx
     ·by_cases h1 : y.sort = 1
      ·rw [overF_null hy hx h1] at ho; cases ho
      ·unfold goodF at hg
       rw [ho] at hg
       rw [overF_deep hy hx h1] at ho
       cases hd : y.over (atK (mem2 v).1 (mem2 v).2 key) (way ++ [key]) with
       | inl b => rw [hd] at ho; cases ho
       | inr z =>
        rw [hd] at ho
        injection ho with ho
        rw [← ho] at hg
        cases hg
   | some z =>
    rw [layF_some (by rw [hat key hk, hg])]
    rcases over_mem hg with ⟨hy, hz⟩ | ⟨y, hy, hx, h1, hz⟩
    ·rw [hy, hz, if_pos (show JV.null.sort = 1 from rfl)]
    ·have hm := (atK_some_mem hp.form.2.2.1 hy).2
     have h2 : z.sort ≠ 1 := by rw [over_sort hz]; exact h1
     rw [if_neg h2, ih y hm (hp.form.2.2.2.2.2 y hm) _ (at_ok (mem2_ok hv).2.1 (mem2_ok hv).2.2.2) _ _ hz, hy]
  ·have hnk : key ∉ (mem2 v).1 ++ kw := fun h => hk ((hu.2 key).2 h)
   rw [layF_none (hat2 key hk)]
   have e1 : atK (mem2 v).1 (mem2 v).2 key = none := by
    cases h : atK (mem2 v).1 (mem2 v).2 key with
    | none => rfl
    | some x => exact absurd (List.mem_append_left _ (atK_some_mem (mem2_ok hv).2.1 h).1) hnk
   have e2 : atK kw lw key = none := by
    cases h : atK kw lw key with
    | none => rfl
    | some x => exact absurd (List.mem_append_right _ (atK_some_mem hp.form.2.2.1 h).1) hnk
   rw [e1, e2]
 ·rw [over_whole p v way hs] at hj
  injection hj with hj
  subst hj
  exact lay_whole p v hs
theorem over_way : ∀ (p : JV), JOk p → ∀ v, OOk v → ∀ way b, p.over v way = .inl b → ∃ ks : List ByteArray, b = way ++ ks ∧ ks.length + 1 ≤ p.deep ∧ ∀ s ∈ ks, rightS s = true ∧ s.size ≤ p.bytes := by
 refine JV.by_parts fun p ih hp v hv way b hb => ?_
 by_cases hs : p.sort = 6
 ·obtain ⟨kw, lw, rfl⟩ := JOk.obj_of hs
  rw [over_obj] at hb
  rcases overAll_cases (overF kw lw v way) (unionK ((mem2 v).1 ++ kw)) with hc | ⟨i, key, b', h1, h2, h3⟩
  ·rw [overAll_inr hc] at hb; cases hb
  ·rw [overAll_inl h1 h2 h3] at hb
   injection hb with hb
   subst hb
   have hd : ∀ y, y ∈ lw → y.deep + 1 ≤ (JV.obj kw lw).deep ∧ y.bytes ≤ (JV.obj kw lw).bytes := fun y hm => by
    have h4 := maxN_mem (List.mem_map.2 ⟨y, hm, rfl⟩ : y.deep ∈ lw.map fun x => x.deep)
    have h5 := sumN_mem (List.mem_map.2 ⟨y, hm, rfl⟩ : y.bytes ∈ lw.map fun x => x.bytes)
    simp only [JV.deep, JV.bytes]
    omega
   cases hy : atK kw lw key with
   | none => rw [overF_none hy] at h3; cases h3
   | some y =>
    have hmk := atK_some_mem hp.form.2.2.1 hy
    have hkr : rightS key = true ∧ key.size ≤ (JV.obj kw lw).bytes := ⟨hp.form.2.2.2.1 key hmk.1, by
     have h4 := sumN_mem (List.mem_map.2 ⟨key, hmk.1, rfl⟩ : key.size ∈ kw.map fun k => k.size)
     simp only [JV.bytes]
     omega⟩
    by_cases hx : atK (mem2 v).1 (mem2 v).2 key = some y
    ·rw [overF_same hy hx] at h3; cases h3
    ·by_cases hn : y.sort = 1
     ·rw [overF_null hy hx hn] at h3
      injection h3 with h3
      refine ⟨[key], h3.symm, ?_, fun s hs => by rw [List.mem_singleton.1 hs]; exact hkr⟩
      have := (hd y hmk.2).1
      have h6 := JV.deep_eq y
      show 1 + 1 ≤ _
      omega
     ·rw [overF_deep hy hx hn] at h3
      cases ho : y.over (atK (mem2 v).1 (mem2 v).2 key) (way ++ [key]) with
      | inr z => rw [ho] at h3; cases h3
      | inl b2 =>
       rw [ho] at h3
       injection h3 with h3
       subst h3
       obtain ⟨ks, rfl, h7, h8⟩ := ih y hmk.2 (hp.form.2.2.2.2.2 y hmk.2) _ (at_ok (mem2_ok hv).2.1 (mem2_ok hv).2.2.2) _ _ ho
       refine ⟨key :: ks, by simp, ?_, fun s hs => ?_⟩
       ·have := (hd y hmk.2).1
        rw [List.length_cons]; omega
       ·rcases List.mem_cons.1 hs with rfl | hs
        ·exact hkr
        ·exact ⟨(h8 s hs).1, Nat.le_trans (h8 s hs).2 (hd y hmk.2).2⟩
 ·rw [over_whole p v way hs] at hb
  cases hb
end Go.Json
