/- Texts. -/
import Derived.Test.YtdmcioghdindfaaGreatDoorL20
import Derived.RangeFuncCalls
import Derived.OwnWalkIn
import Derived.OrdersIn
import Derived.RangeFuncNested
import Derived.RangeFuncBound
import Derived.RangeFuncLeaves
import Derived.RangeFuncWrites
import Derived.Shelf.RegionOpen
import Derived.TacticsInMore
import Derived.LoopNIn
import Derived.LoopIn
import Derived.Laws.EntriesVeiled
set_option linter.unusedSimpArgs false
set_option maxRecDepth 100000
set_option maxHeartbeats 4000000
namespace Go.Json
theorem item_within {j x : JV} (h : x ∈ j.items) (hw : j.within) : x.within := by
 have h1 := sumN_mem (List.mem_map.2 ⟨x, h, rfl⟩ : x.nodes ∈ j.items.map fun x => x.nodes)
 have h2 := sumN_mem (List.mem_map.2 ⟨x, h, rfl⟩ : x.bytes ∈ j.items.map fun x => x.bytes)
 have h3 := maxN_mem (List.mem_map.2 ⟨x, h, rfl⟩ : x.deep ∈ j.items.map fun x => x.deep)
 unfold JV.within at hw ⊢
 rw [JV.nodes_eq j, JV.bytes_eq j, JV.deep_eq j] at hw
 omega
theorem mkObj_self {ks : List ByteArray} {l : List JV} (h : JOk (.obj ks l)) : mkObj ks l = .obj ks l := by
 have hf := h.form
 have hl : ks.length = l.length := hf.2.1 rfl
 have hz1 : (ks.zip l).map (·.1) = ks := by rw [List.map_fst_zip (by omega)]
 have hz2 : (ks.zip l).map (·.2) = l := by rw [List.map_snd_zip (by omega)]
 have hp : ((ks.zip l).map (·.1)).Pairwise ltS := by rw [hz1]; exact hf.2.2.1
 unfold mkObj
 rw [sortM_of_rising (List.pairwise_map.1 hp), hz1, hz2]
def objS (ks : List ByteArray) : StepV := ⟨6, false, 0, .empty, 0, ks⟩
theorem objS_used (ks : List ByteArray) : usedF (objS ks) = true := by simp [usedF, objS]
theorem rising_nodup {ks : List ByteArray} (h : ks.Pairwise ltS) : ks.Nodup := h.imp fun {a b} h1 (e : a = b) => by rw [e] at h1; exact ltS_irrefl b h1
theorem right_none : rightS ByteArray.empty = true := by decide
theorem doF_members {P l : List JV} {ks : List ByteArray} (hj : JOk (.obj ks l)) : doF (P ++ l) (objS ks) = if (JV.obj ks l).within then .inr (P ++ [.obj ks l]) else .inl 3 := by
 have hf := hj.form
 have hl : ks.length = l.length := hf.2.1 rfl
 have hr : ks.all rightS = true := List.all_eq_true.2 hf.2.2.2.1
 have hd : (P ++ l).drop ((P ++ l).length - ks.length) = l := by
  rw [List.length_append, hl, Nat.add_sub_cancel, List.drop_left]
 have ht : (P ++ l).take ((P ++ l).length - ks.length) = P := by
  rw [List.length_append, hl, Nat.add_sub_cancel, List.take_left]
 have hm : mkV (objS ks) l = .obj ks l := by
  rw [show mkV (objS ks) l = mkObj ks l from rfl, mkObj_self hj]
 unfold doF
 rw [if_neg (by rw [objS_used]; simp), if_neg (by show ¬ ((6 : Int) = 3 ∧ _); simp), if_neg (by show ¬ (rightS ByteArray.empty = false ∨ ks.all rightS = false); rw [hr, right_none]; simp), if_neg (by show ¬ ¬ ks.Nodup; exact fun h => h (rising_nodup hf.2.2.1)),
  if_neg (by show ¬ (P ++ l).length < 0 + ks.length; rw [List.length_append]; omega)]
 have hz : (objS ks).count.toNat + (objS ks).keys.length = ks.length := by show 0 + ks.length = _; omega
 rw [hz, hd, ht, hm]
 by_cases hw : (JV.obj ks l).within
 ·rw [if_pos hw, if_neg (by exact fun h => h hw)]
 rw [if_neg hw, if_pos hw]
end Go.Json
namespace Go.Proofs.YtdmcioghdindfaaGreatDoor
open Go Go.RowKit Go.Aff Go.Json
attribute [local go_sem] Oper.semAt_some
theorem infoItem : (Tryz.prog.info? 79).map (fun i => (i.zero, i.size, i.bytes)) = some (some .nilIface, 1, 16) := by kernel_rfl
theorem row_push {T : TypeId} {D : Nat → Prop} {w : World} {p : Nat} {A : Option Addr} {c : Nat} {vs : List Value} {P : List JV} (h : RowAt T D w p A c vs P) {v : Value} {j : JV} (hj : JAt (Bq D p (.slice A P.length c)) w v j) {n : Nat} (hnn : n = P.length)
  {W : World} {A' : Option Addr} {c' : Nat} {W' : World} (hW : Keeps (fun _ => False) w W) (ho : W'.ownsRow 0 79 1 (.slice A' (n + 1) c') (n + 1) (vs ++ [v])) (hg : W.grownBy W' (Value.slice A n c).ownBlock)
  (hb : (Value.slice A' (n + 1) c').ownBlock = (Value.slice A n c).ownBlock ∨ (Value.slice A' (n + 1) c').ownBlock = some W.heap.size) :
   Blk W' p T [.slice A n c] ∧ RowPost T D w p (.slice A n c) (P ++ [j]) (W'.setCell ⟨p, 0, none⟩ (.slice A' (n + 1) c')) := by
 have hk : Keeps (fun i => (Value.slice A P.length c).ownBlock = some i) w W' := (hW.mono (fun _ _ h => h.elim)).grown hg (fun g e => .inl (by rw [← hnn]; exact e))
 have hbl := hk.blk h.blk h.ne_own
 rw [← hnn] at hbl
 refine ⟨hbl, ?_⟩
 have hle : (P ++ [j]).length = n + 1 := by rw [List.length_append, hnn]; rfl
 have hs := h.stored (P' := P ++ [j]) (A' := A') (c' := c') (vs' := vs ++ [v]) hk (by rw [hle]; exact ho) (by
  rw [hle, ← hnn]
  rcases hb with e | e
  ·exact .inl e
  ·exact .inr ⟨_, e, hW.size⟩) (fun i u x hv hj' => by
  rw [List.getElem?_append] at hv hj'
  by_cases hi : i < P.length
  ·rw [if_pos (by rw [h.len]; exact hi)] at hv
   rw [if_pos hi] at hj'
   exact h.at_ i u x hv hj'
  rw [if_neg (by rw [h.len]; exact hi)] at hv
  rw [if_neg hi] at hj'
  have hz : i - P.length = 0 := by
   rcases Nat.eq_zero_or_pos (i - P.length) with e | e
   ·exact e
   rw [List.getElem?_eq_none (by simp; omega)] at hj'; cases hj'
  rw [h.len, hz] at hv
  rw [hz] at hj'
  injection hv with hv
  injection hj' with hj'
  subst hv hj'
  exact hj)
 rw [hle] at hs
 refine ⟨⟨A', c', _, hs.1⟩, ?_⟩
 have h2 := hs.2
 rw [← hnn] at h2
 exact h2
theorem new_any (w : World) : Calls Tryz.prog 64 #[] w fun e w' => e = .returned (.pointer (some ⟨w.heap.size, 0, none⟩)) ∧ w' = w.alloc (.cells #[.slice none 0 0] 204) := by
 go_enter Tryz.func64, Tryz.ntmps64
 go_wp2
 go_ret
 exact ⟨rfl, rfl⟩
theorem RowAt.start {D : Nat → Prop} (w : World) (hD : ∀ i, w.heap.size ≤ i → D i) : RowAt 204 D (w.alloc (.cells #[.slice none 0 0] 204)) w.heap.size none 0 [] [] :=
 ⟨Blk.new _ _ _, World.ownsRow_nil _ _ _ _, fun i v j h => by simp at h, by decide, fun i hi => hD i (by rw [World.size_alloc] at hi; omega), fun g h => by cases h⟩
def CopyPost (D : Nat → Prop) (w : World) (p : Nat) (v : Value) (P : List JV) (j : JV) (e : Ending) (w' : World) : Prop := if P.length < 65536 then e = .returned .nilIface ∧ RowPost 204 D w p v (P ++ [j]) w' else e = .returned (errE 3) ∧ Keeps (fun _ => False) w w'
theorem copy_any (D : Nat → Prop) (w : World) (p : Nat) (A : Option Addr) (c : Nat) (vs : List Value) (P : List JV) (h : RowAt 204 D w p A c vs P) (hn : P.length ≤ 1048576) (v : Value) (j : JV) (hj : JAt (Bq D p (.slice A P.length c)) w v j) :
  Calls Tryz.prog 198 #[.pointer (some ⟨p, 0, none⟩), .agg #[v]] w (CopyPost D w p (.slice A P.length c) P j) := by
 obtain ⟨T, y, hv⟩ := hj.iface
 subst hv
 obtain ⟨n, hnn⟩ : ∃ n, n = P.length := ⟨_, rfl⟩
 unfold CopyPost
 rw [← hnn] at hn ⊢
 have hlt0 := h.blk.lt
 have h1 : ∀ V, Keeps (fun _ => False) w V → V.cell? ⟨p, 0, none⟩ = some (.slice A n c) := fun V hV => by
  have := (hV.blk h.blk (fun h => h)).cell 0
  rw [← hnn] at this
  exact this
 have c0 := h1 _ ((Keeps.refl _ w).alloc (.cells #[.iface T y] 81))
 have cb := (Blk.new w 81 [.iface T y]).cell 0
 by_cases hlt : n < 65536
 ·simp only [if_pos hlt]
  have hge : decide ((65536 : Int) ≤ (n : Int)) = false := decide_eq_false (by omega)
  have HLT := H_ (And.intro hlt hn)
  have HH := H_ (And.intro h hj)
  have HN := H_ hnn
  have HOW : Hid (∀ V, Keeps (fun _ => False) w V → V.ownsRow 0 79 1 (.slice A n c) n vs) := H_ fun V hV => by
   have := (h.stay hV).own
   rwa [← hnn] at this
  have HC1 := H_ h1
  clear h hj hnn h1 hlt hn
  go_enter Tryz.func198, Tryz.ntmps198
  go_upto_region 7 with fail
  obtain ⟨b, hb⟩ : ∃ b, b = w.heap.size := ⟨_, rfl⟩
  have HB0 : Hid (Keeps (fun _ => False) w (w.alloc (.cells #[.iface T y] 81)) ∧ Blk (w.alloc (.cells #[.iface T y] 81)) w.heap.size 81 [.iface T y]) := H_ ⟨(Keeps.refl _ _).alloc _, Blk.new _ _ _⟩
  rw [← hb] at HB0 ⊢
  refine gen_codeF (fun W => Keeps (fun _ => False) w W ∧ Blk W b 81 [.iface T y]) HB0.out ?_
  rintro w1 ⟨k1, b1⟩
  have HSR : Hid (∀ V, Keeps (fun i => (Value.slice A n c).ownBlock = some i) w1 V → V.cell? ⟨p, 0, none⟩ = some (.slice A n c) ∧ V.cell? ⟨b, 0, none⟩ = some (.iface T y)) := H_ fun V hV => by
   have h3 := hV.blk (k1.blk HH.out.1.blk (fun h => h)) (by rw [HN.out]; exact HH.out.1.ne_own)
   have h4 := hV.blk b1 (fun e => by
    have := (HH.out.1.own.lt b (by rw [← HN.out]; exact e)).2
    omega)
   rw [← HN.out] at h3
   exact ⟨h3.cell 0, h4.cell 0⟩
  have HK1 := H_ k1
  clear k1 b1 HB0 hb c0 cb
  refine wp_region_tail (S := (fun V => Keeps (fun i => (Value.slice A n c).ownBlock = some i) w1 V)) 10 (by kernel_rfl) (Keeps.refl _ _).drew (fun h_ => ?_)
  refine tJ 0 23 ?_
  try simp only [pu]
  refine tJ 1 24 ?_
  try simp only [pu]
  refine tJ 2 25 ?_
  try simp only [pu]
  refine tJ 3 26 ?_
  try simp only [pu]
  refine tJ 4 27 ?_
  try simp only [pu]
  refine tT [5] (i := 5) (oi := ⟨some 28, _, _, _, _, _⟩) (v := ?_) rfl (Or.inl ⟨by rfl, ?_⟩) h_ ?_
  rotate_left
  ·intro w' hSw
   have cv := (HSR.out _ hSw).1
   go_simp
   first | done | rfl
  try simp only [pu]
  refine tJ 6 29 ?_
  try simp only [pu]
  refine tT [7] (i := 7) (oi := ⟨some 30, _, _, _, _, _⟩) (v := ?_) rfl (Or.inl ⟨by rfl, ?_⟩) h_ ?_
  rotate_left
  ·intro w' hSw
   have cv := (HSR.out _ hSw).2
   go_simp
   first | done | rfl
  try simp only [pu]
  refine wpAnyT_step (i := 8) (o := ⟨some 31, _, _, _, _, _⟩) (by kernel_rfl) rfl (fun K hK => ?_)
  go_simp
  refine hK.out _ _ (h_.alloc _) (fun h_ => ?_)
  clear hK K
  try simp only [pu]
  refine wpAnyT_step (i := 9) (o := ⟨some 32, _, _, _, _, _⟩) (by kernel_rfl) rfl (fun K hK => ?_)
  refine step_append_own rfl (.tmp 28) (.tmp 31) 106 rfl 79 .nilIface 1 16 Tryz.underlying106 infoItem rfl (by decide) A n c _ rfl (HOW.out _ ((HK1.out.drew).alloc _)) ⟨w1.drew.heap.size, 0, none⟩ 1 1 [.iface T y] rfl rfl (cell_one_new _ _ _) (by intro u hu; rw [List.mem_singleton.1 hu]; rfl) (by have := HLT.out; simp only [maxLen]; omega) (by have := HLT.out; omega) ?_
  intro A5 c5 w5 ho5 hg5 hb5
  have HP5 := H_ (row_push HH.out.1 HH.out.2 HN.out ((HK1.out.drew).alloc _) ho5 hg5 hb5)
  have hS5 := h_.grown hg5 (fun g e => .inl e)
  refine hK.out _ _ hS5 (fun h_ => ?_)
  clear hK K
  try simp only [pu]
  refine wpAnyT_tail (i := 10) (o := ⟨some 33, _, _, _, _, _⟩) (by kernel_rfl) (by kernel_rfl) rfl (fun K hK => ?_)
  go_simp
  refine hK.out _ _ ?_
  clear hK K
  try simp only [pu]
  refine wpAnyT_tail (i := 11) (o := ⟨some 34, _, _, _, _, _⟩) (by kernel_rfl) (by kernel_rfl) rfl (fun K hK => ?_)
  go_simp
  refine hK.out _ _ ?_
  clear hK K
  try simp only [pu]
  refine wpAnyT_tail (i := 12) (o := ⟨some 35, _, _, _, _, _⟩) (by kernel_rfl) (by kernel_rfl) rfl (fun K hK => ?_)
  go_simp
  refine hK.out _ _ ?_
  clear hK K
  try simp only [pu]
  refine wpAnyT_tail (i := 13) (o := ⟨none, _, _, _, _, _⟩) (by kernel_rfl) (by kernel_rfl) rfl (fun K hK => ?_)
  have cv := HP5.out.1.cell 0
  have fz := HP5.out.1.frozen 0
  go_simp
  refine hK.out _ _ ?_
  clear hK K
  try simp only [pu]
  refine wpAnyT_done (by kernel_rfl) ?_
  go_wp2
  go_ret
  exact ⟨rfl, HP5.out.2⟩
 simp only [if_neg hlt]
 have hge : decide ((65536 : Int) ≤ (n : Int)) = true := decide_eq_true (by omega)
 clear h hj hnn h1 hlt hn hlt0
 go_enter Tryz.func198, Tryz.ntmps198
 go_wp2
 go_ret
 exact ⟨rfl, (Keeps.refl _ w).alloc _⟩
theorem DoPost.from_ {T : TypeId} {D : Nat → Prop} {w W w' : World} {p : Nat} {v : Value} {P : List JV} {s : StepV} {e : Ending} (h : DoPost T D W p v P s e w') (k : Keeps (fun _ => False) w W) : DoPost T D w p v P s e w' := by
 revert h
 unfold DoPost
 cases doF P s with
 | inl q => exact fun h => ⟨h.1, k.trans h.2 fun _ _ h => h⟩
 | inr q => exact fun h => ⟨h.1, h.2.1, (k.mono fun _ _ h => h.elim).trans h.2.2 fun _ _ h => h⟩
theorem blk_rng {w : World} {p : Nat} {T : TypeId} {cs : List Value} (h : Blk w p T cs) : w.rangeAt p 0 cs := fun j v hv => by
 rw [Nat.zero_add, h.cell j]; exact hv
theorem DoPost.ret {T : TypeId} {D : Nat → Prop} {w w' : World} {p : Nat} {v : Value} {P : List JV} {s : StepV} {e : Ending} (h : DoPost T D w p v P s e w') : ∃ x, e = .returned x ∧ DoPost T D w p v P s (.returned x) w' := by
 have h2 := h
 unfold DoPost at h2
 revert h2
 cases doF P s with
 | inl q => exact fun h3 => ⟨_, h3.1, h3.1 ▸ h⟩
 | inr q => exact fun h3 => ⟨_, h3.1, h3.1 ▸ h⟩
theorem step_object (D : Nat → Prop) (w : World) (p : Nat) (A : Option Addr) (c : Nat) (vs : List Value) (P : List JV) (h : RowAt 204 D w p A c vs P) (hn : P.length ≤ 1048576) (hP : ∀ j ∈ P, j.within) (ks : List ByteArray) (hk1 : byF ks ≤ 1099511627776) (hk2 : ks.length ≤ 1099511627776)
  (B : Option Addr) (d : Nat) (hk : Rd w B ks.length (ks.map .string)) :
  Calls Tryz.prog 138 #[.pointer (some ⟨p, 0, none⟩), .agg #[.int .i64 6, .bool false, .int .u64 0, .string .empty, .int .i64 0, .slice B ks.length d]] w (DoPost 204 D w p (.slice A P.length c) P (objS ks)) := by
 obtain ⟨m, hm⟩ : ∃ m, m = ks.length := ⟨_, rfl⟩
 have HDO : Hid (∀ W, Keeps (fun _ => False) w W → Calls Tryz.prog 48 #[.pointer (some ⟨p, 0, none⟩), .agg #[.int .i64 6, .bool false, .int .u64 0, .string .empty, .int .i64 0, .slice B m d]] W fun e w' => ∃ x, e = .returned x ∧ DoPost 204 D w p (.slice A P.length c) P (objS ks) (.returned x) w') := H_ fun W hW => by
  rw [hm]
  exact (do_any (objS ks) ⟨by show ByteArray.empty.size ≤ _; decide, hk1, hk2, by show 0 < 18446744073709551616; decide⟩ _ D W p A c vs P (h.stay hW) hn hP B d (hk.keep hW (fun _ _ _ h => h))).mono fun e w' h => (h.from_ hW).ret
 rw [← hm]
 obtain ⟨Q, hQ⟩ : ∃ Q, Q = DoPost 204 D w p (.slice A P.length c) P (objS ks) := ⟨_, rfl⟩
 rw [← hQ] at HDO ⊢
 clear h hn hP hk1 hk2 hk hm hQ
 have HB0 : Hid (Keeps (fun _ => False) w (w.alloc (.cells #[.int .i64 6, .bool false, .int .u64 0, .string .empty, .int .i64 0, .slice B m d] 53)) ∧ Blk (w.alloc (.cells #[.int .i64 6, .bool false, .int .u64 0, .string .empty, .int .i64 0, .slice B m d] 53)) w.heap.size 53 [.int .i64 6, .bool false, .int .u64 0, .string .empty, .int .i64 0, .slice B m d]) := H_ ⟨(Keeps.refl _ _).alloc _, Blk.new _ _ _⟩
 have c0 := HB0.out.2.cell 0
 go_enter Tryz.func138, Tryz.ntmps138
 go_upto_region 5 with fail
 obtain ⟨b, hb⟩ : ∃ b, b = w.heap.size := ⟨_, rfl⟩
 rw [← hb] at HB0 ⊢
 refine gen_codeF (fun W => Keeps (fun _ => False) w W ∧ Blk W b 53 [.int .i64 6, .bool false, .int .u64 0, .string .empty, .int .i64 0, .slice B m d]) HB0.out ?_
 rintro w1 ⟨k1, b1⟩
 have HK1 := H_ (And.intro k1 b1)
 clear k1 b1 HB0 hb c0
 refine wp_region_tail (S := Keeps (fun _ => False) w1) 4 (by kernel_rfl) (Keeps.refl _ _).drew (fun h_ => ?_)
 refine tJ 0 21 ?_
 try simp only [pu]
 refine tJ 1 22 ?_
 try simp only [pu]
 refine tJ 2 23 ?_
 try simp only [pu]
 refine tT [3] (i := 3) (oi := ⟨some 24, _, _, _, _, _⟩) (v := _) rfl (yieldsIf_load_mid (by rfl) _ _ rfl _ _ rfl [.int .i64 6, .bool false, .int .u64 0, .string .empty, .int .i64 0, .slice B m d] _ (fun w' h => blk_rng (h.blk HK1.out.2 (fun h => h))) Tryz.underlying53 rfl (by kernel_rfl)) h_ ?_
 try simp only [pu]
 refine wpAnyT_tail (i := 4) (o := ⟨some 25, _, _, _, _, _⟩) (by kernel_rfl) (by kernel_rfl) rfl (fun K hK => ?_)
 go_simp
 refine (HDO.out _ (HK1.out.1.trans h_ fun _ _ h => h)).mono ?_
 rintro e w2 ⟨x, rfl, hq⟩
 refine hK.out _ _ ?_
 clear hK K
 try simp only [pu]
 refine wpAnyT_tail (i := 5) (o := ⟨some 4, _, _, _, _, _⟩) (by kernel_rfl) (by kernel_rfl) rfl (fun K hK => ?_)
 go_simp
 refine hK.out _ _ ?_
 clear hK K
 try simp only [pu]
 refine wpAnyT_done (by kernel_rfl) ?_
 go_wp2
 exact hq
theorem object_put (D : Nat → Prop) (w : World) (p : Nat) (A : Option Addr) (c : Nat) (vs : List Value) (P : List JV) (h : RowAt 204 D w p A c vs P) (hn : P.length ≤ 1048576) (hP : ∀ j ∈ P, j.within) (ks : List ByteArray) (hk1 : byF ks ≤ 1099511627776) (hk2 : ks.length ≤ 1099511627776)
  (B : Option Addr) (d : Nat) (hk : Rd w B ks.length (ks.map .string)) :
  Calls Tryz.prog 189 #[.pointer (some ⟨p, 0, none⟩), .slice B ks.length d] w (DoPost 204 D w p (.slice A P.length c) P (objS ks)) := by
 have HST := H_ ((step_object D w p A c vs P h hn hP ks hk1 hk2 B d hk).mono fun e w' h => h.ret)
 obtain ⟨m, hm⟩ : ∃ m, m = ks.length := ⟨_, rfl⟩
 rw [← hm] at HST ⊢
 clear h hn hP hk1 hk2 hk hm
 go_enter Tryz.func189, Tryz.ntmps189
 go_wp2_with (go_at_call 138; refine HST.out.mono ?_; rintro e w2 ⟨x, rfl, hq⟩)
 go_ret
 exact hq
theorem tree_one (D : Nat → Prop) (w : World) (p : Nat) (A : Option Addr) (c : Nat) (vs : List Value) (j : JV) (h : RowAt 204 D w p A c vs [j]) :
  Calls Tryz.prog 65 #[.pointer (some ⟨p, 0, none⟩)] w fun e w' => ∃ q v, e = .returned (.tuple #[.pointer (some ⟨q, 0, none⟩), .nilIface]) ∧ TreeAt D w' q v j ∧ Keeps (fun _ => False) w w' := by
 obtain ⟨v, hv⟩ : ∃ v, vs = [v] := by
  have := h.len
  match vs, this with
  | [v], _ => exact ⟨v, rfl⟩
 subst hv
 have hj := h.at_ 0 v j rfl rfl
 obtain ⟨T, y, hv⟩ := hj.iface
 subst hv
 have hr : Rd w A 1 [.iface T y] := Rd.of_own h.own
 obtain ⟨g, o, rfl, hc⟩ := hr.2 (by decide)
 have hp := h.blk.cell 0
 have hcg : w.cell? ⟨g, o, none⟩ = some (.iface T y) := hc 0 (by decide)
 have HH := H_ (And.intro h hj)
 have HB := H_ (Blk.new w 110 [.iface T y])
 clear h hj hr hc
 go_enter Tryz.func65, Tryz.ntmps65
 go_wp2
 go_ret2
 exact ⟨_, _, rfl, ⟨HH.out.1.new _ (Nat.le_refl _), HB.out, ((HH.out.2.mono (C := D) fun i h _ => h.1).stay ((Keeps.refl (fun _ => False) w).alloc _))⟩, (Keeps.refl (fun _ => False) w).alloc _⟩
end Go.Proofs.YtdmcioghdindfaaGreatDoor
namespace Go
section
variable {P : Program} {ops : Array Oper} {Q : Exit → Act → World → Prop} {r n : Nat}
def noDefer (ops : Array Oper) : Bool := ops.all fun o => match o.op with
 | .defer _ => false
 | _ => true
theorem uponIn_of_upon {o : Oper} {a : Act} {next next' : Act → World → Prop} {res : Result Next} (hn : ∀ a w, next a w → next' a w) (h : Oper.upon P o a next Q res) : Oper.uponIn (Fence.wide.inRound r) n P o a next' Q res := by
 cases res with
 | ok x w' =>
  cases x with
  | value v => exact hn _ _ h
  | skip => exact hn _ _ h
  | defer d => exact hn _ _ h
  | enter f args =>
   refine ⟨fun h => (by cases h), ?_⟩
   have h1 : CallsIn Fence.wide (n - 1) P f args w' _ := callsIn_wide.2 h
   refine CallsIn.mono h1 fun e w'' he => ?_
   cases e with
   | returned v => exact hn _ _ he
   | panicked c => exact he
   | outgrown => exact he
  | row row args =>
   refine ⟨fun h => (by cases h), fun c cs _ => ?_⟩
   obtain ⟨v, w'', h1, h2⟩ := h c cs
   exact ⟨v, w'', hn _ _ h1, (stepsIn_wide (P := P)).2 h2⟩
  | _ => exact h.elim
 | halt x w' =>
  cases x with
  | panic v => exact h
  | _ => exact h.elim
theorem wpOpsIn_of_wpOps (hQ : ¬ LetsOut Q) (hd : noDefer ops = true) (l : List Nat) : ∀ (a : Act) (w : World), wpOps P ops Q l a w → wpOpsIn (Fence.wide.inRound r) n P ops Q l a w := by
 induction l with
 | nil => exact fun a w h => h
 | cons i l ih =>
  intro a w h
  simp only [wpOps] at h
  simp only [wpOpsIn]
  cases ho : ops[i]? with
  | none => simp only [ho] at h ⊢; exact ih _ _ h
  | some o =>
   simp only [ho] at h ⊢
   split
   ·rename_i hw
    rw [if_pos hw] at h
    rcases h with h | ⟨_, h⟩
    ·refine ⟨fun _ _ => trivial, ?_⟩
     have hnd : ∀ c, o.op ≠ .defer c := fun c hc => by
      have h1 := Array.all_eq_true'.1 hd o (Array.mem_of_getElem? ho)
      rw [hc] at h1
      cases h1
     rw [show (Fence.wide.inRound r).round = some r from rfl, Oper.semAt_some r _ _ hnd]
     exact uponIn_of_upon ih h
    exact (hQ h).elim
   rename_i hw
   rw [if_neg hw] at h
   exact ⟨fun _ _ => trivial, ih _ _ h⟩
theorem wpIn_round_any {id : Nat} {a : Act} {w : World} (hQ : ¬ LetsOut Q) (hd : noDefer ops = true) (hm : P.follows .mixedOrders = true)
  (h : wpAny P .any ops Q ops.size (Array.replicate ops.size false) a w.drew) : (Code.region id ops true).wpIn (Fence.wide.inRound r) n P Q a w :=
 wpIn_region_draw fun t => by
  simp only [Region.schedule, hm, Bool.true_or, if_true]
  exact wpOpsIn_of_wpOps hQ hd _ _ _ (wpAny_sound ops.size t _ a _ h)
end
end Go
namespace Go.Rng
open Go Go.RowKit Go.Aff
def SeqNext {α : Type} (ok : List α → α → Prop) (F : Fence) (n : Nat) (P : Program) (g : Nat) (lb : Array Value) (encs : α → Array Value) (Kp : World → World → Prop) (S Sp : List α → Prop) (w : World) : Prop :=
 ∀ (l : Nat) (J Jx : List α → World → Prop) (W : World), Below w.heap.size w W → AbidesFrom W.heap.size J → AbidesFrom W.heap.size Jx →
  (∀ pre x W1, J pre W1 → ok pre x → YieldAt F (n - 1) P l (encs x) W1 fun e W' =>
   (e = .returned (.bool true) ∧ J (pre ++ [x]) W' ∧ Kp W1 W') ∨ (e = .returned (.bool false) ∧ Jx (pre ++ [x]) W')) →
  J [] W →
  CallsIn F n P g (#[.func (.yield l) #[] #[]] ++ lb) W fun e W' => (∃ v, e = .returned v) ∧ ((∃ xs, S xs ∧ J xs W') ∨ (∃ pre, Sp pre ∧ Jx pre W'))
theorem SeqNext.stops {α : Type} {ok : List α → α → Prop} {F : Fence} {n : Nat} {P : Program} {g : Nat} {lb : Array Value} {encs : α → Array Value} {Kp : World → World → Prop} {S Sp : List α → Prop} {w : World} {N : Nat}
  (h : SeqNext ok F n P g lb encs Kp S Sp w) (hok : ∀ pre x, ok pre x → pre.length < N) : SeqStopsK F n P g lb encs Kp S Sp N w :=
 fun l J Jx W hW hJ hJx hY h0 => h l J Jx W hW hJ hJx (fun pre x W1 hj hx => hY pre x W1 hj (hok pre x hx)) h0
theorem grown_keep {W W' : World} (h : Keeps (fun _ => False) W W') : W.grownBy W' none := ⟨h.os, h.tape, h.output, h.size, fun k hk _ => h.block k hk (fun h => h)⟩
structure Stands (W : World) (L : Nat) (r : Loop) (st : LoopState) (pe : Option Code) : Prop where
 rec_ : W.heap[L + 1]? = some (.loop { r with state := st, pending := pe })
 defs : W.heap[L]? = some (.deferred (some []))
section
variable {W W' : World} {L B : Nat} {r : Loop} {st st' : LoopState} {pe pe' : Option Code}
theorem Stands.from (h : Stands W L r st pe) (k : KeepsFrom B W W') (hB : B ≤ L) : Stands W' L r st pe := ⟨k.same _ _ (by omega) h.rec_ rfl, k.same _ _ hB h.defs rfl⟩
theorem Stands.grown {row : Option Nat} (h : Stands W L r st pe) (hg : W.grownBy W' row) (hr : ∀ k, row = some k → ∃ o : Obj, W.heap[k]? = some o ∧ o.isWalk = true) : Stands W' L r st pe :=
 ⟨(grownBy_keeps hg hr h.rec_ rfl).trans h.rec_, (grownBy_keeps hg hr h.defs rfl).trans h.defs⟩
theorem Stands.new (w : World) (r : Loop) : Stands ((w.alloc (.deferred (some []))).alloc (.loop r)) w.heap.size r r.state r.pending := by
 refine ⟨?_, (Below.heap_alloc _ _ _ (by simp)).trans (World.alloc_heap_new w _)⟩
 have h := World.alloc_heap_new (w.alloc (.deferred (some []))) (.loop r)
 rw [World.size_alloc] at h
 exact h
end
structure CK (m : Nat) (W W' : World) : Prop where
 os : W'.os = W.os
 tape : W'.tape = W.tape
 output : W'.output = W.output
 size : W.heap.size ≤ W'.heap.size
 low : ∀ k, k < m → k < W.heap.size → W'.heap[k]? = W.heap[k]?
 cells : ∀ (k : Nat) (c : Array Value) (t : TypeId) (fr : Nat × Nat), W.heap[k]? = some (Obj.cells c t fr) → W'.heap[k]? = some (Obj.cells c t fr)
theorem ownFrom_cells {β : Type} (m : Nat) (I : β → World → Prop) (h : ∀ s W W', I s W → CK m W W' → I s W') : OwnFrom m I := fun s W W' row hs hg hr =>
 h s W W' hs ⟨hg.os, hg.tape, hg.output, hg.size, fun k hk hl => hg.block k hl (fun e => by have := (hr k e.symm).1; omega),
  fun k c t fr hk => (hg.block k (Array.getElem?_eq_some_iff.1 hk).1 (fun e => by
   obtain ⟨_, o, ho, hc⟩ := hr k e.symm
   rw [hk] at ho
   injection ho with ho
   subst ho
   simp [Obj.isCells] at hc)).trans hk⟩
section
variable {m : Nat} {w W W' : World}
theorem CK.putObj {l : Nat} {o : Obj} (h : W.heap[l]? = some o) (ho : o.isCells = false) (hm : m ≤ l) (o' : Obj) : CK m W (W.putObj l o') :=
 ⟨rfl, rfl, rfl, by simp, fun k hk _ => World.putObj_heap_other (by omega), fun k c t fr hk => (World.putObj_heap_other (fun e => by
  subst e
  rw [hk] at h
  injection h with h
  subst h
  simp [Obj.isCells] at ho)).trans hk⟩
theorem CK.keeps {F : Nat → Prop} (h : CK m W W') (hk : Keeps F w W) (hm : w.heap.size ≤ m) : Keeps F w W' :=
 ⟨h.os.trans hk.os, h.tape.trans hk.tape, h.output.trans hk.output, Nat.le_trans hk.size h.size, fun i hi hn => (h.low i (by omega) (Nat.lt_of_lt_of_le hi hk.size)).trans (hk.block i hi hn)⟩
theorem CK.blk {g : Nat} {t : TypeId} {cs : List Value} (h : CK m W W') (hb : Blk W g t cs) : Blk W' g t cs := h.cells _ _ _ _ hb
theorem CK.own {base : Nat} {e : TypeId} {size n : Nat} {v : Value} {xs : List Value} (h : CK m W W') (ho : W.ownsRow base e size v n xs) : W'.ownsRow base e size v n xs := by
 refine ⟨ho.1, ?_⟩
 rcases ho.2 with hz | ⟨g, cap, cur, hv, hb, hg, rest⟩
 ·exact .inl hz
 exact .inr ⟨g, cap, cur, hv, hb, h.cells _ _ _ _ hg, rest⟩
theorem keepsFrom_of {F : Nat → Prop} (B : Nat) (hk : Keeps F W W') (hF : ∀ i, F i → ∃ c t fr, W.heap[i]? = some (Obj.cells c t fr)) : KeepsFrom B W W' :=
 ⟨hk.size, fun k o _ ho hc => (hk.block k (Array.getElem?_eq_some_iff.1 ho).1 (fun hf => by
  obtain ⟨c, t, fr, h⟩ := hF k hf
  rw [ho] at h
  injection h with h
  subst h
  simp [Obj.isCells] at hc)).trans ho⟩
end
theorem own_cells {W : World} {base : Nat} {e : TypeId} {size n : Nat} {v : Value} {xs : List Value} (ho : W.ownsRow base e size v n xs) : ∀ g, v.ownBlock = some g → ∃ c t fr, W.heap[g]? = some (Obj.cells c t fr) := fun g hg => by
 rcases ho.2 with ⟨hz, _⟩ | ⟨g', cap, cur, hv, hb, hh, rest⟩
 ·rw [hz] at hg; cases hg
 rw [hv] at hg
 injection hg with hg
 subst hg
 exact ⟨_, _, _, hh⟩
end Go.Rng
