/- Texts. -/
import Derived.Shelf.SlGeneric
import Derived.Shelf.SlSortCmp.Whole1
import Derived.Test.YtplleficmkfniaaGreatDoorS11
import Derived.Shelf.SlSortCmp.NoneTotal
set_option linter.unusedSimpArgs false
set_option maxRecDepth 100000
set_option maxHeartbeats 4000000
namespace Go.Proofs.YtplleficmkfniaaGreatDoor
open Go Go.RowKit Go.Aff Go.Json Go.Shelf
theorem item_one {D : Nat → Prop} {w : World} {vs : List Value} {P : List JV} (h : ∀ (i : Nat) (v : Value) (j : JV), vs[i]? = some v → P[i]? = some j → JAt D w v j) (hl : vs.length = P.length) : ∀ u ∈ vs, u.oneCell' = true := fun u hu => by
 obtain ⟨i, hi⟩ := List.getElem?_of_mem hu
 have hlt := (List.getElem?_eq_some_iff.1 hi).1
 exact (h i u _ hi (List.getElem?_eq_getElem (by omega))).one
theorem cap_of {w : World} {e : TypeId} {A : Option Addr} {n c : Nat} {xs : List Value} (h : w.ownsRow 0 e 1 (.slice A n c) n xs) : n ≤ c := by
 cases A with
 | some a => exact own_cap h
 | none =>
  rcases h.2 with ⟨hv, hn⟩ | ⟨g, cap, cur, hv, _⟩
  ·injection hv with _ h2 _; omega
  ·cases hv
theorem infoIt1 : (Tryz.prog.info? 93).map (·.size) = some 1 := by kernel_rfl
theorem take_few (T : TypeId) (D : Nat → Prop) (w : World) (p : Nat) (A : Option Addr) (c : Nat) (vs : List Value) (P : List JV) (h : RowAt T D w p A c vs P) (k : Int) (hk : (P.length : Int) < k) :
  Calls Tryz.prog 113 #[.pointer (some ⟨p, 0, none⟩), .int .i64 k] w fun e w' => e = errP 102 ∧ w' = w := by
 unfold errP
 obtain ⟨n, hn⟩ : ∃ n, n = P.length := ⟨_, rfl⟩
 have c0 := h.blk.cell 0
 rw [← hn] at c0 hk
 clear h hn
 go_enter Tryz.func113, Tryz.ntmps113
 go_wp2
 exact ⟨rfl, rfl, rfl⟩
theorem take_some (T : TypeId) (D : Nat → Prop) (w : World) (p : Nat) (A : Option Addr) (c : Nat) (vs : List Value) (P : List JV) (h : RowAt T D w p A c vs P) (hP : P.length ≤ 1099511627776) (k : Nat) (hk : k ≤ P.length) :
  Calls Tryz.prog 113 #[.pointer (some ⟨p, 0, none⟩), .int .i64 k] w fun e w' => ∃ A' c', e = .returned (.slice A' k c') ∧ Mine w w' 93 A' k c' (vs.drop (P.length - k)) := by
 obtain ⟨n, hn⟩ : ∃ n, n = P.length := ⟨_, rfl⟩
 have c0 := h.blk.cell 0
 rw [← hn] at c0 hk hP ⊢
 have hcap := cap_of h.own
 rw [← hn] at hcap
 have hrd : Rd w (cutA A c (n - k)) (n - (n - k)) (vs.drop (n - k)) := by
  have hr := Rd.of_own h.own
  rw [← hn] at hr
  exact hr.cutA (by omega) hcap
 obtain ⟨l, hl⟩ : ∃ l, l = n - k := ⟨_, rfl⟩
 rw [← hl] at hrd ⊢
 have HCL : Hid (∀ cc, Calls Tryz.prog 166 #[.slice (cutA A c l) (n - l) cc] w fun e w' => ∃ A' c', e = .returned (.slice A' (n - l) c') ∧ Mine w w' 93 A' (n - l) c' (vs.drop l)) := H_ fun cc =>
  iclone_any w _ _ cc _ hrd (fun u hu => item_one h.at_ h.len u (List.mem_of_mem_drop hu)) (by omega)
 have hsl : ∀ W, (Instr.sliceAt 127 (.slice A n c) (some (.int .i64 ((n : Int) - k))) none none).run Tryz.prog W = .ok (.slice (cutA A c l) (n - l) (c - l)) W := fun W => cut_l Tryz.underlying127 infoIt1 A n c l _ (by omega) (by omega) W
 have hln : n - l = k := by omega
 have HLN := H_ hln
 have hkn : (k : Int) ≤ n := by omega
 clear h hn hcap hrd hl hln
 go_enter Tryz.func113, Tryz.ntmps113
 go_wp2_with (go_at_call 166; refine (HCL.out _).mono ?_; rintro e w2 ⟨A2, c2, rfl, hm2⟩; have HM2 := H_ hm2; clear hm2)
 go_ret
 rw [← HLN.out]
 exact ⟨A2, c2, rfl, HM2.out⟩
theorem RowAt.cut {T : TypeId} {D : Nat → Prop} {w : World} {p : Nat} {A : Option Addr} {c : Nat} {vs : List Value} {P : List JV} (h : RowAt T D w p A c vs P) {l : Nat} (hl : l ≤ P.length) : w.ownsRow 0 93 1 (.slice A l c) l (vs.take l) := own_short h.own hl
theorem RowAt.grouped {T : TypeId} {D : Nat → Prop} {w w' : World} {p : Nat} {A : Option Addr} {c : Nat} {vs : List Value} {P : List JV} (h : RowAt T D w p A c vs P) {l : Nat} (hl : l ≤ P.length) {A' : Option Addr} {c' : Nat} {x : Value} {j : JV} {o : Obj}
  (ho : w'.ownsRow 0 93 1 (.slice A' (l + 1) c') (l + 1) (vs.take l ++ [x])) (hg : (w.drew.alloc o).grownBy w' (Value.slice A l c).ownBlock)
  (hb : (Value.slice A' (l + 1) c').ownBlock = (Value.slice A l c).ownBlock ∨ (Value.slice A' (l + 1) c').ownBlock = some (w.drew.alloc o).heap.size) (hj : JAt (Bq D p (.slice A P.length c)) w x j) :
  RowAt T D (w'.setCell ⟨p, 0, none⟩ (.slice A' (l + 1) c')) p A' c' (vs.take l ++ [x]) (P.take l ++ [j]) ∧ Keeps (fun i => i = p ∨ (Value.slice A P.length c).ownBlock = some i) w (w'.setCell ⟨p, 0, none⟩ (.slice A' (l + 1) c')) := by
 have hle : (P.take l ++ [j]).length = l + 1 := by rw [List.length_append, List.length_take]; simp; omega
 have hob : (Value.slice A l c).ownBlock = (Value.slice A P.length c).ownBlock := by cases A <;> rfl
 have hs := h.stored (P' := P.take l ++ [j]) (A' := A') (c' := c') (vs' := vs.take l ++ [x]) (((Keeps.refl _ w).drew.alloc o).grown hg (fun g e => .inl (hob ▸ e))) (by rw [hle]; exact ho) (by
   rw [hle]
   rcases hb with e | e
   ·exact .inl (e.trans hob)
   ·exact .inr ⟨_, e, by rw [World.size_alloc]; exact Nat.le_succ _⟩) (fun i u k hv hj' => by
   have hvl : (vs.take l).length = l := by rw [List.length_take, h.len]; omega
   have hpl : (P.take l).length = l := by rw [List.length_take]; omega
   rw [List.getElem?_append] at hv hj'
   by_cases hi : i < l
   ·rw [if_pos (by omega), List.getElem?_take_of_lt hi] at hv
    rw [if_pos (by omega), List.getElem?_take_of_lt hi] at hj'
    exact h.at_ i u k hv hj'
   ·rw [if_neg (by omega)] at hv hj'
    have hz : i - (P.take l).length = 0 := by
     rcases Nat.eq_zero_or_pos (i - (P.take l).length) with e | e
     ·exact e
     ·rw [List.getElem?_eq_none (by simp; omega)] at hj'; cases hj'
    rw [show i - (vs.take l).length = 0 by omega] at hv
    rw [hz] at hj'
    injection hv with hv
    injection hj' with hj'
    subst hv hj'
    exact hj)
 rw [hle] at hs
 exact hs
theorem sized_within (W : World) (j : JV) : Calls Tryz.prog 164 #[.agg (sizeV j).toArray] W fun e w' => e = .returned (.bool (decide j.within)) ∧ Keeps (fun _ => False) W w' := by
 refine (within_any W j.nodes j.bytes j.deep).mono fun e w' hh => ⟨hh.1.trans ?_, hh.2⟩
 congr 2
 rw [Bool.eq_iff_iff, decide_eq_true_iff]
 simp only [Bool.and_eq_true, decide_eq_true_eq]
 unfold JV.within
 constructor
 ·rintro ⟨h1, h2, h3⟩; exact ⟨by omega, by omega, by omega⟩
 ·rintro ⟨h1, h2, h3⟩; exact ⟨by omega, by omega, by omega⟩
theorem group_long {E : Nat → Prop} (w : World) (p n : Value) (x : Value) (j : JV) (hj : JAt E w x j) (hw : ¬ j.within) :
  Calls Tryz.prog 114 #[p, n, x] w fun e w' => e = errP 3 ∧ Keeps (fun _ => False) w w' := by
 unfold errP
 obtain ⟨T, y, f, u, rfl, hm, he, hc⟩ := sized_inv hj
 obtain ⟨SV, hSV⟩ : ∃ SV : List Value, SV = sizeV j := ⟨_, rfl⟩
 have HW : Hid (∀ W, Calls Tryz.prog 164 #[.agg SV.toArray] W fun e w' => e = .returned (.bool false) ∧ Keeps (fun _ => False) W w') := H_ fun W => by
  have := sized_within W j
  rw [decide_eq_false hw] at this
  rw [hSV]; exact this
 have hmw := hm w (Keeps.refl _ w)
 rw [← hSV] at hc
 have HC := H_ (hc w)
 unfold Ent at he
 clear hj hw hm hc hSV
 go_enter Tryz.func114, Tryz.ntmps114
 go_wp2_with (first
  | (go_at_fn f; refine HC.out.mono ?_; rintro e w2 ⟨rfl, hk2⟩; have HK2 := H_ hk2; clear hk2)
  | (go_at_call 164; refine (HW.out _).mono ?_; rintro e w3 ⟨rfl, hk3⟩; have HK3 := H_ (HK2.out.trans hk3 (fun _ _ h => h)); clear hk3)
  | (go_at_call 107; refine (refuse_no _ _).mono ?_; rintro e w4 ⟨he, rfl⟩; unfold errP at he; subst he))
 exact ⟨rfl, rfl, HK3.out⟩
theorem group_ok (T0 : TypeId) (D : Nat → Prop) (w : World) (p : Nat) (A : Option Addr) (c : Nat) (vs : List Value) (P : List JV) (h : RowAt T0 D w p A c vs P) (hP : P.length ≤ 1099511627776) (k : Nat) (hk : k ≤ P.length) (x : Value) (j : JV) (hj : JAt (Bq D p (.slice A P.length c)) w x j) (hw : j.within) :
  Calls Tryz.prog 114 #[.pointer (some ⟨p, 0, none⟩), .int .i64 k, x] w fun e w' => e = .returned (.tuple #[]) ∧ RowPost T0 D w p (.slice A P.length c) (P.take (P.length - k) ++ [j]) w' := by
 obtain ⟨T, y, f, u, rfl, hm, he, hc⟩ := sized_inv hj
 obtain ⟨SV, hSV⟩ : ∃ SV : List Value, SV = sizeV j := ⟨_, rfl⟩
 have HW : Hid (∀ W, Calls Tryz.prog 164 #[.agg SV.toArray] W fun e w' => e = .returned (.bool true) ∧ Keeps (fun _ => False) W w') := H_ fun W => by
  have := sized_within W j
  rw [decide_eq_true hw] at this
  rw [hSV]; exact this
 have hmw := hm w (Keeps.refl _ w)
 rw [← hSV] at hc
 have HC := H_ (hc w)
 unfold Ent at he
 obtain ⟨n, hn⟩ : ∃ n, n = P.length := ⟨_, rfl⟩
 obtain ⟨l, hl⟩ : ∃ l, l = n - k := ⟨_, rfl⟩
 have hlk : (n : Int) - k = l := by omega
 have hcap : n ≤ c := by rw [hn]; exact cap_of h.own
 have hwk : IntKind.i64.wrap ((n : Int) - k) = (l : Int) := by rw [IntWalk.i64_in _ (by omega)]; exact hlk
 have hlc : (l : Int) ≤ c := by omega
 have hkn : (k : Int) ≤ n := by omega
 have HH := H_ h
 have HJ := H_ hj
 have HOB : Hid ((Value.slice A l c).ownBlock = (Value.slice A P.length c).ownBlock) := H_ (by cases A <;> rfl)
 have HLE : Hid (l ≤ P.length) := H_ (by omega)
 have HLL : Hid (P.length - k = l) := H_ (by omega)
 have HLB : Hid (l ≤ 1099511627776) := H_ (by omega)
 have HOW : Hid (∀ W, Keeps (fun _ => False) w W → W.ownsRow 0 93 1 (.slice A l c) l (vs.take l)) := H_ fun W hW => hW.own (h.cut HLE.out) (fun _ _ h => h)
 have HCL : Hid (∀ W, Keeps (fun i => (Value.slice A P.length c).ownBlock = some i) w W → W.cell? ⟨p, 0, none⟩ = some (.slice A n c) ∧ W.frozen? ⟨p, 0, none⟩ = false) := H_ fun W hW => by
  have := hW.blk h.blk h.ne_own
  exact ⟨by rw [this.cell, hn]; rfl, this.frozen 0⟩
 clear h hj hw hm hc hSV hn hl hlk hcap hkn
 go_enter Tryz.func114, Tryz.ntmps114
 go_upto_region 1 with (first
  | (go_at_fn f; refine HC.out.mono ?_; rintro e w2 ⟨rfl, hk2⟩; have HK2 := H_ hk2; clear hk2)
  | (go_at_call 164; refine (HW.out _).mono ?_; rintro e w3 ⟨rfl, hk3⟩; have HK3 := H_ (HK2.out.trans hk3 (fun _ _ h => h)); clear hk3)
  | (go_at_call 107; refine (refuse_ok _ _).mono ?_; rintro e w4 ⟨he, rfl⟩; subst he))
 have HR3 := H_ (HH.out.stay HK3.out)
 have HJ3 := H_ (HJ.out.stay HK3.out)
 clear HC HW hmw he
 refine wp_region_tail (S := Keeps (fun i => (Value.slice A P.length c).ownBlock = some i) w4) 16 (by kernel_rfl) (Keeps.refl _ _).drew (fun h_ => ?_)
 refine tJ 0 10 ?_
 try simp only [pu]
 refine tJ 1 11 ?_
 try simp only [pu]
 refine tJ 2 12 ?_
 try simp only [pu]
 refine tJ 3 13 ?_
 try simp only [pu]
 refine tT [4] (i := 4) (oi := ⟨some 14, _, _, _, _, _⟩) (v := ?_) rfl (Or.inl ⟨by rfl, ?_⟩) h_ ?_
 rotate_left
 ·intro w' hSw
  have cv := (HCL.out w'  ((HK3.out.mono (fun _ _ h => h.elim)).trans hSw (fun _ _ h => h))).1
  go_simp
  first | done | rfl
 try simp only [pu]
 refine tJ 5 15 ?_
 try simp only [pu]
 refine tJ 6 16 ?_
 try simp only [pu]
 refine tJ 7 17 ?_
 try simp only [pu]
 refine tT [8] (i := 8) (oi := ⟨some 18, _, _, _, _, _⟩) (v := ?_) rfl (Or.inl ⟨by rfl, ?_⟩) h_ ?_
 rotate_left
 ·intro w' hSw
  have cv := (HCL.out w' ((HK3.out.mono (fun _ _ h => h.elim)).trans hSw (fun _ _ h => h))).1
  go_simp
  first | done | rfl
 try simp only [pu]
 refine tT [9] (i := 9) (oi := ⟨some 19, _, _, _, _, _⟩) (v := ?_) rfl (Or.inl ⟨by rfl, ?_⟩) h_ ?_
 rotate_left
 ·intro w' hSw
  go_simp
  first | done | rfl
 try simp only [pu]
 refine tJ 10 20 ?_
 try simp only [pu]
 refine tJ 11 21 ?_
 try simp only [pu]
 refine tJ 12 22 ?_
 try simp only [pu]
 refine tJ 13 23 ?_
 try simp only [pu]
 refine wpAnyT_step (i := 14) (o := ⟨some 24, _, _, _, _, _⟩) (by kernel_rfl) rfl (fun K hK => ?_)
 go_simp
 refine hK.out _ _ (h_.alloc _) (fun h_ => ?_)
 clear hK K
 try simp only [pu]
 refine wpAnyT_step (i := 15) (o := ⟨some 25, _, _, _, _, _⟩) (by kernel_rfl) rfl (fun K hK => ?_)
 refine step_append_own rfl (.tmp 22) (.tmp 24) 127 rfl 93 .nilIface 1 16 Tryz.underlying127 infoIt rfl (by decide) A l c (vs.take l) rfl (HOW.out _ (HK3.out.drew.alloc _)) ⟨w4.heap.size, 0, none⟩ 1 1 [.iface T y] rfl rfl (cell_one_new _ _ _) (by intro x hx; rw [List.mem_singleton.1 hx]; rfl) (by have := HLB.out; simp only [maxLen]; omega) (by have := HLB.out; omega) ?_
 intro A5 c5 w5 hown5 hg5 hb5
 have hq5 := h_.grown hg5 (fun g e => .inl (HOB.out ▸ e))
 refine hK.out _ _ hq5 (fun h_ => ?_)
 clear hK K
 try simp only [pu]
 refine wpAnyT_tail (i := 16) (o := ⟨some 26, _, _, _, _, _⟩) (by kernel_rfl) (by kernel_rfl) rfl (fun K hK => ?_)
 go_simp
 refine hK.out _ _ ?_
 clear hK K
 try simp only [pu]
 refine wpAnyT_tail (i := 17) (o := ⟨some 27, _, _, _, _, _⟩) (by kernel_rfl) (by kernel_rfl) rfl (fun K hK => ?_)
 go_simp
 refine hK.out _ _ ?_
 clear hK K
 try simp only [pu]
 refine wpAnyT_tail (i := 18) (o := ⟨none, _, _, _, _, _⟩) (by kernel_rfl) (by kernel_rfl) rfl (fun K hK => ?_)
 obtain ⟨cz, fz⟩ := HCL.out w5 ((HK3.out.mono (fun _ _ h => h.elim)).trans hq5 (fun _ _ h => h))
 go_simp
 refine hK.out _ _ ?_
 clear hK K
 try simp only [pu]
 refine wpAnyT_done (by kernel_rfl) ?_
 have hend := HR3.out.grouped HLE.out hown5 hg5 hb5 HJ3.out
 go_end0
 refine ⟨rfl, ?_⟩
 rw [HLL.out]
 exact ⟨⟨A5, c5, _, hend.1⟩, (HK3.out.mono (fun _ _ h => h.elim)).trans hend.2 (fun _ _ h => h)⟩
theorem doF_few {P : List JV} {s : StepV} (hu : usedF s = true) (hs : s.sort = 5) (hk : (P.length : Int) < s.count) : doF P s = .inl 102 := by
 obtain ⟨u1, _, u3, _, _, _⟩ := used_parts hu
 have k := u3 (by omega)
 unfold doF
 rw [if_neg (by rw [hu]; decide), if_neg (by omega), if_neg (by rw [right_empty (u1 (by omega)), k]; simp), if_neg (by rw [k]; simp), if_pos (by rw [k]; simp; omega)]
theorem doF_list {P : List JV} {s : StepV} {k : Nat} (hu : usedF s = true) (hs : s.sort = 5) (hc : s.count = k) (hk : k ≤ P.length) :
  doF P s = if (JV.list (P.drop (P.length - k))).within then .inr (P.take (P.length - k) ++ [JV.list (P.drop (P.length - k))]) else .inl 3 := by
 obtain ⟨u1, _, u3, _, _, _⟩ := used_parts hu
 have hkk := u3 (by omega)
 have hz : s.count.toNat + s.keys.length = k := by rw [hkk, hc]; simp
 have hm : ∀ L, mkV s L = JV.list L := fun L => by simp [mkV, hs]
 unfold doF
 rw [if_neg (by rw [hu]; decide), if_neg (by omega), if_neg (by rw [right_empty (u1 (by omega)), hkk]; simp), if_neg (by rw [hkk]; simp), if_neg (by rw [hz]; omega), hz, hm]
 by_cases h : (JV.list (P.drop (P.length - k))).within
 ·rw [if_pos h, if_neg (by simpa using h)]
 ·rw [if_neg h, if_pos (by simpa using h)]
theorem list_sizes (L : List JV) : sizeV (.list L) = [.int .i64 (1 + (sums L).1 : Nat), .int .i64 (0 + (sums L).2.1 : Nat), .int .i64 ((sums L).2.2 + 1 : Nat)] := by
 unfold sizeV
 rw [JV.nodes_eq, JV.bytes_eq, JV.deep_eq]
 rfl
theorem bq_new {T : TypeId} {D : Nat → Prop} {w : World} {p : Nat} {A : Option Addr} {c : Nat} {vs : List Value} {P : List JV} (h : RowAt T D w p A c vs P) {i : Nat} (hi : w.heap.size ≤ i) : Bq D p (.slice A P.length c) i :=
 ⟨h.new i hi, fun e => by have := h.blk.lt; omega, fun e => by have := (h.own.lt i e).2; omega⟩
theorem list_at {T : TypeId} {D : Nat → Prop} {w w2 w3 : World} {p : Nat} {A : Option Addr} {c : Nat} {vs : List Value} {P : List JV} (h : RowAt T D w p A c vs P) {k : Nat} (hk : k ≤ P.length) {A' : Option Addr} {c' : Nat}
  (hm : Mine w w2 93 A' k c' (vs.drop (P.length - k))) (h3 : Keeps (fun _ => False) w2 w3) :
  JAt (Bq D p (.slice A P.length c)) (w3.alloc (.cells (sizeV (.list (P.drop (P.length - k))) ++ [Value.slice A' k c']).toArray 231)) (.iface 186 (.pointer (some ⟨w3.heap.size, 0, none⟩))) (.list (P.drop (P.length - k))) := by
 have hl : (P.drop (P.length - k)).length = k := by rw [List.length_drop]; omega
 have hsz : w.heap.size ≤ w3.heap.size := (hm.2.1.trans h3 (fun _ _ h => h)).size
 have hb := Blk.new w3 231 (sizeV (.list (P.drop (P.length - k))) ++ [.slice A' k c'])
 have hst : Keeps (fun _ => False) w (w3.alloc (.cells (sizeV (.list (P.drop (P.length - k))) ++ [Value.slice A' k c']).toArray 231)) := (hm.2.1.trans h3 (fun _ _ h => h)).alloc _
 refine .list (A := A') (c := c') (vs := vs.drop (P.length - k)) (bq_new h hsz) (by rw [hl]; exact hb) (by rw [hl]; exact (hm.rd.keep h3 (fun _ _ _ h => h)).alloc _) ?_ ?_
 ·rw [hl]
  intro h0 a e
  obtain ⟨g, rfl, hg, _⟩ := hm.form h0
  injection e with e
  subst e
  exact bq_new h hg
 ·intro i v j hv hj
  rw [List.getElem?_drop] at hv hj
  exact (h.at_ _ v j hv hj).stay hst
theorem do_list_few (T : TypeId) (D : Nat → Prop) (w : World) (p : Nat) (A : Option Addr) (c : Nat) (vs : List Value) (P : List JV) (h : RowAt T D w p A c vs P) (hn : P.length ≤ 1048576) (s : StepV) (B : Option Addr) (d : Nat) (hu : usedF s = true) (hs : s.sort = 5) (hk : (P.length : Int) < s.count) :
  Calls Tryz.prog 55 #[.pointer (some ⟨p, 0, none⟩), .agg (stepV s B d).toArray] w (DoPost T D w p (.slice A P.length c) P s) := by
 have _ := hn
 have HQ := H_ (DoQ.made w s B d)
 obtain ⟨SV, hSV⟩ : ∃ SV, SV = stepV s B d := ⟨_, rfl⟩
 rw [← hSV] at HQ ⊢
 have HU : Hid (∀ W, Calls Tryz.prog 108 #[.agg SV.toArray] W fun e w' => e = .returned (.bool true) ∧ Keeps (fun _ => False) W w') := H_ fun W => by
  have := used_any W s B d
  rw [hu, ← hSV] at this
  exact this
 have HSI : Hid ((Tryz.prog.info? 131).map (·.size) = some SV.length) := H_ (by rw [hSV, stepV_len]; kernel_rfl)
 have HS := H_ hs
 have HR := H_ h
 have hmf : ∀ (fn : Fn) (first cap : Array Value) (w : World), (Instr.makeFunc fn first cap).run Tryz.prog w = .ok (.func fn first cap) w := fun _ _ _ _ => rfl
 clear h hSV
 have HD : Hid (doF P s = .inl 102) := H_ (doF_few hu hs hk)
 have HTK : Hid (∀ W, Keeps (fun _ => False) w W → Calls Tryz.prog 113 #[.pointer (some ⟨p, 0, none⟩), .int .i64 s.count] W fun e w' => e = errP 102 ∧ w' = W) := H_ fun W hW => take_few T D W p A c vs P (HR.out.stay hW) s.count hk
 clear hk
 go_enter_defers Tryz.func55, Tryz.ntmps55
 go_wp2_with (first
  | ((with_reducible show wpList _ _ _ (⟨some 8, _, _, _, _, _⟩ :: _) _ _); refine wpList_load_whole rfl 131 _ rfl _ rfl HQ.out.blk Tryz.underlying131 rfl HSI.out ?_)
  | (go_at_call 108; refine (HU.out _).mono ?_; rintro e w2 ⟨rfl, hk2⟩; have HQ2 := H_ (HQ.out.stay hk2); obtain ⟨s0, s1, s2, s3, s4, s5⟩ := HQ2.out.cells; rw [HS.out] at s0; have tk : True := trivial; clear hk2)
  | (go_at_call 107; refine (refuse_ok _ _).mono ?_; rintro e w3 ⟨he, rfl⟩; subst he)
  | (go_at_call 113; refine (HTK.out _ HQ2.out.keep).mono ?_; rintro e w5 ⟨he, rfl⟩; unfold errP at he; subst he))
 have hbe := HQ2.out.err
 refine leaves_cons (f := 106) (args := #[.pointer (some ⟨w.heap.size + 1, 0, none⟩)]) (by simp) (by simp [go_sem]) ?_
 refine (do_catch (w.heap.size + 1) 102 [] _ hbe).mono ?_
 rintro e u' w'' ⟨rfl, rfl, hb, hk⟩
 refine ⟨_, results_err rfl _ _ _ _ rfl hb, ?_⟩
 unfold DoPost
 rw [HD.out]
 exact ⟨rfl, HQ2.out.keep.trans hk (fun i hi e => by omega)⟩
theorem do_list_ok (T : TypeId) (D : Nat → Prop) (w : World) (p : Nat) (A : Option Addr) (c : Nat) (vs : List Value) (P : List JV) (h : RowAt T D w p A c vs P) (hn : P.length ≤ 1048576) (s : StepV) (B : Option Addr) (d : Nat) (hu : usedF s = true) (hs : s.sort = 5) (k : Nat) (hc : s.count = k) (hk : k ≤ P.length) (hP : ∀ j ∈ P, j.within) (hw : (JV.list (P.drop (P.length - k))).within) :
  Calls Tryz.prog 55 #[.pointer (some ⟨p, 0, none⟩), .agg (stepV s B d).toArray] w (DoPost T D w p (.slice A P.length c) P s) := by
 have _ := hn
 have HQ := H_ (DoQ.made w s B d)
 obtain ⟨SV, hSV⟩ : ∃ SV, SV = stepV s B d := ⟨_, rfl⟩
 rw [← hSV] at HQ ⊢
 have HU : Hid (∀ W, Calls Tryz.prog 108 #[.agg SV.toArray] W fun e w' => e = .returned (.bool true) ∧ Keeps (fun _ => False) W w') := H_ fun W => by
  have := used_any W s B d
  rw [hu, ← hSV] at this
  exact this
 have HSI : Hid ((Tryz.prog.info? 131).map (·.size) = some SV.length) := H_ (by rw [hSV, stepV_len]; kernel_rfl)
 have HS := H_ hs
 have HR := H_ h
 have hmf : ∀ (fn : Fn) (first cap : Array Value) (w : World), (Instr.makeFunc fn first cap).run Tryz.prog w = .ok (.func fn first cap) w := fun _ _ _ _ => rfl
 clear h hSV
 have HD : Hid (doF P s = .inr (P.take (P.length - k) ++ [JV.list (P.drop (P.length - k))])) := H_ (by rw [doF_list hu hs hc hk, if_pos hw])
 obtain ⟨L, hL⟩ : ∃ L, L = P.drop (P.length - k) := ⟨_, rfl⟩
 have hLk : L.length = k := by rw [hL, List.length_drop]; omega
 have HTK : Hid (∀ W, Keeps (fun _ => False) w W → Calls Tryz.prog 113 #[.pointer (some ⟨p, 0, none⟩), .int .i64 s.count] W fun e w' => ∃ A' c', e = .returned (.slice A' k c') ∧ Mine W w' 93 A' k c' (vs.drop (P.length - k))) := H_ fun W hW => by
  rw [hc]; exact take_some T D W p A c vs P (HR.out.stay hW) (by omega) k hk
 obtain ⟨s1', hs1⟩ : ∃ x, x = ((1 + (sums L).1 : Nat) : Int) := ⟨_, rfl⟩
 obtain ⟨s2', hs2⟩ : ∃ x, x = ((0 + (sums L).2.1 : Nat) : Int) := ⟨_, rfl⟩
 obtain ⟨s3', hs3⟩ : ∃ x, x = (((sums L).2.2 + 1 : Nat) : Int) := ⟨_, rfl⟩
 have hsv : sizeV (.list L) = [.int .i64 s1', .int .i64 s2', .int .i64 s3'] := by rw [list_sizes, hs1, hs2, hs3]
 have HSU : Hid (∀ W2 W3 A' c', Keeps (fun _ => False) w W2 → Mine W2 W3 93 A' k c' (vs.drop (P.length - k)) → Calls Tryz.prog 115 #[.slice A' k c', .int .i64 0] W3 fun e w' => e = .returned (.agg #[.int .i64 s1', .int .i64 s2', .int .i64 s3']) ∧ Keeps (fun _ => False) W3 w') := H_ fun W2 W3 A' c' h2 hm => by
  have := summed_any (D := Bq D p (.slice A P.length c)) W3 A' k c' 0 (vs.drop (P.length - k)) L hLk (by omega) (by omega) (fun x hx => hP x (by rw [hL] at hx; exact List.mem_of_mem_drop hx)) hm.rd (fun i v x hv hx => by
   rw [hL] at hx
   rw [List.getElem?_drop] at hv hx
   exact (HR.out.at_ _ v x hv hx).stay (h2.trans hm.2.1 (fun _ _ h => h)))
  rw [hs1, hs2, hs3]; exact this
 have HGR : Hid (∀ W2 W3 W4 A' c', Keeps (fun _ => False) w W2 → Mine W2 W3 93 A' k c' (vs.drop (P.length - k)) → Keeps (fun _ => False) W3 W4 → Calls Tryz.prog 114 #[.pointer (some ⟨p, 0, none⟩), .int .i64 k, .iface 186 (.pointer (some ⟨W4.heap.size, 0, none⟩))] (W4.alloc (.cells #[.int .i64 s1', .int .i64 s2', .int .i64 s3', .slice A' k c'] 231)) fun e w' => e = .returned (.tuple #[]) ∧ RowPost T D (W4.alloc (.cells #[.int .i64 s1', .int .i64 s2', .int .i64 s3', .slice A' k c'] 231)) p (.slice A P.length c) (P.take (P.length - k) ++ [JV.list (P.drop (P.length - k))]) w') := H_ fun W2 W3 W4 A' c' h2 hm h3 => by
  have hj := list_at (HR.out.stay h2) hk hm h3
  rw [← hL, hsv] at hj
  have hk4 : Keeps (fun _ => False) w (W4.alloc (.cells #[.int .i64 s1', .int .i64 s2', .int .i64 s3', .slice A' k c'] 231)) := ((h2.trans hm.2.1 (fun _ _ h => h)).trans h3 (fun _ _ h => h)).alloc _
  rw [← hL]
  exact group_ok T D _ p A c vs P (HR.out.stay hk4) (by omega) k hk _ _ hj (by rw [hL]; exact hw)
 have HSC := H_ hc
 clear hc hk hP hw hLk hs1 hs2 hs3 hsv hL
 go_enter_defers Tryz.func55, Tryz.ntmps55
 go_wp2_with (first
  | ((with_reducible show wpList _ _ _ (⟨some 8, _, _, _, _, _⟩ :: _) _ _); refine wpList_load_whole rfl 131 _ rfl _ rfl HQ.out.blk Tryz.underlying131 rfl HSI.out ?_)
  | (go_at_call 108; refine (HU.out _).mono ?_; rintro e w2 ⟨rfl, hk2⟩; have HQ2 := H_ (HQ.out.stay hk2); obtain ⟨s0, s1, s2, s3, s4, s5⟩ := HQ2.out.cells; rw [HS.out] at s0; have tk : True := trivial; clear hk2)
  | (go_at_call 107; refine (refuse_ok _ _).mono ?_; rintro e w3 ⟨he, rfl⟩; subst he)
  | (go_at_call 113; refine (HTK.out _ HQ2.out.keep).mono ?_; rintro e w5 ⟨A5, c5, rfl, hm5⟩; have HM5 := H_ hm5; clear hm5)
  | (go_at_call 115; refine (HSU.out _ _ _ _ HQ2.out.keep HM5.out).mono ?_; rintro e w6 ⟨rfl, hk6⟩; have HK6 := H_ hk6; have HQ6 := H_ (HQ2.out.stay (HM5.out.2.1.trans hk6 (fun _ _ h => h))); have HQ7 := H_ (HQ6.out.stay ((Keeps.refl _ w6).alloc (.cells #[.int .i64 s1', .int .i64 s2', .int .i64 s3', .slice A5 k c5] 231))); clear hk6)
  | (go_at_call 114; refine (HGR.out _ _ _ _ _ HQ2.out.keep HM5.out HK6.out).mono ?_; rintro e w4 ⟨rfl, hr4⟩; have hbe := HQ7.out.err_row HR.out hr4.2; have HR4 := H_ hr4; have HBE := H_ hbe; have c0 := hbe.cell 0; have f0 := hbe.frozen 0; clear hr4 hbe))
 rw [set_same HBE.out]
 refine leaves_cons (f := 106) (args := #[.pointer (some ⟨w.heap.size + 1, 0, none⟩)]) (by simp) (by simp [go_sem]) ?_
 refine (do_idle ⟨w.heap.size + 1, 0, none⟩ _).mono ?_
 rintro e u' w'' ⟨rfl, rfl, rfl⟩
 refine ⟨_, results_err rfl _ _ _ _ rfl HBE.out, ?_⟩
 unfold DoPost
 rw [HD.out]
 exact ⟨rfl, HR4.out.1, (HQ7.out.keep.mono (fun _ _ h => h.elim)).trans HR4.out.2 (fun _ _ h => h)⟩
theorem do_list_long (T : TypeId) (D : Nat → Prop) (w : World) (p : Nat) (A : Option Addr) (c : Nat) (vs : List Value) (P : List JV) (h : RowAt T D w p A c vs P) (hn : P.length ≤ 1048576) (s : StepV) (B : Option Addr) (d : Nat) (hu : usedF s = true) (hs : s.sort = 5) (k : Nat) (hc : s.count = k) (hk : k ≤ P.length) (hP : ∀ j ∈ P, j.within) (hw : ¬ (JV.list (P.drop (P.length - k))).within) :
  Calls Tryz.prog 55 #[.pointer (some ⟨p, 0, none⟩), .agg (stepV s B d).toArray] w (DoPost T D w p (.slice A P.length c) P s) := by
 have _ := hn
 have HQ := H_ (DoQ.made w s B d)
 obtain ⟨SV, hSV⟩ : ∃ SV, SV = stepV s B d := ⟨_, rfl⟩
 rw [← hSV] at HQ ⊢
 have HU : Hid (∀ W, Calls Tryz.prog 108 #[.agg SV.toArray] W fun e w' => e = .returned (.bool true) ∧ Keeps (fun _ => False) W w') := H_ fun W => by
  have := used_any W s B d
  rw [hu, ← hSV] at this
  exact this
 have HSI : Hid ((Tryz.prog.info? 131).map (·.size) = some SV.length) := H_ (by rw [hSV, stepV_len]; kernel_rfl)
 have HS := H_ hs
 have HR := H_ h
 have hmf : ∀ (fn : Fn) (first cap : Array Value) (w : World), (Instr.makeFunc fn first cap).run Tryz.prog w = .ok (.func fn first cap) w := fun _ _ _ _ => rfl
 clear h hSV
 have HD : Hid (doF P s = .inl 3) := H_ (by rw [doF_list hu hs hc hk, if_neg hw])
 obtain ⟨L, hL⟩ : ∃ L, L = P.drop (P.length - k) := ⟨_, rfl⟩
 have hLk : L.length = k := by rw [hL, List.length_drop]; omega
 have HTK : Hid (∀ W, Keeps (fun _ => False) w W → Calls Tryz.prog 113 #[.pointer (some ⟨p, 0, none⟩), .int .i64 s.count] W fun e w' => ∃ A' c', e = .returned (.slice A' k c') ∧ Mine W w' 93 A' k c' (vs.drop (P.length - k))) := H_ fun W hW => by
  rw [hc]; exact take_some T D W p A c vs P (HR.out.stay hW) (by omega) k hk
 obtain ⟨s1', hs1⟩ : ∃ x, x = ((1 + (sums L).1 : Nat) : Int) := ⟨_, rfl⟩
 obtain ⟨s2', hs2⟩ : ∃ x, x = ((0 + (sums L).2.1 : Nat) : Int) := ⟨_, rfl⟩
 obtain ⟨s3', hs3⟩ : ∃ x, x = (((sums L).2.2 + 1 : Nat) : Int) := ⟨_, rfl⟩
 have hsv : sizeV (.list L) = [.int .i64 s1', .int .i64 s2', .int .i64 s3'] := by rw [list_sizes, hs1, hs2, hs3]
 have HSU : Hid (∀ W2 W3 A' c', Keeps (fun _ => False) w W2 → Mine W2 W3 93 A' k c' (vs.drop (P.length - k)) → Calls Tryz.prog 115 #[.slice A' k c', .int .i64 0] W3 fun e w' => e = .returned (.agg #[.int .i64 s1', .int .i64 s2', .int .i64 s3']) ∧ Keeps (fun _ => False) W3 w') := H_ fun W2 W3 A' c' h2 hm => by
  have := summed_any (D := Bq D p (.slice A P.length c)) W3 A' k c' 0 (vs.drop (P.length - k)) L hLk (by omega) (by omega) (fun x hx => hP x (by rw [hL] at hx; exact List.mem_of_mem_drop hx)) hm.rd (fun i v x hv hx => by
   rw [hL] at hx
   rw [List.getElem?_drop] at hv hx
   exact (HR.out.at_ _ v x hv hx).stay (h2.trans hm.2.1 (fun _ _ h => h)))
  rw [hs1, hs2, hs3]; exact this
 have HGR : Hid (∀ W2 W3 W4 A' c', Keeps (fun _ => False) w W2 → Mine W2 W3 93 A' k c' (vs.drop (P.length - k)) → Keeps (fun _ => False) W3 W4 → Calls Tryz.prog 114 #[.pointer (some ⟨p, 0, none⟩), .int .i64 k, .iface 186 (.pointer (some ⟨W4.heap.size, 0, none⟩))] (W4.alloc (.cells #[.int .i64 s1', .int .i64 s2', .int .i64 s3', .slice A' k c'] 231)) fun e w' => e = errP 3 ∧ Keeps (fun _ => False) (W4.alloc (.cells #[.int .i64 s1', .int .i64 s2', .int .i64 s3', .slice A' k c'] 231)) w') := H_ fun W2 W3 W4 A' c' h2 hm h3 => by
  have hj := list_at (HR.out.stay h2) hk hm h3
  rw [← hL, hsv] at hj
  have hk4 : Keeps (fun _ => False) w (W4.alloc (.cells #[.int .i64 s1', .int .i64 s2', .int .i64 s3', .slice A' k c'] 231)) := ((h2.trans hm.2.1 (fun _ _ h => h)).trans h3 (fun _ _ h => h)).alloc _
  exact group_long _ _ _ _ (JV.list L) hj (by rw [hL]; exact hw)
 have HSC := H_ hc
 clear hc hk hP hw hLk hs1 hs2 hs3 hsv hL
 go_enter_defers Tryz.func55, Tryz.ntmps55
 go_wp2_with (first
  | ((with_reducible show wpList _ _ _ (⟨some 8, _, _, _, _, _⟩ :: _) _ _); refine wpList_load_whole rfl 131 _ rfl _ rfl HQ.out.blk Tryz.underlying131 rfl HSI.out ?_)
  | (go_at_call 108; refine (HU.out _).mono ?_; rintro e w2 ⟨rfl, hk2⟩; have HQ2 := H_ (HQ.out.stay hk2); obtain ⟨s0, s1, s2, s3, s4, s5⟩ := HQ2.out.cells; rw [HS.out] at s0; have tk : True := trivial; clear hk2)
  | (go_at_call 107; refine (refuse_ok _ _).mono ?_; rintro e w3 ⟨he, rfl⟩; subst he)
  | (go_at_call 113; refine (HTK.out _ HQ2.out.keep).mono ?_; rintro e w5 ⟨A5, c5, rfl, hm5⟩; have HM5 := H_ hm5; clear hm5)
  | (go_at_call 115; refine (HSU.out _ _ _ _ HQ2.out.keep HM5.out).mono ?_; rintro e w6 ⟨rfl, hk6⟩; have HK6 := H_ hk6; have HQ6 := H_ (HQ2.out.stay (HM5.out.2.1.trans hk6 (fun _ _ h => h))); have HQ7 := H_ (HQ6.out.stay ((Keeps.refl _ w6).alloc (.cells #[.int .i64 s1', .int .i64 s2', .int .i64 s3', .slice A5 k c5] 231))); clear hk6)
  | (go_at_call 114; refine (HGR.out _ _ _ _ _ HQ2.out.keep HM5.out HK6.out).mono ?_; rintro e w8 ⟨he, hk8⟩; unfold errP at he; subst he; have HQ8 := H_ (HQ7.out.stay hk8); clear hk8))
 have hbe := HQ8.out.err
 refine leaves_cons (f := 106) (args := #[.pointer (some ⟨w.heap.size + 1, 0, none⟩)]) (by simp) (by simp [go_sem]) ?_
 refine (do_catch (w.heap.size + 1) 3 [] _ hbe).mono ?_
 rintro e u' w'' ⟨rfl, rfl, hb, hk⟩
 refine ⟨_, results_err rfl _ _ _ _ rfl hb, ?_⟩
 unfold DoPost
 rw [HD.out]
 exact ⟨rfl, HQ8.out.keep.trans hk (fun i hi e => by omega)⟩
end Go.Proofs.YtplleficmkfniaaGreatDoor
namespace Go.Proofs
open Go.Shelf
def Tryz.sortS_ren : Go.Shelf.Ren := ⟨fun | 6 => 168 | 15 => 205 | 14 => 204 | 28 => 237 | 29 => 238 | 20 => 229 | 21 => 230 | 22 => 231 | 23 => 232 | 24 => 233 | 25 => 234 | 26 => 235 | 27 => 236 | 46 => 256 | 47 => 257 | 48 => 258 | 49 => 259 | 50 => 260 | 57 => 272 | n => n, fun | 22 => 78 | 24 => 9 | 25 => 199 | 3 => 3 | 39 => 291 | 0 => 0 | 53 => 253 | 55 => 76 | 4 => 4 | 46 => 369 | 45 => 368 | 50 => 197 | 5 => 5 | 9 => 9 | 66 => 385 | 70 => 388 | 76 => 405 | 77 => 51 | n => n, fun | n => n⟩
theorem Tryz.sortS : Go.Proofs.SlLaysF.n6 Tryz.prog Tryz.sortS_ren := {
 mixed := by kernel_rfl
 f6 := ⟨Tryz.f168.name, by decide, Tryz.func168.trans (congrArg some (by kernel_rfl))⟩
 f14 := ⟨Tryz.f204.name, by decide, Tryz.func204.trans (congrArg some (by kernel_rfl))⟩
 f15 := Tryz.func205.trans (congrArg some (by kernel_rfl))
 f20 := ⟨Tryz.f229.name, by decide, Tryz.func229.trans (congrArg some (by kernel_rfl))⟩
 f21 := ⟨Tryz.f230.name, by decide, Tryz.func230.trans (congrArg some (by kernel_rfl))⟩
 f22 := ⟨Tryz.f231.name, by decide, Tryz.func231.trans (congrArg some (by kernel_rfl))⟩
 f23 := ⟨Tryz.f232.name, by decide, Tryz.func232.trans (congrArg some (by kernel_rfl))⟩
 f24 := ⟨Tryz.f233.name, by decide, Tryz.func233.trans (congrArg some (by kernel_rfl))⟩
 f25 := ⟨Tryz.f234.name, by decide, Tryz.func234.trans (congrArg some (by kernel_rfl))⟩
 f26 := ⟨Tryz.f235.name, by decide, Tryz.func235.trans (congrArg some (by kernel_rfl))⟩
 f27 := ⟨Tryz.f236.name, by decide, Tryz.func236.trans (congrArg some (by kernel_rfl))⟩
 f28 := Tryz.func237.trans (congrArg some (by kernel_rfl))
 f29 := Tryz.func238.trans (congrArg some (by kernel_rfl))
 f46 := ⟨Tryz.f256.name, by decide, Tryz.func256.trans (congrArg some (by kernel_rfl))⟩
 f47 := Tryz.func257.trans (congrArg some (by kernel_rfl))
 f48 := Tryz.func258.trans (congrArg some (by kernel_rfl))
 f49 := ⟨Tryz.f259.name, by decide, Tryz.func259.trans (congrArg some (by kernel_rfl))⟩
 f50 := ⟨Tryz.f260.name, by decide, Tryz.func260.trans (congrArg some (by kernel_rfl))⟩
 f57 := ⟨Tryz.f272.name, by decide, Tryz.func272.trans (congrArg some (by kernel_rfl))⟩
 t0 := Tryz.underlying0
 a0 := Tryz.isAgg0
 z0 := Tryz.sizeOf0
 v0 := Tryz.zeroValue0
 t3 := Tryz.underlying3
 a3 := Tryz.isAgg3
 z3 := Tryz.sizeOf3
 v3 := Tryz.zeroValue3
 t4 := Tryz.underlying4
 a4 := Tryz.isAgg4
 z4 := Tryz.sizeOf4
 v4 := Tryz.zeroValue4
 t5 := Tryz.underlying5
 a5 := Tryz.isAgg5
 z5 := Tryz.sizeOf5
 v5 := Tryz.zeroValue5
 t9 := Tryz.underlying9
 a9 := Tryz.isAgg9
 z9 := Tryz.sizeOf9
 v9 := Tryz.zeroValue9
 t22 := Tryz.underlying78
 a22 := Tryz.isAgg78
 z22 := Tryz.sizeOf78
 v22 := Tryz.zeroValue78
 a24 := Tryz.isAgg9
 z24 := Tryz.sizeOf9
 t25 := Tryz.underlying199
 a25 := Tryz.isAgg199
 z25 := Tryz.sizeOf199
 v25 := Tryz.zeroValue199
 t39 := Tryz.underlying291
 a39 := Tryz.isAgg291
 z39 := Tryz.sizeOf291
 v39 := Tryz.zeroValue291
 t45 := Tryz.underlying368
 a45 := Tryz.isAgg368
 z45 := Tryz.sizeOf368
 v45 := Tryz.zeroValue368
 t46 := Tryz.underlying369
 a46 := Tryz.isAgg369
 z46 := Tryz.sizeOf369
 v46 := Tryz.zeroValue369
 t50 := Tryz.underlying197
 a50 := Tryz.isAgg197
 z50 := Tryz.sizeOf197
 v50 := Tryz.zeroValue197
 t53 := Tryz.underlying253
 a53 := Tryz.isAgg253
 z53 := Tryz.sizeOf253
 v53 := Tryz.zeroValue253
 t55 := Tryz.underlying76
 a55 := Tryz.isAgg76
 z55 := Tryz.sizeOf76
 v55 := Tryz.zeroValue76
 t66 := Tryz.underlying385
 a66 := Tryz.isAgg385
 z66 := Tryz.sizeOf385
 v66 := Tryz.zeroValue385
 t70 := Tryz.underlying388
 a70 := Tryz.isAgg388
 z70 := Tryz.sizeOf388
 v70 := Tryz.zeroValue388
 t76 := Tryz.underlying405
 a76 := Tryz.isAgg405
 z76 := Tryz.sizeOf405
 v76 := Tryz.zeroValue405
 t77 := Tryz.underlying51
 a77 := Tryz.isAgg51
 z77 := Tryz.sizeOf51
 v77 := Tryz.zeroValue51 }
end Go.Proofs
namespace Go.Json
open Go.Utf
def RS : Type := {s : ByteArray // rightS s = true ∧ s.size ≤ 1152921504606846976}
theorem right_zero : rightS .empty = true := by decide +kernel
instance : Inhabited RS := ⟨⟨.empty, right_zero, by decide⟩⟩
theorem cmp_lt {a b : ByteArray} (ha : rightS a = true) (hb : rightS b = true) : cmpB (sb a) (sb b) < 0 ↔ ltS a b := by rw [cmp_eq ha hb]; rfl
end Go.Json
namespace Go.Proofs.YtplleficmkfniaaGreatDoor
open Go Go.RowKit Go.Aff Go.Utf Go.Json Go.Shelf Go.Sort
def encS (x : RS) : Value := .string x.1
def cfS (x y : RS) : Int := cmpB (sb x.1) (sb y.1)
theorem lt_cf (x y : RS) : ltOf cfS x y = decide (ltS x.1 y.1) := by
 unfold ltOf cfS
 rw [Bool.eq_iff_iff, decide_eq_true_iff, decide_eq_true_iff]
 exact cmp_lt x.2.1 y.2.1
theorem swo_cf : SWO (ltOf cfS) where
 irrefl x := by rw [lt_cf, decide_eq_false_iff_not]; exact ltS_irrefl _
 trans x y z h1 h2 := by
  rw [lt_cf, decide_eq_true_iff] at *
  exact ltS_trans h1 h2
 ntrans x y z h1 h2 := by
  rw [lt_cf, decide_eq_false_iff_not] at *
  intro h
  rcases ltS_tri x.2.1 y.2.1 with h3 | h3 | h3
  ·exact h1 h3
  ·rw [h3] at h; exact h2 h
  ·exact h2 (ltS_trans h3 h)
theorem cmp_lays (blk off size : Nat) (w : World) : CmpLays1 Tryz.prog 92 #[] encS cfS blk off size w := fun _ _ _ _ x y =>
 (compare_any _ x.1 y.1 x.2.1 y.2.1 x.2.2 y.2.2).mono fun _ _ h => ⟨h.1, h.2.grows⟩
theorem sortWorld_keeps {α : Type} [Inhabited α] (enc : α → Value) (w : World) (blk off n : Nat) (d : Array α) (os : Array Obj) : Keeps (fun i => i = blk) w (sortWorld enc w blk off n d os) := by
 refine ⟨rfl, rfl, rfl, ?_, fun i hi hn => ?_⟩
 ·simp [sortWorld, grow, putRow, mapBlock, ahead]
 ·have hne : blk ≠ i := fun e => hn e.symm
  have h1 : (sortWorld enc w blk off n d os).heap = (w.heap.modify blk (onCells (putCells enc off d))) ++ os := rfl
  rw [h1, Array.getElem?_append, if_pos (by simpa using hi), Array.getElem?_modify, if_neg hne]
def unS (d : List RS) : List ByteArray := d.map fun x => x.1
theorem toRS : ∀ (ks : List ByteArray), (∀ s ∈ ks, rightS s = true ∧ s.size ≤ 1152921504606846976) → ∃ d : List RS, unS d = ks
 | [], _ => ⟨[], rfl⟩
 | s :: ks, h => by
  obtain ⟨d, hd⟩ := toRS ks fun t ht => h t (List.mem_cons_of_mem _ ht)
  exact ⟨⟨s, h s List.mem_cons_self⟩ :: d, congrArg (s :: ·) hd⟩
theorem sort_any (w : World) (A : Option Addr) (n c : Nat) (ks : List ByteArray) (hr : Rd w A n (ks.map .string)) (hfz : ∀ g o j, A = some ⟨g, o, none⟩ → j < n → w.frozen? ⟨g, o + j, none⟩ = false) (hright : ∀ s ∈ ks, rightS s = true ∧ s.size ≤ 1152921504606846976) (hn : n < 4611686018427387904) :
  Calls Tryz.prog 168 #[.slice A n c, .func (.func 92) #[] #[]] w fun e w' => e = .returned (.tuple #[]) ∧ ∃ ks' : List ByteArray, ks'.Perm ks ∧ ks'.Pairwise (fun a b => ¬ ltS b a) ∧ Rd w' A n (ks'.map .string) ∧
   Keeps (fun i => ∃ a, A = some a ∧ i = a.block) w w' := by
 have hkl : ks.length = n := by simpa using hr.1
 rcases Nat.eq_zero_or_pos n with h0 | h0
 ·subst h0
  have hk0 : ks = [] := List.length_eq_zero_iff.1 hkl
  subst hk0
  have h := AnyF.slices_SortFunc_none { Tryz.sortS with } A c (.func (.func 92) #[] #[]) w
  refine h.mono fun e w' hh => ?_
  obtain ⟨he, rfl⟩ := hh
  exact ⟨he, [], .refl _, .nil, hr, Keeps.refl _ _⟩
 ·obtain ⟨g, o, rfl, hc⟩ := hr.2 h0
  obtain ⟨d, hd⟩ := toRS ks hright
  have hdl : d.length = n := by rw [← hkl, ← hd]; simp [unS]
  have hget : ∀ (l : List RS) (j : Nat), j < l.length → ((unS l).map Value.string)[j]? = some (encS l.toArray[j]!) := fun l j hj => by
   unfold unS
   rw [List.getElem?_map, List.getElem?_map, List.getElem?_eq_getElem hj, getElem!_pos _ _ (by simpa using hj)]
   rfl
  have hH : Holds encS w g o d.toArray := fun j hj => by
   have hj' : j < d.length := by simpa using hj
   refine ⟨?_, hfz g o j rfl (by omega)⟩
   rw [hc j (by omega), ← hd]
   exact hget d j hj'
  have hlt : g < w.heap.size := World.block_lt_of_cell? w _ (show w.cell? ⟨g, o + 0, none⟩ = some _ from (hH 0 (by simp; omega)).1)
  have h := Any.slices_SortFunc Tryz.sortS encS (fun _ => rfl) cfS swo_cf 92 #[] g o c d.toArray w (enters_of Tryz.func92 (by kernel_rfl) rfl) (cmp_lays g o _ w) hH hlt (by simp; omega)
  rw [show d.toArray.size = n by simpa using hdl] at h
  refine h.mono fun e w' hh => ?_
  obtain ⟨he, d', m, os, hp, hs, rfl⟩ := hh
  have hps : d'.size = d.toArray.size := hp.1
  have hsz : d'.size = n := by rw [hps]; simpa using hdl
  have hperm : d'.toList.Perm d := by
   have h2 := hp.2.2
   have e1 : d'.extract 0 n = d' := by rw [← hsz]; exact Array.extract_size
   have e2 : d.toArray.extract 0 n = d.toArray := by rw [← hsz, hps]; exact Array.extract_size
   rw [e1, e2] at h2
   exact h2
  refine ⟨he, unS d'.toList, ?_, ?_, ⟨?_, fun _ => ⟨g, o, rfl, fun j hj => ?_⟩⟩, (sortWorld_keeps encS w g o m d' os).mono (fun i _ e => ⟨_, rfl, e⟩)⟩
  ·rw [← hd]; exact hperm.map _
  ·unfold unS
   rw [List.pairwise_map, List.pairwise_iff_getElem]
   intro i j hi hj hij
   have h1 := hs i j (Nat.zero_le _) hij (by rw [← hsz]; simpa using hj)
   rw [lt_cf, decide_eq_false_iff_not] at h1
   rw [getElem!_pos _ _ (by simpa using hj), getElem!_pos _ _ (by simpa using hi)] at h1
   simpa using h1
  ·simp [unS, hsz]
  ·have h1 := (holds_sortWorld encS w g o m d.toArray d' os hlt hH hps j (by omega)).1
   rw [h1]
   have := hget d'.toList j (by simpa using (by omega : j < d'.size))
   rw [this]
end Go.Proofs.YtplleficmkfniaaGreatDoor
