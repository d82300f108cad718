/- Texts. -/
import Derived.Test.YtdmcioghdindfaaGreatDoorL38
set_option linter.unusedSimpArgs false
set_option maxRecDepth 100000
set_option maxHeartbeats 4000000
namespace Go.Proofs.YtdmcioghdindfaaGreatDoor
open Go Go.RowKit Go.Aff Go.Json Go.Rng
attribute [local go_sem] Oper.semAt_some
theorem three_fit : ∀ x, OOk x → (∀ j, x = some j → j.within) → ∀ o y, OOk o → OOk y → (∀ j, y = some j → j.within) → ∀ way z, (three o x y way).1 = some z → Fit z := by
 have hat : ∀ {q : Option JV}, OOk q → (∀ j, q = some j → j.within) → ∀ key j, atK (mem2 q).1 (mem2 q).2 key = some j → j.within := fun hq hw key j hj => mem2_within hw j (atK_some_mem (mem2_ok hq).2.1 hj).2
 refine opt_parts fun x hx ih hxw o y ho hy hyw way z hz => ?_
 by_cases h1 : x = y ∨ y = o
 ·rw [three_alike h1] at hz; exact fit_within z (hxw z hz)
 by_cases h2 : x = o
 ·rw [three_other h1 h2] at hz; exact fit_within z (hyw z hz)
 by_cases h3 : sortO x = 6 ∧ sortO y = 6
 ·rw [three_both h1 h2 h3.1 h3.2] at hz
  injection hz with hz
  subst hz
  refine .mk _ (fun h => absurd rfl h) fun _ u hu => ?_
  obtain ⟨q, hq, rfl⟩ := List.mem_map.1 (show u ∈ (keyed (fun key => (threeF o x y way key).1) (unionT o x y)).map (·.2) from hu)
  exact ih h3.1 q.1 (hat hx hxw q.1) _ _ ho.at hy.at (hat hy hyw q.1) _ _ (keyed_mem.1 hq).2
 rw [three_clash h1 h2 h3] at hz; exact fit_within z (hxw z hz)
def ThreePost (D : Nat → Prop) (w : World) (z : JV) (xs : List ByteArray) (e : Ending) (w' : World) : Prop :=
 ((∃ q v A n c, e = .returned (.tuple #[.pointer (some ⟨q, 0, none⟩), .slice A n c, .nilIface]) ∧ TreeAt (fun i => D i ∨ w.heap.size ≤ i) w' q v z ∧ z.within ∧ Rd w' A n (xs.map .string) ∧ xs.length = n) ∨ (e = .returned (.tuple #[.pointer none, .slice none 0 0, errE 3]) ∧ ¬ z.within)) ∧ Keeps (fun _ => False) w w'
theorem three_tree {D : Nat → Prop} (w : World) (q0 q1 q2 : Nat) (v0 v1 v2 : Value) (o x y : JV) (h0 : TreeAt D w q0 v0 o) (h1 : TreeAt D w q1 v1 x) (h2 : TreeAt D w q2 v2 y) (ho : JOk o) (hx : JOk x) (hy : JOk y) (hwo : o.within) (hwx : x.within) (hwy : y.within) (hmax : MaxAt w) (z : JV) (hz : (three (some o) (some x) (some y) []).1 = some z) :
  Calls Tryz.prog 9 #[.pointer (some ⟨q0, 0, none⟩), .pointer (some ⟨q1, 0, none⟩), .pointer (some ⟨q2, 0, none⟩)] w (ThreePost D w z (three (some o) (some x) (some y) []).2) := by
 obtain ⟨T0, y0, hv0⟩ := h0.2.2.iface
 obtain ⟨T1, y1, hv1⟩ := h1.2.2.iface
 obtain ⟨T2, y2, hv2⟩ := h2.2.2.iface
 subst hv0 hv1 hv2
 have k1 : Keeps (fun _ => False) w (w.alloc (.cells #[.pointer (some ⟨q0, 0, none⟩), .pointer (some ⟨q1, 0, none⟩), .pointer (some ⟨q2, 0, none⟩)] 26)) := (Keeps.refl _ w).alloc _
 have HNO : Hid (Calls Tryz.prog 27 #[.slice (some ⟨w.heap.size, 0, none⟩) 3 3] (w.alloc (.cells #[.pointer (some ⟨q0, 0, none⟩), .pointer (some ⟨q1, 0, none⟩), .pointer (some ⟨q2, 0, none⟩)] 26)) fun e w' => e = .returned .nilIface ∧ Keeps (fun _ => False) w w') :=
  H_ ((none_any _ (some ⟨w.heap.size, 0, none⟩) 3 3 [some ⟨q0, 0, none⟩, some ⟨q1, 0, none⟩, some ⟨q2, 0, none⟩] ⟨rfl, fun _ => ⟨_, 0, rfl, fun j _ => by rw [Nat.zero_add]; exact (Blk.new w 26 [.pointer (some ⟨q0, 0, none⟩), .pointer (some ⟨q1, 0, none⟩), .pointer (some ⟨q2, 0, none⟩)]).cell j⟩⟩ (by omega)).mono fun e w' h => ⟨h.1, h.2 ▸ k1⟩)
 have HT := H_ (And.intro h0 (And.intro h1 h2))
 have HJ := H_ (And.intro ho (And.intro hx (And.intro hy (And.intro hwo (And.intro hwx (And.intro hwy hmax))))))
 obtain ⟨xs, hxs⟩ : ∃ xs, xs = (three (some o) (some x) (some y) []).2 := ⟨_, rfl⟩
 rw [← hxs]
 have HZ := H_ (And.intro hz hxs)
 have HSZ : Hid (JOk z ∧ Fit z ∧ z.nodes ≤ 1048576 ∧ z.bytes ≤ 1099511627776 ∧ xs.length ≤ 131072) := H_ (by
  have w1 : ow JV.nodes (some z) ≤ ow JV.nodes (some x) + ow JV.nodes (some y) := by rw [← hz]; exact three_weight weight_nodes _ (OOk.one hx) _ _ (OOk.one ho) (OOk.one hy) _
  have w2 : ow JV.bytes (some z) ≤ ow JV.bytes (some x) + ow JV.bytes (some y) := by rw [← hz]; exact three_weight weight_bytes _ (OOk.one hx) _ _ (OOk.one ho) (OOk.one hy) _
  have w3 := three_few _ (OOk.one hx) (some o) (some y) (OOk.one ho) (OOk.one hy) []
  rw [← hxs] at w3
  have w4 : z.nodes ≤ x.nodes + y.nodes := w1
  have w5 : z.bytes ≤ x.bytes + y.bytes := w2
  have w6 : xs.length ≤ x.nodes + y.nodes := w3
  have := hwx.1; have := hwx.2.1; have := hwy.1; have := hwy.2.1
  exact ⟨three_ok _ (OOk.one hx) _ _ (OOk.one ho) (OOk.one hy) _ z hz, three_fit _ (OOk.one hx) (fun j e => by injection e with e; rw [← e]; exact hwx) _ _ (OOk.one ho) (OOk.one hy) (fun j e => by injection e with e; rw [← e]; exact hwy) _ z hz, by omega, by omega, by omega⟩)
 have hmf : ∀ (fn : Fn) (first cap : Array Value) (w : World), (Instr.makeFunc fn first cap).run Tryz.prog w = .ok (.func fn first cap) w := fun _ _ _ _ => rfl
 have HGL : Hid (1 < w.heap.size) := H_ (by
  obtain ⟨mg, hmg⟩ := hmax
  exact World.block_lt_of_cell? w _ hmg)
 clear h0 h1 h2 ho hx hy hwo hwx hwy hz hxs hmax
 go_enter Tryz.func9, Tryz.ntmps9
 go_upto_region 7 with (go_at_call 27; refine HNO.out.mono ?_; rintro e w1 ⟨rfl, hk1⟩; have HK1 := H_ hk1; clear hk1)
 obtain ⟨cc, hcc⟩ : ∃ b, b = w1.heap.size := ⟨_, rfl⟩
 obtain ⟨ct, hct⟩ : ∃ b, b = w1.heap.size + 1 := ⟨_, rfl⟩
 rw [← hct, ← hcc]
 refine gen_codeF (fun W => Keeps (fun _ => False) w1 W ∧ CSt W.heap.size W cc ct none 0 0 []) ?_ ?_
 ·refine ⟨((Keeps.refl _ w1).alloc _).alloc _, ?_⟩
  have b1 := (Blk.new w1 29 [.slice none 0 0]).alloc (.cells #[.func (.func 28) #[] #[.pointer (some ⟨cc, 0, none⟩), .pointer (some ⟨ct, 0, none⟩)]] 69)
  have b2 := Blk.new (w1.alloc (.cells #[.slice none 0 0] 29)) 69 [.func (.func 28) #[] #[.pointer (some ⟨cc, 0, none⟩), .pointer (some ⟨ct, 0, none⟩)]]
  rw [World.size_alloc, ← hct] at b2
  rw [← hcc] at b1
  exact ⟨b1, b2, ⟨World.ownsRow_nil _ 0 _ 1, backW_keeps (Nat.le_refl _), fun g h => by simp [Value.ownBlock] at h⟩, ⟨b1.lt, b2.lt, Nat.le_refl _⟩, by omega⟩
 rintro w2 ⟨k12, hst⟩
 have HLO : Hid (w.heap.size ≤ cc ∧ cc < w2.heap.size ∧ ct = cc + 1) := H_ ⟨by rw [hcc]; exact HK1.out.size, hst.lo.1, by omega⟩
 have HST := H_ hst
 have HK2 := H_ (HK1.out.trans k12 fun _ _ h => h)
 have HFN : Hid (∀ W, Keeps (fun _ => False) w2 W → W.cell? ⟨ct, 0, none⟩ = some (.func (.func 28) #[] #[.pointer (some ⟨cc, 0, none⟩), .pointer (some ⟨ct, 0, none⟩)])) := H_ fun W hW => (hst.stay hW).fn.cell 0
 have root : ∀ {q : Nat} {T : TypeId} {yv : Value} {j : JV}, TreeAt D w q (.iface T yv) j → Hid (∀ W, Keeps (fun _ => False) w2 W → Calls Tryz.prog 38 #[.pointer (some ⟨q, 0, none⟩)] W fun e w' => e = .returned (.agg #[.iface T yv]) ∧ Hid (Keeps (fun _ => False) w2 w' ∧ Keeps (fun _ => False) W w')) := fun {q T yv j} h => H_ fun W hW => (root_any _ q T yv (hW.blk (HK2.out.blk h.2.1 (fun h => h)) (fun h => h))).mono fun e w' h => ⟨h.1, H_ ⟨hW.trans h.2 fun _ _ h => h, h.2⟩⟩
 have thing : ∀ {q : Nat} {T : TypeId} {yv : Value} {j : JV}, TreeAt D w q (.iface T yv) j → JOk j → j.within → Hid (∀ W, Keeps (fun _ => False) w2 W → Calls Tryz.prog 37 #[.agg #[.iface T yv]] W fun e w' => ∃ t, e = .returned t ∧ Hid (TAtR (fun i => (D i ∧ i < w.heap.size) ∨ w2.heap.size ≤ i) w' t j ∧ Keeps (fun _ => False) w2 w' ∧ Keeps (fun _ => False) W w')) := fun {q T yv j} h hj hw => H_ fun W hW => (ofR_any j hj (Nat.le_trans hw.1 (by decide)) (fun i => D i ∧ i < w.heap.size) W _ (((h.2.2.mono (C := fun i => D i ∧ i < w.heap.size) fun i h1 h2 => ⟨h1, h2⟩).stay HK2.out).stay hW)).mono fun e w' hh => by
  obtain ⟨t, he, ht, hk⟩ := hh
  exact ⟨t, he, H_ ⟨ht.mono fun i hi _ => hi.imp id fun h => Nat.le_trans hW.size h, hW.trans hk fun _ _ h => h, hk⟩⟩
 have HR0 := root HT.out.1
 have HR1 := root HT.out.2.1
 have HR2 := root HT.out.2.2
 have HO0 := thing HT.out.1 HJ.out.1 HJ.out.2.2.2.1
 have HO1 := thing HT.out.2.1 HJ.out.2.1 HJ.out.2.2.2.2.1
 have HO2 := thing HT.out.2.2 HJ.out.2.2.1 HJ.out.2.2.2.2.2.1
 have HTG : Hid (∀ W t0 t1 t2, Keeps (fun _ => False) w2 W → TAtR (fun i => (D i ∧ i < w.heap.size) ∨ w2.heap.size ≤ i) W t0 o → TAtR (fun i => (D i ∧ i < w.heap.size) ∨ w2.heap.size ≤ i) W t1 x → TAtR (fun i => (D i ∧ i < w.heap.size) ∨ w2.heap.size ≤ i) W t2 y → Calls Tryz.prog 28 #[t0, t1, t2, .slice none 0 0, .pointer (some ⟨cc, 0, none⟩), .pointer (some ⟨ct, 0, none⟩)] W fun e w' => ∃ t A n c, e = .returned t ∧ Hid (CSt w2.heap.size w' cc ct A n c xs ∧ TAt (fun i => D i ∨ w.heap.size ≤ i) w' t z ∧ Keeps (fun _ => False) w w')) := H_ fun W t0 t1 t2 hW a0 a1 a2 => by
  have hlo := HLO.out
  have hjw := HJ.out.2.2.2
  have hgl := HGL.out
  refine (tog_any (m0 := w2.heap.size) (some x) (OOk.one HJ.out.2.1) 0 (D := fun i => (D i ∧ i < w.heap.size) ∨ w2.heap.size ≤ i) (A := none) (n := 0) (c := 0) (xs := []) (o := some o) (y := some y) (way := []) ⟨HST.out.stay hW, fun i hi e => ?_, a0, a1, a2, OOk.one HJ.out.1, OOk.one HJ.out.2.1, OOk.one HJ.out.2.2.1, ⟨rfl, fun h => absurd h (Nat.lt_irrefl 0)⟩, fun h => absurd h (Nat.lt_irrefl 0), rfl, fun s hs => absurd hs List.not_mem_nil, ?_, (hjw.2.2.2.stay HK2.out).stay hW, ?_, ?_, ?_, ?_, ⟨by omega, by omega⟩⟩).mono ?_
  ·rcases e with e | e
   ·rcases hi with hi | hi <;> omega
   simp [Value.ownBlock] at e
  ·show 0 + x.deep ≤ 65536
   have := hjw.2.1.2.2
   omega
  ·exact fun j e => by injection e with e; rw [← e]; exact ⟨hjw.1.1, hjw.1.2.1⟩
  ·exact fun j e => by injection e with e; rw [← e]; exact ⟨hjw.2.1.1, hjw.2.1.2.1⟩
  ·exact fun j e => by injection e with e; rw [← e]; exact ⟨hjw.2.2.1.1, hjw.2.2.1.2.1⟩
  ·show 0 + x.nodes + y.nodes ≤ 1073741824
   have := hjw.2.1.1
   have := hjw.2.2.1.1
   omega
  rintro e w' ⟨t, A', n', c', he, hs, ht, hk, _⟩
  rw [HZ.out.1] at ht
  rw [← HZ.out.2, List.nil_append] at hs
  have ht' : TAt (TE (fun i => (D i ∧ i < w.heap.size) ∨ w2.heap.size ≤ i) W cc A' n' c') w' t z := ht
  have hsz := HK2.out.size
  have hsW := hW.size
  refine ⟨t, A', n', c', he, H_ ⟨hs, ht'.mono fun i hi _ => ?_, (HK2.out.trans hW fun _ _ h => h).trans hk fun i hi e => ?_⟩⟩
  ·rcases hi.1 with (h | h) | h
   ·exact .inl h.1
   ·exact .inr (by omega)
   exact .inr (by omega)
  rcases e with e | e
  ·omega
  simp [Value.ownBlock] at e
 have HTR : Hid (∀ W t, Keeps (fun _ => False) w W → TAt (fun i => D i ∨ w.heap.size ≤ i) W t z → Calls Tryz.prog 36 #[t] W fun e w' => ∃ p x, e = .returned (.tuple #[p, x]) ∧ Hid (((∃ q v, p = .pointer (some ⟨q, 0, none⟩) ∧ x = .nilIface ∧ TreeAt (fun i => D i ∨ w.heap.size ≤ i) w' q v z ∧ z.within) ∨ (p = .pointer none ∧ x = errE 3 ∧ ¬ z.within)) ∧ Keeps (fun _ => False) W w')) := H_ fun W t hW ht => (tree_any W t _ ht HSZ.out.1 HSZ.out.2.1 HSZ.out.2.2.1 HSZ.out.2.2.2.1).mono fun e w' hh => by
  obtain ⟨⟨q, v, he, ht, hw⟩ | ⟨he, hw⟩, hk⟩ := hh
  ·exact ⟨_, _, he, H_ ⟨.inl ⟨q, v, rfl, rfl, ⟨ht.1.elim id fun h => .inr (Nat.le_trans hW.size h), ht.2.1, ht.2.2.mono fun i hi _ => hi.elim id fun h => .inr (Nat.le_trans hW.size h)⟩, hw⟩, hk⟩⟩
  exact ⟨_, _, he, H_ ⟨.inr ⟨rfl, rfl, hw⟩, hk⟩⟩
 clear root thing hst k12 hcc hct
 refine wp_region_held_drew (S := fun V => V.cell? ⟨ct, 0, none⟩ = some (.func (.func 28) #[] #[.pointer (some ⟨cc, 0, none⟩), .pointer (some ⟨ct, 0, none⟩)])) (by kernel_rfl) (HFN.out _ (Keeps.refl _ _).drew) (fun h_ => ?_)
 refine tI 0 24 h_ ?_ (hy := .inl ⟨by rfl, by intro w' hSw; have cf := hSw; go_simp; first | done | rfl⟩)
 try simp only [pu]
 refine tI 1 25 h_ ?_
 try simp only [pu]
 refine tI 4 28 h_ ?_
 try simp only [pu]
 refine tI 7 31 h_ ?_
 try simp only [pu]
 refine rH 2 (some 26) fun K hK => ?_
 go_simp
 refine (HR0.out _ (Keeps.refl _ _).drew).mono ?_
 rintro e u2 ⟨rfl, A2⟩
 refine hK.out _ _ (HFN.out _ A2.out.1) (fun h_ => ?_)
 clear hK K
 try simp only [pu]
 refine rH 3 (some 27) fun K hK => ?_
 go_simp
 refine (HO0.out _ A2.out.1).mono ?_
 rintro e u3 ⟨t3, rfl, A3⟩
 refine hK.out _ _ (HFN.out _ A3.out.2.1) (fun h_ => ?_)
 clear hK K
 try simp only [pu]
 refine rH 5 (some 29) fun K hK => ?_
 go_simp
 refine (HR1.out _ A3.out.2.1).mono ?_
 rintro e u5 ⟨rfl, A5⟩
 refine hK.out _ _ (HFN.out _ A5.out.1) (fun h_ => ?_)
 clear hK K
 try simp only [pu]
 refine rH 6 (some 30) fun K hK => ?_
 go_simp
 refine (HO1.out _ A5.out.1).mono ?_
 rintro e u6 ⟨t6, rfl, A6⟩
 refine hK.out _ _ (HFN.out _ A6.out.2.1) (fun h_ => ?_)
 clear hK K
 try simp only [pu]
 refine rH 8 (some 32) fun K hK => ?_
 go_simp
 refine (HR2.out _ A6.out.2.1).mono ?_
 rintro e u8 ⟨rfl, A8⟩
 refine hK.out _ _ (HFN.out _ A8.out.1) (fun h_ => ?_)
 clear hK K
 try simp only [pu]
 refine rH 9 (some 33) fun K hK => ?_
 go_simp
 refine (HO2.out _ A8.out.1).mono ?_
 rintro e u9 ⟨t9, rfl, A9⟩
 refine hK.out _ _ (HFN.out _ A9.out.2.1) (fun h_ => ?_)
 clear hK K
 try simp only [pu]
 refine rH 10 (some 34) fun K hK => ?_
 go_simp
 refine (HTG.out _ t3 t6 t9 A9.out.2.1 ((((A3.out.1.stay A5.out.2).stay A6.out.2.2).stay A8.out.2).stay A9.out.2.2) ((A6.out.1.stay A8.out.2).stay A9.out.2.2) A9.out.1).mono ?_
 rintro e u10 ⟨t10, A, n, c, rfl, A10⟩
 refine hK.out _ _ (A10.out.1.fn.cell 0) (fun h_ => ?_)
 clear hK K
 try simp only [pu]
 refine rH 11 (some 35) fun K hK => ?_
 go_simp
 refine (HTR.out _ t10 A10.out.2.2 A10.out.2.1).mono ?_
 rintro e u11 ⟨p11, x11, rfl, A11⟩
 refine hK.out _ _ ((A10.out.1.stay A11.out.2).fn.cell 0) (fun h_ => ?_)
 clear hK K
 try simp only [pu]
 refine tI 12 23 h_ ?_
 try simp only [pu]
 refine tI 13 36 h_ ?_
 try simp only [pu]
 refine tI 14 37 h_ ?_
 try simp only [pu]
 refine tI 15 12 h_ ?_
 try simp only [pu]
 refine tI 16 13 h_ ?_
 try simp only [pu]
 refine wpAnyH_done (by kernel_rfl) ?_ _
 have HC := H_ (A10.out.1.stay A11.out.2)
 have HKE := H_ (A10.out.2.2.trans A11.out.2 fun _ _ h => h)
 rcases A11.out.1 with ⟨q, v, rfl, rfl, ht, hw⟩ | ⟨rfl, rfl, hw⟩
 ·have HTW := H_ (And.intro ht hw)
  have HCC : Hid (∀ W, Keeps (fun _ => False) u11 W → W.cell? ⟨cc, 0, none⟩ = some (.slice A n c)) := H_ fun W hW => (HC.out.stay hW).blk.cell 0
  clear ht hw
  go_upto_region 10 with fail
  refine wp_region_held_drew (S := fun V => V.cell? ⟨cc, 0, none⟩ = some (.slice A n c)) (by kernel_rfl) (HCC.out _ (Keeps.refl _ _).drew) (fun h_ => ?_)
  refine tI 0 41 h_ ?_
  try simp only [pu]
  refine tI 1 42 h_ ?_ (hy := .inl ⟨by rfl, by intro w' hSw; have cf := hSw; go_simp; first | done | rfl⟩)
  try simp only [pu]
  refine tI 2 6 h_ ?_
  try simp only [pu]
  refine tI 3 7 h_ ?_
  try simp only [pu]
  refine tI 4 8 h_ ?_
  try simp only [pu]
  refine wpAnyH_done (by kernel_rfl) ?_ _
  go_wp2
  go_ret3
  exact ⟨.inl ⟨q, v, A, n, c, rfl, HTW.out.1.stay (Keeps.refl _ _).drew, HTW.out.2, (HC.out.stay (Keeps.refl _ _).drew).read, HC.out.len⟩, HKE.out.trans (Keeps.refl _ _).drew fun _ _ h => h⟩
 have HTW := H_ hw
 clear hw
 unfold errE
 go_wp2
 go_ret3
 exact ⟨.inr ⟨rfl, HTW.out⟩, HKE.out⟩
end Go.Proofs.YtdmcioghdindfaaGreatDoor
namespace Go.Json
def keyA : ByteArray := ⟨#[97]⟩
def keyB : ByteArray := ⟨#[98]⟩
def nullsV (n : Nat) : JV := .list (List.replicate n .null)
def objN (key : ByteArray) (n : Nat) : JV := .obj [key] [nullsV n]
def objE : JV := .obj [] []
def objAB (m n : Nat) : JV := .obj [keyA, keyB] [nullsV m, nullsV n]
def stepsN (key : ByteArray) (n : Nat) : List StepV := List.replicate n (step0 1) ++ [{ step0 5 with count := n }, { step0 6 with keys := [key] }]
theorem sumN_rep (a : Nat) : ∀ n, sumN (List.replicate n a) = n * a
 | 0 => by simp [sumN]
 | n + 1 => by rw [List.replicate_succ]; simp only [sumN, sumN_rep a n]; rw [Nat.succ_mul]; omega
theorem maxN_rep : ∀ n, maxN (List.replicate n 1) ≤ 1
 | 0 => by simp [maxN]
 | n + 1 => by rw [List.replicate_succ]; have := maxN_rep n; simp only [maxN]; omega
theorem nullsV_nodes (n : Nat) : (nullsV n).nodes = n + 1 := by
 unfold nullsV
 rw [JV.nodes, List.map_replicate]
 rw [show JV.null.nodes = 1 by simp [JV.nodes], sumN_rep]; omega
theorem nullsV_bytes (n : Nat) : (nullsV n).bytes = 0 := by
 unfold nullsV
 rw [JV.bytes, List.map_replicate]
 rw [show JV.null.bytes = 0 by simp [JV.bytes], sumN_rep]; omega
theorem nullsV_deep (n : Nat) : (nullsV n).deep ≤ 2 := by
 unfold nullsV
 rw [JV.deep, List.map_replicate]
 rw [show JV.null.deep = 1 by simp [JV.deep]]
 have := maxN_rep n
 omega
theorem nullsV_within {n : Nat} (h : n + 1 ≤ 65536) : (nullsV n).within := ⟨by rw [nullsV_nodes]; exact h, by rw [nullsV_bytes]; omega, by have := nullsV_deep n; omega⟩
theorem objN_nodes (key : ByteArray) (n : Nat) : (objN key n).nodes = n + 2 := by simp [objN, JV.nodes, sumN, nullsV_nodes]; omega
theorem objN_bytes (key : ByteArray) (n : Nat) : (objN key n).bytes = key.size := by simp [objN, JV.bytes, sumN, nullsV_bytes]
theorem objN_within {key : ByteArray} {n : Nat} (hk : key.size ≤ 100) (h : n + 2 ≤ 65536) : (objN key n).within := by
 refine ⟨by rw [objN_nodes]; exact h, by rw [objN_bytes]; omega, ?_⟩
 have := nullsV_deep n
 simp only [objN, JV.deep, List.map_cons, List.map_nil, maxN]
 omega
theorem objE_within : objE.within := by unfold JV.within objE; simp [JV.nodes, JV.bytes, JV.deep, sumN, maxN]
theorem nullW : JV.null.within := by unfold JV.within; simp [JV.nodes, JV.bytes, JV.deep]
theorem objAB_nodes (m n : Nat) : (objAB m n).nodes = m + n + 3 := by simp [objAB, JV.nodes, sumN, nullsV_nodes]; omega
theorem objAB_bytes (m n : Nat) : (objAB m n).bytes = 2 := by simp [objAB, JV.bytes, sumN, nullsV_bytes]; rfl
theorem objAB_deep (m n : Nat) : (objAB m n).deep ≤ 3 := by
 have := nullsV_deep n
 have := nullsV_deep m
 simp only [objAB, JV.deep, List.map_cons, List.map_nil, maxN]
 omega
theorem objAB_within {m n : Nat} : (objAB m n).within ↔ m + n + 3 ≤ 65536 := by
 refine ⟨fun h => by rw [← objAB_nodes]; exact h.1, fun h => ⟨by rw [objAB_nodes]; exact h, by rw [objAB_bytes]; omega, by have := objAB_deep m n; omega⟩⟩
theorem doF_null (P : List JV) : doF P (step0 1) = .inr (P ++ [.null]) := by
 have h1 : usedF (step0 1) = true := by decide
 have h2 : rightS (step0 1).text = true := by decide
 have h3 := nullW
 unfold doF
 rw [h1, h2]
 simp [step0, mkV, h3]
theorem rowF_nulls (l : List StepV) : ∀ (n i : Nat) (P : List JV), rowF i P (List.replicate n (step0 1) ++ l) = rowF (i + n) (P ++ List.replicate n .null) l
 | 0, i, P => by simp
 | n + 1, i, P => by
  rw [List.replicate_succ, List.cons_append]
  show (match doF P (step0 1) with | .inl e => Sum.inl (e, i) | .inr P' => rowF (i + 1) P' (List.replicate n (step0 1) ++ l)) = _
  rw [doF_null]
  show rowF (i + 1) (P ++ [.null]) (List.replicate n (step0 1) ++ l) = _
  rw [rowF_nulls l n (i + 1) (P ++ [JV.null]), List.append_assoc, List.singleton_append, ← List.replicate_succ]
  congr 1
  omega
theorem doF_list (n : Nat) (h : n + 1 ≤ 65536) : doF (List.replicate n .null) { step0 5 with count := (n : Int) } = .inr [nullsV n] := by
 have h2 : rightS ByteArray.empty = true := by decide
 have hw : (JV.list (List.replicate n .null)).within := nullsV_within h
 have h1 : usedF { step0 5 with count := (n : Int) } = true := by
  unfold usedF step0
  simp
 unfold doF
 rw [h1]
 simp [step0, mkV, h2, hw, nullsV]
theorem doF_obj (key : ByteArray) (n : Nat) (hr : rightS key = true) (hk : key.size ≤ 100) (h : n + 2 ≤ 65536) : doF [nullsV n] { step0 6 with keys := [key] } = .inr [objN key n] := by
 have h2 : rightS ByteArray.empty = true := by decide
 have hw : (JV.obj [key] [nullsV n]).within := objN_within hk h
 have h1 : usedF { step0 6 with keys := [key] } = true := by
  unfold usedF step0
  simp
 unfold doF
 rw [h1]
 simp [step0, mkV, mkObj, sortM, insM, h2, hw, hr, objN]
theorem buildF_nulls (key : ByteArray) (n : Nat) (hr : rightS key = true) (hk : key.size ≤ 100) (h : n + 2 ≤ 65536) : buildF (stepsN key n) = .inr (objN key n) := by
 have hl : (stepsN key n).length = n + 2 := by simp [stepsN]
 unfold buildF
 rw [if_neg (by omega)]
 unfold stepsN
 rw [rowF_nulls, List.nil_append]
 unfold rowF
 rw [doF_list n (by omega)]
 show (match rowF (0 + n + 1) [nullsV n] [{ step0 6 with keys := [key] }] with | .inl (e, i) => Sum.inl (e, some i) | .inr P => match P with | [v] => .inr v | _ => .inl (103, some _)) = _
 unfold rowF
 rw [doF_obj key n hr hk h]
 rfl
theorem buildF_empty : buildF [step0 6] = .inr objE := by
 have h1 : usedF (step0 6) = true := by decide
 have h2 : rightS ByteArray.empty = true := by decide
 have h3 := objE_within
 have hd : doF [] (step0 6) = .inr [objE] := by
  unfold doF
  rw [h1]
  simp [step0, mkV, mkObj, sortM, h2, objE] at h3 ⊢
  exact h3
 unfold buildF
 rw [if_neg (by decide)]
 unfold rowF
 rw [hd]
 rfl
theorem keys_ab : keyA ≠ keyB := by decide
theorem lt_ab : ltS keyA keyB := by decide
theorem null_jok : ∀ n, JOk (nullsV n) := fun n => .mk _ (by simp [nullsV, JV.items, JV.keys]) (fun h => by cases h) .nil (fun k hk => by cases hk) (by show rightS ByteArray.empty = true; decide) fun x hx => by
 have : x = .null := (List.mem_replicate.1 (show x ∈ List.replicate n .null from hx)).2
 rw [this]
 exact .mk .null (Nat.le_refl _) (fun h => by cases h) .nil (fun k hk => by cases hk) (by show rightS ByteArray.empty = true; decide) fun x hx => by cases hx
theorem objE_ok : JOk objE := JOk.obj rfl .nil (fun k hk => by cases hk) fun x hx => by cases hx
theorem objN_ok {key : ByteArray} (hr : rightS key = true) (n : Nat) : JOk (objN key n) := JOk.obj rfl (List.pairwise_singleton _ _) (fun k hk => by rw [List.mem_singleton.1 hk]; exact hr) fun x hx => by rw [List.mem_singleton.1 hx]; exact null_jok n
theorem right_a : rightS keyA = true := by decide
theorem right_b : rightS keyB = true := by decide
theorem objAB_ok (m n : Nat) : JOk (objAB m n) := JOk.obj rfl (List.pairwise_cons.2 ⟨fun k hk => by rw [List.mem_singleton.1 hk]; exact lt_ab, List.pairwise_singleton _ _⟩) (fun k hk => by
  simp only [List.mem_cons, List.not_mem_nil, or_false] at hk
  rcases hk with rfl | rfl
  ·exact right_a
  ·exact right_b) fun x hx => by
  simp only [List.mem_cons, List.not_mem_nil, or_false] at hx
  rcases hx with rfl | rfl <;> exact null_jok _
theorem union_one (key : ByteArray) : unionK [key] = [key] := unionK_eq (List.pairwise_singleton _ _) fun _ => Iff.rfl
theorem union_nil : unionK [] = [] := unionK_eq .nil fun _ => Iff.rfl
theorem union_ab : unionK [keyA, keyB] = [keyA, keyB] := unionK_eq (List.pairwise_cons.2 ⟨fun k hk => by rw [List.mem_singleton.1 hk]; exact lt_ab, List.pairwise_singleton _ _⟩) fun _ => Iff.rfl
theorem at_same (key : ByteArray) (y : JV) : atK [key] [y] key = some y := by rw [atK_cons, if_pos rfl]
theorem at_not {key k : ByteArray} (y : JV) (h : key ≠ k) : atK [key] [y] k = none := by rw [atK_cons, if_neg h, atK_nil]
theorem nulls_lay (n : Nat) (o : Option JV) : (nullsV n).lay o = nullsV n := lay_whole _ _ (by show (5 : Int) ≠ 6; decide)
theorem lay_empty : objE.lay (some objE) = objE := by
 unfold objE
 rw [lay_obj, layM_eq]
 show JV.obj ((keyed _ (unionK [])).map _) ((keyed _ (unionK [])).map _) = _
 rw [union_nil]
 rfl
theorem lay_first (key : ByteArray) (n : Nat) : (objN key n).lay (some objE) = objN key n := by
 unfold objN objE
 rw [lay_obj, layM_eq]
 show JV.obj ((keyed _ (unionK [key])).map _) ((keyed _ (unionK [key])).map _) = _
 rw [union_one]
 have h : layF [key] [nullsV n] (some (.obj [] [])) key = some (nullsV n) := by
  rw [layF_some (at_same key _), if_neg (by show ¬ ((5 : Int) = 1); decide), nulls_lay]
 simp [keyed, h]
theorem lay_both (m n : Nat) : (objN keyB n).lay (some (objN keyA m)) = objAB m n := by
 unfold objN objAB
 rw [lay_obj, layM_eq]
 show JV.obj ((keyed _ (unionK [keyA, keyB])).map _) ((keyed _ (unionK [keyA, keyB])).map _) = _
 rw [union_ab]
 have h1 : layF [keyB] [nullsV n] (some (.obj [keyA] [nullsV m])) keyA = some (nullsV m) := by
  rw [layF_none (at_not _ keys_ab.symm)]
  exact at_same keyA _
 have h2 : layF [keyB] [nullsV n] (some (.obj [keyA] [nullsV m])) keyB = some (nullsV n) := by
  rw [layF_some (at_same keyB _), if_neg (by show ¬ ((5 : Int) = 1); decide), nulls_lay]
 simp [keyed, h1, h2]
theorem three_ab (m n : Nat) : three (some objE) (some (objN keyA m)) (some (objN keyB n)) [] = (some (objAB m n), []) := by
 have e1 : ¬ (some (objN keyA m) = some (objN keyB n) ∨ some (objN keyB n) = some objE) := fun e => by
  rcases e with e | e
  ·injection e with e
   unfold objN at e
   injection e with e
   injection e with e
   exact keys_ab e
  injection e with e
  unfold objN objE at e
  injection e with e
  cases e
 have e2 : some (objN keyA m) ≠ some objE := fun e => by
  injection e with e
  unfold objN objE at e
  injection e with e
  cases e
 rw [three_both e1 e2 rfl rfl]
 have hu : unionT (some objE) (some (objN keyA m)) (some (objN keyB n)) = [keyA, keyB] := union_ab
 have f1 : threeF (some objE) (some (objN keyA m)) (some (objN keyB n)) [] keyA = (some (nullsV m), []) := by
  unfold threeF
  show three (atK [] [] keyA) (atK [keyA] [nullsV m] keyA) (atK [keyB] [nullsV n] keyA) _ = _
  rw [atK_nil, at_same, at_not _ keys_ab.symm]
  exact three_alike (.inr rfl)
 have f2 : threeF (some objE) (some (objN keyA m)) (some (objN keyB n)) [] keyB = (some (nullsV n), []) := by
  unfold threeF
  show three (atK [] [] keyB) (atK [keyA] [nullsV m] keyB) (atK [keyB] [nullsV n] keyB) _ = _
  rw [atK_nil, at_same, at_not _ keys_ab]
  exact three_other (fun e => e.elim (fun e => by cases e) fun e => by cases e) rfl
 rw [hu]
 simp [keyed, f1, f2, objAB]
end Go.Json
namespace Go.Aff
open Go Go.RowKit
theorem fold_off (off : Nat) (vs : List Value) : ∀ (j : Nat) (cs : Array Value), List.foldl (fun (cs : Array Value) (x : Value × Nat) => cs.setIfInBounds (off + x.snd) x.fst) cs (vs.zipIdx j) = List.foldl (fun (cs : Array Value) (x : Value × Nat) => cs.setIfInBounds x.snd x.fst) cs (vs.zipIdx (off + j)) := by
 induction vs with
 | nil => intro j cs; rfl
 | cons v vs ih =>
  intro j cs
  rw [List.zipIdx_cons, List.zipIdx_cons, List.foldl_cons, List.foldl_cons, ih (j + 1)]
  rfl
theorem fill_rows (sz : Nat) : ∀ (rows : List (List Value)) (k : Nat) (pre post : List Value), (∀ r ∈ rows, r.length = sz) → pre.length = k * sz → post.length = rows.length * sz →
  Instr.fill (fun i => some (i * sz, sz)) (pre ++ post).toArray ((rows.zipIdx k).map fun p => (p.2, .agg p.1.toArray)) = some (pre ++ rows.flatten).toArray
 | [], k, pre, post, _, hp, hq => by
  have : post = [] := List.eq_nil_of_length_eq_zero (by rw [hq]; simp)
  subst this
  simp [Instr.fill]
 | r :: rows, k, pre, post, hr, hp, hq => by
  have hl := hr r (List.mem_cons_self ..)
  have hq' : post.length = rows.length * sz + sz := by rw [hq, List.length_cons, Nat.succ_mul]
  have hf : List.foldl (fun (cs : Array Value) (x : Value × Nat) => cs.setIfInBounds (k * sz + x.snd) x.fst) (pre ++ post).toArray r.zipIdx = ((pre ++ r) ++ post.drop sz).toArray := by
   rw [fold_off, Nat.add_zero, fold_zipB r (k * sz) (pre ++ post).toArray (by simp; omega)]
   congr 1
   have e1 : (pre ++ post).take (k * sz) = pre := by rw [← hp, List.take_left]
   have e2 : (pre ++ post).drop (k * sz + r.length) = post.drop sz := by rw [← hp, List.drop_length_add_append, hl]
   show (pre ++ post).take (k * sz) ++ r ++ (pre ++ post).drop (k * sz + r.length) = _
   rw [e1, e2]
  rw [List.zipIdx_cons, List.map_cons]
  have hcs : (Value.agg r.toArray).cells = r.toArray := rfl
  show (match some (k * sz, sz) with
   | none => none
   | some (off, size) => if (Value.agg r.toArray).cells.size ≠ size || off + (Value.agg r.toArray).cells.size > (pre ++ post).toArray.size then none
    else Instr.fill (fun i => some (i * sz, sz)) ((Value.agg r.toArray).cells.zipIdx.foldl (fun cs (x : Value × Nat) => cs.setIfInBounds (off + x.2) x.1) (pre ++ post).toArray) ((rows.zipIdx (k + 1)).map fun (p : List Value × Nat) => (p.2, Value.agg p.1.toArray))) = _
  rw [hcs]
  simp only []
  have h1 : r.toArray.size = sz := by simp [hl]
  have h2 : ¬ k * sz + sz > (pre ++ post).toArray.size := by simp; omega
  rw [h1]
  simp only [ne_eq, not_true_eq_false, decide_false, Bool.false_or, decide_eq_true_eq, h2, if_false]
  rw [← Array.foldl_toList, Array.toList_zipIdx, hf, fill_rows sz rows (k + 1) (pre ++ r) (post.drop sz) (fun x hx => hr x (List.mem_cons_of_mem _ hx)) (by rw [List.length_append, hp, hl, Nat.succ_mul]) (by rw [List.length_drop, hq']; omega)]
  simp
section
variable {P : Program}
theorem run_boxes (w : World) (t e : TypeId) (z : Value) (sz n : Nat) (ht : P.underlying t = some (.slice e)) (hinfo : (P.info? e).map (fun i => (i.zero, i.size)) = some (some z, sz)) (hpos : 0 < n * sz) (hsm : n * sz ≤ 16777216) (rows : List (List Value)) (hn : rows.length = n) (hl : ∀ r ∈ rows, r.length = sz) :
  (Instr.buildSlice t n ((rows.zipIdx).map fun p => (p.2, Value.agg p.1.toArray)).toArray).run P w = .ok (.slice (some ⟨w.heap.size, 0, none⟩) n n) (w.alloc (.cells rows.flatten.toArray e)) := by
 obtain ⟨i, hi, hzi⟩ := Option.map_eq_some_iff.1 hinfo
 simp only [Prod.mk.injEq] at hzi
 refine run_buildSlice w t e n _ rows.flatten.toArray i z ht hi hzi.1 (by rw [hzi.2]; omega) (by rw [hzi.2]; omega) ?_
 rw [hzi.2]
 have h := fill_rows sz rows 0 [] (((Array.range (n * sz)).map (z.cells[· % z.cells.size]!)).toList) hl (by simp) (by simp [hn])
 rw [List.nil_append, List.nil_append, Array.toArray_toList] at h
 exact h
theorem wpList_box2_S (w : World) {ops : Array Oper} {rest : List Oper} {o : Oper} {a : Act} {Q : Exit → Act → World → Prop} (hgd : o.guard = none) (t e : TypeId) (x y : Operand) (ho : o.op = .buildSlice t 2 #[(0, x), (1, y)])
  (z : Value) (sz : Nat) (ht : P.underlying t = some (.slice e)) (hinfo : (P.info? e).map (fun i => (i.zero, i.size)) = some (some z, sz)) (hpos : 0 < sz) (hsm : 2 * sz ≤ 16777216) (SX SY : List Value) (hl : SX.length = sz) (hl2 : SY.length = sz) (hx : a.eval x = .agg SX.toArray) (hy : a.eval y = .agg SY.toArray)
  (h : wpList P ops Q rest (a.put o.dst (.slice (some ⟨w.heap.size, 0, none⟩) 2 2)) (w.alloc (.cells (SX ++ SY).toArray e))) : wpList P ops Q (o :: rest) a w :=
 wpList_plain hgd fun K hK => by
  have hr := run_boxes (P := P) w t e z sz 2 ht hinfo (by omega) hsm [SX, SY] rfl (by intro r hr; simp at hr; rcases hr with rfl | rfl <;> assumption)
  have e1 : [SX, SY].flatten = SX ++ SY := by simp
  rw [e1] at hr
  unfold Oper.wp execOp
  simp only [ho, Sem.run_bind, List.map_toArray, List.map_cons, List.map_nil, hx, hy]
  have e2 : (([SX, SY].zipIdx).map fun p => (p.2, Value.agg p.1.toArray)).toArray = #[(0, .agg SX.toArray), (1, .agg SY.toArray)] := rfl
  rw [e2] at hr
  simp only [hr, Result.andThen_ok]
  exact hK _ _ h
end
end Go.Aff
namespace Go.Proofs.YtdmcioghdindfaaGreatDoor
open Go Go.RowKit Go.Aff Go.Json
attribute [local go_sem] Oper.semAt_some
def nullC : List Value := [.int .i64 1, .bool false, .int .u64 0, .string .empty, .int .i64 0, .slice none 0 0]
theorem nullC_eq : nullC = stepV (step0 1) none 0 := rfl
theorem infoASt : (Tryz.prog.info? 53).map (fun i => (i.zero, i.size, i.bytes)) = some (some (.agg #[.int .i64 0, .bool false, .int .u64 0, .string .empty, .int .i64 0, .slice none 0 0]), 6, 72) := by kernel_rfl
theorem infoASt2 : (Tryz.prog.info? 53).map (fun i => (i.zero, i.size)) = some (some (.agg #[.int .i64 0, .bool false, .int .u64 0, .string .empty, .int .i64 0, .slice none 0 0]), 6) := by kernel_rfl
theorem rep_flat (i : Nat) : (List.replicate (i + 1) nullC).flatten = (List.replicate i nullC).flatten ++ nullC := by
 rw [List.replicate_succ', List.flatten_append]; simp
def cellsN (n bk : Nat) : List (List Value) := List.replicate n nullC ++ [[.int .i64 5, .bool false, .int .u64 0, .string .empty, .int .i64 n, .slice none 0 0], [.int .i64 6, .bool false, .int .u64 0, .string .empty, .int .i64 0, .slice (some ⟨bk, 0, none⟩) 1 1]]
theorem nulls_in {w : World} {A : Option Addr} {n : Nat} {key : ByteArray} {bk : Nat} (hr : RdS 6 w A (n + 2) (cellsN n bk).flatten) (hb : Blk w bk 9 [.string key]) : StepsIn w A (n + 2) (cellsN n bk) (stepsN key n) := by
 refine ⟨hr, by simp [stepsN], by simp [cellsN], fun i s hs => ?_⟩
 unfold stepsN at hs
 unfold cellsN
 rcases Nat.lt_or_ge i n with hi | hi
 ·rw [List.getElem?_append_left (by simpa using hi)] at hs ⊢
  rw [List.getElem?_replicate, if_pos hi] at hs ⊢
  injection hs with hs
  subst hs
  exact ⟨none, 0, by rw [nullC_eq], Rd.nil _ _, Nat.le_refl _⟩
 rw [List.getElem?_append_right (by simpa using hi)] at hs ⊢
 rw [List.length_replicate] at hs ⊢
 match h : i - n, hs with
 | 0, hs =>
  simp at hs
  subst hs
  exact ⟨none, 0, rfl, Rd.nil _ _, Nat.le_refl _⟩
 | 1, hs =>
  simp at hs
  subst hs
  exact ⟨some ⟨bk, 0, none⟩, 1, rfl, ⟨rfl, fun _ => ⟨bk, 0, rfl, fun j _ => by rw [Nat.zero_add]; exact hb.cell j⟩⟩, Nat.le_refl _⟩
 | q + 2, hs => simp at hs
theorem sumN_repl {α : Type} (f : α → Nat) (a : α) : ∀ n, sumN ((List.replicate n a).map f) = n * f a := fun n => by rw [List.map_replicate, sumN_rep]
theorem nulls_modest (key : ByteArray) (n : Nat) (hk : key.size ≤ 100) (hn : n ≤ 100000) : Modest (stepsN key n) := by
 refine ⟨?_, fun s hs => ?_, fun s hs => ?_⟩
 ·unfold stepsN
  rw [List.map_append, sumN_app, sumN_repl]
  have h1 : bulkS (step0 1) = 1 := rfl
  have h2 : bulkS { step0 5 with count := (n : Int) } = 1 := rfl
  have h3 : bulkS { step0 6 with keys := [key] } = 1 + 0 + 1 + byF [key] := rfl
  have h4 : byF [key] = key.size := by simp [byF, sumN]
  simp only [List.map_cons, List.map_nil, sumN, h1, h2, h3, h4]
  omega
 ·unfold stepsN at hs
  rcases List.mem_append.1 hs with h | h
  ·rw [(List.mem_replicate.1 h).2]; decide
  simp only [List.mem_cons, List.not_mem_nil, or_false] at h
  rcases h with rfl | rfl <;> (show 0 < 18446744073709551616; decide)
 unfold stepsN at hs
 rcases List.mem_append.1 hs with h | h
 ·rw [(List.mem_replicate.1 h).2]; decide
 simp only [List.mem_cons, List.not_mem_nil, or_false] at h
 rcases h with rfl | rfl
 ·show (n : Int) ≤ _; omega
 show (0 : Int) ≤ 9223372036854775807; decide
theorem nulls_any (w : World) (key : ByteArray) (n : Nat) (hn : n ≤ 100000) :
  Calls Tryz.prog 46 #[.string key, .int .i64 n] w fun e w' => ∃ A c bk, e = .returned (.slice A (n + 2) c) ∧ StepsIn w' A (n + 2) (cellsN n bk) (stepsN key n) ∧ Keeps (fun _ => False) w w' := by
 go_enter Tryz.func46, Tryz.ntmps46
 go_wp2
 go_loopg [5, 6] n (fun gk y t wx => ∃ (i : Nat) (L : Option Addr) (cl : Nat), i ≤ n ∧ y = .slice L i cl ∧ t = .int .i64 i ∧ gk = n - i ∧ Hid (MineS 6 w wx 53 L i cl (List.replicate i nullC).flatten))
 case atStart => exact ⟨0, none, 0, by omega, rfl, rfl, rfl, H_ (MineS.nil 6 w _)⟩
 case round =>
  obtain ⟨i, L, cl, hin, rfl, rfl, hgk, HO⟩ := hrel
  have HGK := H_ hgk
  clear hgk
  by_cases hlt : i < n
  ·have hiN : (i : Int) < (n : Int) := by omega
   go_wp2_with (first
    | ((with_reducible show wpList _ _ _ (⟨some 14, _, _, _, _, _⟩ :: _) _ _); refine wpList_box_S _ rfl 22 53 (.tmp 13) rfl (.agg #[.int .i64 0, .bool false, .int .u64 0, .string .empty, .int .i64 0, .slice none 0 0]) 6 Tryz.underlying22 infoASt2 (by decide) (by decide) nullC rfl rfl ?_)
    | ((with_reducible show wpList _ _ _ (⟨some 15, _, _, _, _, _⟩ :: _) _ _); refine wpList_append_mine w _ rfl (.tmp 12) (.tmp 14) 22 rfl 53 (.agg #[.int .i64 0, .bool false, .int .u64 0, .string .empty, .int .i64 0, .slice none 0 0]) 6 72 Tryz.underlying22 infoASt rfl (by decide) rfl (HO.out.alloc (.cells nullC.toArray 53)) (some ⟨wr.heap.size, 0, none⟩) 1 1 nullC rfl (RdS.blk (Blk.new wr 53 nullC) rfl) (by intro u hu; simp only [nullC, List.mem_cons, List.not_mem_nil, or_false] at hu; rcases hu with rfl | rfl | rfl | rfl | rfl | rfl <;> rfl) (by unfold maxLen; omega) (by omega) ?_; intro A5 c5 w5 h5; have HM5 := H_ h5; clear h5))
   go_roundg (n - (i + 1))
   case measure => rw [HGK.out]; omega
   case rel => exact ⟨i + 1, A5, c5, by omega, rfl, by go_num, rfl, H_ (by rw [rep_flat]; exact HM5.out)⟩
  obtain rfl : i = n := by omega
  go_wp2_with (first
   | ((with_reducible show wpList _ _ _ (⟨some 22, _, _, _, _, _⟩ :: _) _ _); refine wpList_box2_S _ rfl 22 53 (.tmp 18) (.tmp 21) rfl (.agg #[.int .i64 0, .bool false, .int .u64 0, .string .empty, .int .i64 0, .slice none 0 0]) 6 Tryz.underlying22 infoASt2 (by decide) (by decide) [.int .i64 5, .bool false, .int .u64 0, .string .empty, .int .i64 i, .slice none 0 0] [.int .i64 6, .bool false, .int .u64 0, .string .empty, .int .i64 0, .slice (some ⟨wr.heap.size, 0, none⟩) 1 1] rfl rfl rfl rfl ?_)
   | ((with_reducible show wpList _ _ _ (⟨some 23, _, _, _, _, _⟩ :: _) _ _); refine wpList_append_S _ rfl (.tmp 16) (.tmp 22) 22 rfl 53 (.agg #[.int .i64 0, .bool false, .int .u64 0, .string .empty, .int .i64 0, .slice none 0 0]) 6 72 Tryz.underlying22 infoASt rfl (by decide) L i cl (List.replicate i nullC).flatten rfl ((HO.out.alloc (.cells #[.string key] 9)).alloc (.cells #[.int .i64 5, .bool false, .int .u64 0, .string .empty, .int .i64 i, .slice none 0 0, .int .i64 6, .bool false, .int .u64 0, .string .empty, .int .i64 0, .slice (some ⟨wr.heap.size, 0, none⟩) 1 1] 53)).1 (some ⟨(wr.alloc (.cells #[.string key] 9)).heap.size, 0, none⟩) 2 2 ([.int .i64 5, .bool false, .int .u64 0, .string .empty, .int .i64 i, .slice none 0 0] ++ [.int .i64 6, .bool false, .int .u64 0, .string .empty, .int .i64 0, .slice (some ⟨wr.heap.size, 0, none⟩) 1 1]) rfl (RdS.blk (by have hb := Blk.new (wr.alloc (.cells #[.string key] 9)) 53 [.int .i64 5, .bool false, .int .u64 0, .string .empty, .int .i64 i, .slice none 0 0, .int .i64 6, .bool false, .int .u64 0, .string .empty, .int .i64 0, .slice (some ⟨wr.heap.size, 0, none⟩) 1 1]; exact hb) rfl) (by intro u hu; simp only [List.mem_append, List.mem_cons, List.not_mem_nil, or_false] at hu; rcases hu with (rfl | rfl | rfl | rfl | rfl | rfl) | (rfl | rfl | rfl | rfl | rfl | rfl) <;> rfl) (by unfold maxLen; omega) (by omega) ?_; intro A5 c5 w5 k1 k2 k3; have HE := H_ (And.intro k1 (And.intro k2 k3)); clear k1 k2 k3))
  go_ret
  have hb := ((Blk.new wr 9 [.string key]).alloc (.cells #[.int .i64 5, .bool false, .int .u64 0, .string .empty, .int .i64 i, .slice none 0 0, .int .i64 6, .bool false, .int .u64 0, .string .empty, .int .i64 0, .slice (some ⟨wr.heap.size, 0, none⟩) 1 1] 53))
  have hm := (HO.out.alloc (.cells #[.string key] 9)).alloc (.cells #[.int .i64 5, .bool false, .int .u64 0, .string .empty, .int .i64 i, .slice none 0 0, .int .i64 6, .bool false, .int .u64 0, .string .empty, .int .i64 0, .slice (some ⟨wr.heap.size, 0, none⟩) 1 1] 53)
  have hg := hm.grown HE.out.1 HE.out.2.1 HE.out.2.2
  have hfl : (cellsN i wr.heap.size).flatten = (List.replicate i nullC).flatten ++ ([.int .i64 5, .bool false, .int .u64 0, .string .empty, .int .i64 i, .slice none 0 0] ++ [.int .i64 6, .bool false, .int .u64 0, .string .empty, .int .i64 0, .slice (some ⟨wr.heap.size, 0, none⟩) 1 1]) := by
   unfold cellsN
   rw [List.flatten_append]
   simp
  exact ⟨A5, c5, wr.heap.size, rfl, nulls_in (by rw [hfl]; exact MineS.rdS hg) ((Keeps.of_grown HE.out.2.1).blk hb (own_blk hm.1 hb (by decide))), hg.2.1⟩
end Go.Proofs.YtdmcioghdindfaaGreatDoor
