/- Texts. -/
import Derived.Test.YtdmcioghdindfaaGreatDoorT32
set_option linter.unusedSimpArgs false
set_option maxRecDepth 100000
set_option maxHeartbeats 4000000
namespace Go.Proofs.YtdmcioghdindfaaGreatDoor
open Go Go.RowKit Go.Aff Go.Json Go.Rng
attribute [local go_sem] Oper.semAt_some
theorem MaxAt.keep {F : Nat → Prop} {w w' : World} (h : MaxAt w) (k : Keeps F w w') (hg : ¬ F 1) : MaxAt w' := by
 obtain ⟨m, hm⟩ := h
 exact ⟨m, (k.cell (World.block_lt_of_cell? w _ hm) hg).trans hm⟩
theorem part_of {j x : JV} (hx : x ∈ j.items) (h : j.nodes ≤ 65536 ∧ j.bytes ≤ 2097152) : x.nodes ≤ 65536 ∧ x.bytes ≤ 2097152 := by
 have h3 := sumN_mem (List.mem_map.2 ⟨x, hx, rfl⟩ : x.nodes ∈ j.items.map fun x => x.nodes)
 have h4 := sumN_mem (List.mem_map.2 ⟨x, hx, rfl⟩ : x.bytes ∈ j.items.map fun x => x.bytes)
 have h1 := h.1
 have h2 := h.2
 rw [JV.nodes_eq] at h1
 rw [JV.bytes_eq] at h2
 omega
theorem mem2_part {o : Option JV} (h : ∀ j, o = some j → j.nodes ≤ 65536 ∧ j.bytes ≤ 2097152) : ∀ x ∈ (mem2 o).2, x.nodes ≤ 65536 ∧ x.bytes ≤ 2097152 := by
 cases o with
 | none => exact fun x hx => absurd hx List.not_mem_nil
 | some j =>
  have h1 := h j rfl
  have h2 : ∀ x ∈ j.items, x.nodes ≤ 65536 ∧ x.bytes ≤ 2097152 := fun x hx => part_of hx h1
  cases j <;> first
   | exact h2
   | exact fun x hx => absurd hx List.not_mem_nil
theorem mem2_keys {o : Option JV} (ho : OOk o) (h : ∀ j, o = some j → j.nodes ≤ 65536 ∧ j.bytes ≤ 2097152) : KeysP (mem2 o).1 ∧ (mem2 o).1.length ≤ 65536 := by
 cases o with
 | none => exact ⟨fun s hs => absurd hs List.not_mem_nil, Nat.zero_le _⟩
 | some j =>
  have h1 := h j rfl
  have h2 := ho j rfl
  have h3 := keysP_of h1.2 h2
  have h4 : j.keys.length ≤ 65536 := by
   have h3 := items_nodes j
   have h4 := h2.form.1
   omega
  cases j <;> first
   | exact ⟨h3, h4⟩
   | exact ⟨fun s hs => absurd hs List.not_mem_nil, Nat.zero_le _⟩
theorem tog_both {D : Nat → Prop} {m0 cc ct : Nat} {w : World} {A : Option Addr} {n c : Nat} {xs : List ByteArray} {vo : Value} {o : Option JV} {b1 b2 : Nat} {kx ky : List ByteArray} {lx ly : List JV} {Wa : Option Addr} {wn : Nat} {way : List ByteArray}
  (h : TogIn D m0 cc ct w A n c xs vo (.iface 73 (.pointer (some ⟨b1, 0, none⟩))) (.iface 73 (.pointer (some ⟨b2, 0, none⟩))) o (some (.obj kx lx)) (some (.obj ky ly)) Wa wn way) (wc0 : Nat) (hD : ∀ i, D i → i < w.heap.size) (h1 : ¬ (some (JV.obj kx lx) = some (.obj ky ly) ∨ some (JV.obj ky ly) = o)) (h2 : some (JV.obj kx lx) ≠ o)
  (ih : ∀ (key : ByteArray) (D' : Nat → Prop) (W : World) (A' : Option Addr) (n' c' : Nat) (xs' : List ByteArray) (vo' vx' vy' : Value) (o' y' : Option JV) (Wa' : Option Addr) (wn' wc' : Nat) (way' : List ByteArray), TogIn D' m0 cc ct W A' n' c' xs' vo' vx' vy' o' (atK kx lx key) y' Wa' wn' way' → Calls Tryz.prog 28 #[vo', vx', vy', .slice Wa' wn' wc', .pointer (some ⟨cc, 0, none⟩), .pointer (some ⟨ct, 0, none⟩)] W (TogPost D' m0 cc ct W A' n' c' xs' (three o' (atK kx lx key) y' way'))) :
  Calls Tryz.prog 28 #[vo, .iface 73 (.pointer (some ⟨b1, 0, none⟩)), .iface 73 (.pointer (some ⟨b2, 0, none⟩)), .slice Wa wn wc0, .pointer (some ⟨cc, 0, none⟩), .pointer (some ⟨ct, 0, none⟩)] w (TogPost D m0 cc ct w A n c xs (three o (some (.obj kx lx)) (some (.obj ky ly)) way)) := by
 have HS := same_is h.ax h.ay (slimO h.ox h.sx) false ⟨fun e => (by cases e), fun e => absurd (.inl e) h1⟩
 have HT := same_is h.ay h.ao (slimO h.oy h.sy) false ⟨fun e => (by cases e), fun e => absurd (.inr e) h1⟩
 have HU := same_is h.ax h.ao (slimO h.ox h.sx) false ⟨fun e => (by cases e), fun e => absurd e h2⟩
 have HR := H_ (three_both (way := way) h1 h2 rfl rfl)
 have hk1 := mem2_keys h.ox h.sx
 have hk2 := mem2_keys h.oy h.sy
 have hk0 := mem2_keys h.oo h.so
 obtain ⟨ku, hku⟩ : ∃ ku, ku = (mem2 o).1 := ⟨_, rfl⟩
 obtain ⟨lu, hlu⟩ : ∃ lu, lu = (mem2 o).2 := ⟨_, rfl⟩
 have hm2 := mem2_ok h.oo
 have HFX := H_ (h.ox _ rfl).form
 have HFY := H_ (h.oy _ rfl).form
 have HKU : Hid (ku.length = lu.length ∧ ku.Pairwise ltS) := H_ ⟨by rw [hku, hlu]; exact hm2.1, by rw [hku]; exact hm2.2.1⟩
 rw [← hku] at hk0
 have HKP : Hid (KeysP ku ∧ KeysP kx ∧ KeysP ky) := H_ ⟨hk0.1, hk1.1, hk2.1⟩
 have HFE : Hid (ku.length ≤ 65536 ∧ kx.length ≤ 65536 ∧ ky.length ≤ 65536) := H_ ⟨hk0.2, hk1.2, hk2.2⟩
 have hbig : ∀ {ks : List ByteArray}, KeysP ks → ∀ s ∈ ks, rightS s = true ∧ s.size ≤ 1152921504606846976 := fun hk s hs => ⟨(hk s hs).1, Nat.le_trans (hk s hs).2 (by decide)⟩
 have HK60 : Hid ((∀ s ∈ ku, rightS s = true ∧ s.size ≤ 1152921504606846976) ∧ (∀ s ∈ kx, rightS s = true ∧ s.size ≤ 1152921504606846976) ∧ ∀ s ∈ ky, rightS s = true ∧ s.size ≤ 1152921504606846976) := H_ ⟨hbig hk0.1, hbig hk1.1, hbig hk2.1⟩
 have HME : Hid (∀ W, Keeps (fun _ => False) w W → Calls Tryz.prog 31 #[vo] W fun e w' => ∃ bu, e = .returned (.pointer (some ⟨bu, 0, none⟩)) ∧ Hid (KidsAt (fun i => (D i ∨ w.heap.size ≤ i) ∧ i < w'.heap.size) w' bu ku lu ∧ Keeps (fun _ => False) w w')) := H_ (fun W hW => by
  refine (membersR_any W vo o (h.ao.stay hW)).mono ?_
  rintro e w' ⟨bu, he, ht, hk⟩
  rw [← hku, ← hlu] at ht
  exact ⟨bu, he, H_ ⟨ht.mono fun i h1 h2 => ⟨h1.imp id fun h => Nat.le_trans hW.size h, h2⟩, hW.trans hk fun _ _ h => h⟩⟩)
 have HH := H_ h
 have tk : True := trivial
 have tm : True := trivial
 have HD := H_ hD
 have HIH := H_ ih
 have HM := H_ (And.intro hku hlu)
 have HA1 := as_mobj_mobj (.pointer (some ⟨b1, 0, none⟩))
 have HA2 := as_mobj_mobj (.pointer (some ⟨b2, 0, none⟩))
 clear h hD h1 h2 ih hku hlu hm2 hk0 hk1 hk2 hbig
 go_enter Tryz.func28, Tryz.ntmps28
 go_upto_region 13 with (first
  | (go_at_call 29; have _t := tk; clear tk; refine (HS.out _ (Keeps.refl _ _)).mono ?_; rintro e wa ⟨rfl, Ha⟩)
  | (go_at_call 29; have _t := tm; clear tm; refine (HT.out _ Ha.out).mono ?_; rintro e wb ⟨rfl, Hb⟩)
  | (go_at_call 29; refine (HU.out _ Hb.out).mono ?_; rintro e wc ⟨rfl, Hc⟩)
  | (go_at_call 31; refine (HME.out _ Hc.out).mono ?_; rintro e w2 ⟨bu, rfl, H2⟩))
 obtain ⟨p, hpp⟩ : ∃ p, p = w2.heap.size := ⟨_, rfl⟩
 have HS0 : Hid (ObS (TE D w cc A n c) w2 (w2.alloc (.cells #[.nilIface, .slice none 0 0, .slice none 0 0] 84)) p .nilIface none 0 none 0 [] [] []) := H_ (by rw [hpp]; exact ObS.start _ w2)
 rw [← hpp]
 refine gen_codeF (fun W => ObS (TE D w cc A n c) w2 W p .nilIface none 0 none 0 [] [] []) HS0.out ?_
 intro w3 hs3
 have HS3 := H_ hs3
 have HPP := H_ hpp
 clear hs3 HS0 hpp HS HT HU HME Ha Hb Hc HA1 HA2
 have HKO : Hid (Calls Tryz.prog 32 #[.slice (some ⟨w3.heap.size, 0, none⟩) 3 3] (w3.alloc (.cells #[.pointer (some ⟨bu, 0, none⟩), .pointer (some ⟨b1, 0, none⟩), .pointer (some ⟨b2, 0, none⟩)] 73)) fun e w' => ∃ (A : Option Addr) (n c : Nat) (cs : List ByteArray), e = .returned (.slice A n c) ∧ n ≤ 1048576 ∧ Hid (cs.length = n ∧ Rd w' A n (cs.map .string) ∧ InB (fun i => w3.heap.size ≤ i) A n ∧ cs.Pairwise ltS ∧ (∀ s, s ∈ cs ↔ s ∈ ku ++ (kx ++ ky)) ∧ Keeps (fun _ => False) w3 w')) := H_ (by
  have k3 := HS3.out.keep.alloc (.cells #[.pointer (some ⟨bu, 0, none⟩), .pointer (some ⟨b1, 0, none⟩), .pointer (some ⟨b2, 0, none⟩)] 73)
  have hall : allK [(bu, ku), (b1, kx), (b2, ky)] = ku ++ (kx ++ ky) := by simp [allK]
  refine (keysOf_any _ (some ⟨w3.heap.size, 0, none⟩) 3 3 [(bu, ku), (b1, kx), (b2, ky)] ⟨rfl, fun _ => ⟨_, 0, rfl, fun j _ => by rw [Nat.zero_add]; exact (Blk.new w3 73 [.pointer (some ⟨bu, 0, none⟩), .pointer (some ⟨b1, 0, none⟩), .pointer (some ⟨b2, 0, none⟩)]).cell j⟩⟩ (fun q hq => ?_) (fun s hs => ?_) (by rw [hall, List.length_append, List.length_append]; have := HFE.out; omega) (by decide)).mono ?_
  ·simp only [List.mem_cons, List.not_mem_nil, or_false] at hq
   rcases hq with rfl | rfl | rfl
   ·exact (H2.out.1.stay k3).keys
   ·exact ((TAtR.stay HH.out.ax H2.out.2).stay k3).kids.keys
   exact ((TAtR.stay HH.out.ay H2.out.2).stay k3).kids.keys
  ·rw [hall] at hs
   exact (List.mem_append.1 hs).elim (HK60.out.1 s) fun hs => (List.mem_append.1 hs).elim (HK60.out.2.1 s) (HK60.out.2.2 s)
  rintro e w' ⟨A, n, c, cs, he, h1, h2, h3, h4, h5, h6, h7⟩
  rw [hall] at h6
  exact ⟨A, n, c, cs, he, h2, H_ ⟨h1, h3, h4.mono fun i hi => Nat.le_trans (by rw [World.size_alloc]; omega) hi, h5, h6, ((Keeps.refl _ w3).alloc _).trans h7 fun _ _ h => h⟩⟩)
 go_upto_block 1 with (go_at_call 32; refine HKO.out.mono ?_; rintro e w4 ⟨S, m, cc', cs, rfl, hm, H4⟩)
 have HP3 : Hid (w.heap.size ≤ w2.heap.size ∧ w2.heap.size ≤ p ∧ p < w3.heap.size ∧ w3.heap.size ≤ w4.heap.size) := H_ ⟨H2.out.2.size, by rw [HPP.out]; exact Nat.le_refl _, HS3.out.two.blk.lt, H4.out.2.2.2.2.2.size⟩
 have HK24 : Hid (Keeps (fun _ => False) w2 w4) := H_ (HS3.out.keep.trans H4.out.2.2.2.2.2 fun _ _ h => h)
 have HK04 : Hid (Keeps (fun _ => False) w w4) := H_ (H2.out.2.trans HK24.out fun _ _ h => h)
 have HS4 : Hid (TogSt D m0 cc ct w w2 w4 w4 p A n c none 0 none 0 [] [] A n c xs) := H_ (TogSt.start (by have h1 := HH.out.st.lo; have h2 := HP3.out; omega) (LaySt.start (HS3.out.stay H4.out.2.2.2.2.2)) (HH.out.st.stay HK04.out) (HH.out.st.off (by have := HP3.out; omega)))
 have HA4 := H_ (Rd.inB H4.out.2.1 H4.out.2.2.1 (C := fun i => w3.heap.size ≤ i ∧ i < w4.heap.size) fun i h1 h2 => ⟨h1, h2⟩)
 obtain ⟨F1, hF1⟩ : ∃ F : ByteArray → Option JV, F = fun key => (threeF o (some (.obj kx lx)) (some (.obj ky ly)) way key).1 := ⟨_, rfl⟩
 obtain ⟨F2, hF2⟩ : ∃ F : ByteArray → List ByteArray, F = fun key => (threeF o (some (.obj kx lx)) (some (.obj ky ly)) way key).2 := ⟨_, rfl⟩
 have HFF := H_ (And.intro hF1 hF2)
 have HUN : Hid (unionT o (some (.obj kx lx)) (some (.obj ky ly)) = cs) := H_ (unionK_eq H4.out.2.2.2.1 (by rw [← HM.out.1]; exact H4.out.2.2.2.2.1))
 have HLE : Hid (∀ i, (keyed F1 (cs.take i)).length ≤ i) := H_ fun i => Nat.le_trans (keyed_len _ _) (by rw [List.length_take]; omega)
 clear hF1 hF2 HKO
 go_wp2
 go_loopg [71] m (fun gk t wx => ∃ (i : Nat) (B1 : Option Addr) (d1 : Nat) (A1 : Option Addr) (c1 : Nat) (vals : List Value) (A3 : Option Addr) (n3 c3 : Nat), i ≤ m ∧ t = .int .i64 i ∧ gk = m - i ∧ Hid (TogSt D m0 cc ct w w2 w4 wx p A n c B1 d1 A1 c1 (keyed F1 (cs.take i)) vals A3 n3 c3 (xs ++ (cs.take i).flatMap F2)))
 case atStart => exact ⟨0, none, 0, none, 0, [], A, n, c, by omega, rfl, rfl, H_ (by simp only [keyed, List.take_zero, List.filterMap_nil, List.flatMap_nil, List.append_nil]; exact HS4.out)⟩
 case round =>
  obtain ⟨i, B1, d1, A1, c1, vals, A3, n3, c3, hin, rfl, hgk, HO⟩ := hrel
  have HGK := H_ hgk
  clear hgk
  have HKW : Hid (Keeps (CF cc A n c) w wr) := H_ ((HK04.out.mono fun _ _ h => h.elim).trans HO.out.keep fun q hq e => by
   have := HP3.out
   rcases e with e | e | e
   ·exact e
   ·omega
   omega)
  by_cases hlt : i < m
  ·obtain ⟨g, o1, key, hA, hky, hck⟩ := textAt (H4.out.2.1.keep HO.out.keep (HA4.out.out fun q hq e => by
    have h1 := HP3.out
    have h2 := hq.1
    have h3 := hq.2
    rcases e with e | e | e
    ·exact HH.out.st.off (by omega) e
    ·omega
    omega)) hlt
   subst hA
   have hkin := (H4.out.2.2.2.2.1 key).1 (List.mem_of_getElem? hky)
   have hkr : rightS key = true ∧ key.size ≤ 2097152 := (List.mem_append.1 hkin).elim (HKP.out.1 key) fun h => (List.mem_append.1 h).elim (HKP.out.2.1 key) (HKP.out.2.2 key)
   have hkok : rightS key = true ∧ key.size ≤ 1152921504606846976 := ⟨hkr.1, Nat.le_trans hkr.2 (by decide)⟩
   have k2 : Keeps (fun i => CF cc A n c i ∨ i = p ∨ w4.heap.size ≤ i) w2 wr := (HK24.out.mono fun _ _ h => h.elim).trans HO.out.keep fun _ _ h => h
   have hDD : ∀ q, (D q ∨ w.heap.size ≤ q) ∧ q < w2.heap.size → ¬ (CF cc A n c q ∨ q = p ∨ w4.heap.size ≤ q) := fun q hq e => by
    have h1 := HP3.out
    have h2 := hq.2
    rcases e with e | e | e
    ·exact hq.1.elim (fun h => HH.out.off q h e) fun h => HH.out.st.off h e
    ·omega
    omega
   have HG0 : Hid (∀ W, Keeps (fun _ => False) wr W → Calls Tryz.prog 33 #[.pointer (some ⟨bu, 0, none⟩), .string key] W fun e w' => ∃ x, e = .returned x ∧ Hid (OAtR (fun i => (D i ∨ w.heap.size ≤ i) ∧ i < w2.heap.size) w' x (atK ku lu key) ∧ Keeps (fun _ => False) wr w' ∧ Keeps (fun _ => False) W w')) := H_ fun W hW => by
    refine (getR_any W bu ku lu ((H2.out.1.keep k2 hDD).stay hW) HKU.out.1 HKU.out.2 HK60.out.1 key hkok (by have := HFE.out; omega)).mono ?_
    rintro e w' ⟨x, he, hx, hk⟩
    exact ⟨x, he, H_ ⟨hx, hW.trans hk fun _ _ h => h, hk⟩⟩
   have HG1 : Hid (∀ W, Keeps (fun _ => False) wr W → Calls Tryz.prog 33 #[.pointer (some ⟨b1, 0, none⟩), .string key] W fun e w' => ∃ x, e = .returned x ∧ Hid (OAtR (fun i => (D i ∨ w.heap.size ≤ i) ∧ i < w2.heap.size) w' x (atK kx lx key) ∧ Keeps (fun _ => False) wr w' ∧ Keeps (fun _ => False) W w')) := H_ fun W hW => by
    have ht : KidsAt (fun i => (D i ∨ w.heap.size ≤ i) ∧ i < w2.heap.size) W b1 kx lx := (((TAtR.kids HH.out.ax).mono (C := fun i => (D i ∨ w.heap.size ≤ i) ∧ i < w2.heap.size) fun i h1 h2 => ⟨.inl h1, Nat.lt_of_lt_of_le h2 H2.out.2.size⟩).stay H2.out.2).keep k2 hDD |>.stay hW
    refine (getR_any W b1 kx lx ht (HFX.out.2.1 rfl) HFX.out.2.2.1 HK60.out.2.1 key hkok (by have := HFE.out; omega)).mono ?_
    rintro e w' ⟨x, he, hx, hk⟩
    exact ⟨x, he, H_ ⟨hx, hW.trans hk fun _ _ h => h, hk⟩⟩
   have HG2 : Hid (∀ W, Keeps (fun _ => False) wr W → Calls Tryz.prog 33 #[.pointer (some ⟨b2, 0, none⟩), .string key] W fun e w' => ∃ x, e = .returned x ∧ Hid (OAtR (fun i => (D i ∨ w.heap.size ≤ i) ∧ i < w2.heap.size) w' x (atK ky ly key) ∧ Keeps (fun _ => False) wr w' ∧ Keeps (fun _ => False) W w')) := H_ fun W hW => by
    have ht : KidsAt (fun i => (D i ∨ w.heap.size ≤ i) ∧ i < w2.heap.size) W b2 ky ly := (((TAtR.kids HH.out.ay).mono (C := fun i => (D i ∨ w.heap.size ≤ i) ∧ i < w2.heap.size) fun i h1 h2 => ⟨.inl h1, Nat.lt_of_lt_of_le h2 H2.out.2.size⟩).stay H2.out.2).keep k2 hDD |>.stay hW
    refine (getR_any W b2 ky ly ht (HFY.out.2.1 rfl) HFY.out.2.2.1 HK60.out.2.2 key hkok (by have := HFE.out; omega)).mono ?_
    rintro e w' ⟨x, he, hx, hk⟩
    exact ⟨x, he, H_ ⟨hx, hW.trans hk fun _ _ h => h, hk⟩⟩
   have hwn : wn ≤ 65536 := by have := HH.out.room; omega
   have HDE : Hid (∀ W, Keeps (fun _ => False) wr W → Calls Tryz.prog 34 #[.slice Wa wn wc0, .string key] W fun e w' => ∃ A', e = .returned (.slice A' (wn + 1) (wn + 1)) ∧ Hid (Rd w' A' (wn + 1) ((way ++ [key]).map .string) ∧ InB (fun i => wr.heap.size ≤ i) A' (wn + 1) ∧ Keeps (fun _ => False) wr w' ∧ Keeps (fun _ => False) W w')) := H_ fun W hW => by
    refine (deeper_any W Wa wn wc0 way HH.out.len ((HH.out.row.keep HKW.out HH.out.rowOff).keep hW fun _ _ _ h => h) key hwn).mono ?_
    rintro e w' ⟨A', he, hr, hib, hk⟩
    exact ⟨A', he, H_ ⟨hr, hib.mono fun q hq => Nat.le_trans hW.size hq, hW.trans hk fun _ _ h => h, hk⟩⟩
   have hnod := ltS_nodup H4.out.2.2.2.1
   have hrm := three_room HH.out.oo HH.out.ox HH.out.oy way hnod hky
   have hFk : F1 key = (three (atK ku lu key) (atK kx lx key) (atK ky ly key) (way ++ [key])).1 ∧ F2 key = (three (atK ku lu key) (atK kx lx key) (atK ky ly key) (way ++ [key])).2 := by rw [HFF.out.1, HFF.out.2, HM.out.1, HM.out.2]; exact ⟨rfl, rfl⟩
   have hF2f : F2 = fun k => (threeF o (some (.obj kx lx)) (some (.obj ky ly)) way k).2 := HFF.out.2
   have hnew := HO.out.new
   have HTG : Hid (∀ W vo' vx' vy' A7, Keeps (fun _ => False) wr W → OAtR (fun i => (D i ∨ w.heap.size ≤ i) ∧ i < w2.heap.size) W vo' (atK ku lu key) → OAtR (fun i => (D i ∨ w.heap.size ≤ i) ∧ i < w2.heap.size) W vx' (atK kx lx key) → OAtR (fun i => (D i ∨ w.heap.size ≤ i) ∧ i < w2.heap.size) W vy' (atK ky ly key) → Rd W A7 (wn + 1) ((way ++ [key]).map .string) → InB (fun i => wr.heap.size ≤ i) A7 (wn + 1) →
     Calls Tryz.prog 28 #[vo', vx', vy', .slice A7 (wn + 1) (wn + 1), .pointer (some ⟨cc, 0, none⟩), .pointer (some ⟨ct, 0, none⟩)] W fun e w' => ∃ t A' n' c', e = .returned t ∧ Hid (TogSt D m0 cc ct w w2 w4 w' p A n c B1 d1 A1 c1 (keyed F1 (cs.take i)) vals A' n' c' (xs ++ (cs.take (i + 1)).flatMap F2)) ∧ Hid (OTAt (fun q => TE D w cc A' n' c' q ∧ q ≠ p ∧ (Value.slice B1 (keyed F1 (cs.take i)).length d1).ownBlock ≠ some q ∧ (Value.slice A1 (keyed F1 (cs.take i)).length c1).ownBlock ≠ some q) w' t (F1 key))) := H_ fun W vo' vx' vy' A7 hW h0 hx hy hr hib => by
    have hst := HO.out.stay hW
    have hb := hst.bounds
    have hbr := HO.out.bounds
    have hp3 := HP3.out
    have hkx : atK kx lx key = atK (mem2 (some (JV.obj kx lx))).1 (mem2 (some (JV.obj kx lx))).2 key := rfl
    have hky' : atK ky ly key = atK (mem2 (some (JV.obj ky ly))).1 (mem2 (some (JV.obj ky ly))).2 key := rfl
    have hsm : ∀ {q : Option JV}, (∀ j, q = some j → j.nodes ≤ 65536 ∧ j.bytes ≤ 2097152) → ∀ j, atK (mem2 q).1 (mem2 q).2 key = some j → j.nodes ≤ 65536 ∧ j.bytes ≤ 2097152 := fun hq j hj => mem2_part hq j (atK_mem hj)
    have hoff3 : ∀ q, (D q ∨ w.heap.size ≤ q) ∧ q < w2.heap.size → ¬ CF cc A3 n3 c3 q := fun q hq e => by
     have h1 := hq.2
     rcases e with e | e
     ·exact hDD q hq (.inl (.inl e))
     rcases hnew q e with e1 | e1
     ·exact hDD q hq (.inl (.inr e1))
     omega
    refine (HIH.out key (fun i => (D i ∨ w.heap.size ≤ i) ∧ i < w2.heap.size) W A3 n3 c3 (xs ++ (cs.take i).flatMap F2) vo' vx' vy' (atK ku lu key) (atK ky ly key) A7 (wn + 1) (wn + 1) (way ++ [key]) ⟨hst.st, hoff3, h0, hx, hy, ?_, ?_, ?_, hr, fun hn a e => HO.out.st.off (hib hn a e), ?_, ?_, ?_, ?_, ?_, ?_, ?_, ?_, HH.out.glob⟩).mono ?_
    ·rw [HM.out.1, HM.out.2]; exact HH.out.oo.at
    ·exact HH.out.ox.at (key := key)
    ·exact HH.out.oy.at (key := key)
    ·rw [List.length_append, HH.out.len]; rfl
    ·exact fun s hs => (List.mem_append.1 hs).elim (HH.out.keys s) fun h => by rw [List.mem_singleton.1 h]; exact hkr
    ·have h1 := HH.out.room
     have h2 : ow JV.deep (some (JV.obj kx lx)) = (JV.obj kx lx).deep := rfl
     rw [h2] at h1
     cases hk : atK kx lx key with
     | none =>
      have h6 := JV.deep_eq (JV.obj kx lx)
      show wn + 1 + 0 ≤ _
      omega
     | some xj =>
      have h4 := maxN_mem (List.mem_map.2 ⟨xj, atK_mem hk, rfl⟩ : xj.deep ∈ lx.map fun x => x.deep)
      simp only [JV.deep] at h1
      show wn + 1 + xj.deep ≤ _
      omega
    ·refine (HH.out.max.keep HKW.out fun e => ?_).stay hW
     rcases e with e | e
     ·exact HH.out.glob.1 e
     have h1 := (HH.out.st.own e).1
     have h2 := HH.out.glob.2
     omega
    ·rw [HM.out.1, HM.out.2]; exact hsm HH.out.so
    ·exact hsm HH.out.sx
    ·exact hsm HH.out.sy
    ·rw [List.length_append, hF2f]
     have h1 := HH.out.few
     rw [hkx, hky']
     omega
    rintro e w' ⟨t, A', n', c', he, hs, ht, hk, hn'⟩
    rw [← hFk.1] at ht
    rw [← hFk.2, List.append_assoc] at hs
    have hfl : (cs.take i).flatMap F2 ++ F2 key = (cs.take (i + 1)).flatMap F2 := by rw [List.take_add_one, hky, List.flatMap_append]; simp
    rw [hfl] at hs
    refine ⟨t, A', n', c', he, H_ (hst.told hk hs hn'), H_ (ht.mono fun q hq _ => ?_)⟩
    have hq2 := hq.2
    rcases hq.1 with h1 | h1
    ·have h3 := h1.2
     exact ⟨⟨h1.1, hq2⟩, by omega, fun e => by have := (hb.2.2.2.1 q e).1; omega, fun e => by have := (hb.2.2.2.2 q e).1; omega⟩
    exact ⟨⟨.inr (by have := hW.size; omega), hq2⟩, by have := hW.size; omega, fun e => by have := (hb.2.2.2.1 q e).2; omega, fun e => by have := (hb.2.2.2.2 q e).2; omega⟩
   have HFN : Hid (∀ W, Keeps (fun _ => False) wr W → W.cell? ⟨ct, 0, none⟩ = some (.func (.func 28) #[] #[.pointer (some ⟨cc, 0, none⟩), .pointer (some ⟨ct, 0, none⟩)])) := H_ fun W hW => ((HO.out.st.stay hW).fn).cell 0
   have HSN : Hid (keyed F1 (cs.take (i + 1)) = keyed F1 (cs.take i) ++ ((F1 key).map fun z => (key, z)).toList) := H_ (keyed_snoc hky)
   have cky := hck
   clear hky hkin hkr hkok hck k2 hDD hwn hnod hrm hFk hF2f hnew
   have hi63 : (0 : Int) ≤ (i : Int) := by omega
   have hiN : (i : Int) < (m : Int) := by omega
   go_upto_region 16 with fail
   refine wp_region_held_drew (S := fun V => V.cell? ⟨ct, 0, none⟩ = some (.func (.func 28) #[] #[.pointer (some ⟨cc, 0, none⟩), .pointer (some ⟨ct, 0, none⟩)])) (by kernel_rfl) (HFN.out _ (Keeps.refl _ _).drew) (fun h_ => ?_)
   refine tI 0 75 h_ ?_ (hy := .inl ⟨by rfl, by intro w' hSw; have cf := hSw; go_simp; first | done | rfl⟩)
   try simp only [pu]
   refine tI 1 76 h_ ?_
   try simp only [pu]
   refine tI 2 77 h_ ?_
   try simp only [pu]
   refine tI 4 79 h_ ?_
   try simp only [pu]
   refine tI 5 80 h_ ?_
   try simp only [pu]
   refine tI 7 82 h_ ?_
   try simp only [pu]
   refine tI 8 83 h_ ?_
   try simp only [pu]
   refine tI 10 85 h_ ?_
   try simp only [pu]
   refine tI 11 86 h_ ?_
   try simp only [pu]
   refine rH 3 (some 78) fun K hK => ?_
   go_simp
   refine (HG0.out _ (Keeps.refl _ _).drew).mono ?_
   rintro e w5 ⟨x0, rfl, H5⟩
   refine hK.out _ _ (HFN.out _ H5.out.2.1) (fun h_ => ?_)
   clear hK K
   try simp only [pu]
   refine rH 6 (some 81) fun K hK => ?_
   go_simp
   refine (HG1.out _ H5.out.2.1).mono ?_
   rintro e w6 ⟨x1, rfl, H6⟩
   refine hK.out _ _ (HFN.out _ H6.out.2.1) (fun h_ => ?_)
   clear hK K
   try simp only [pu]
   refine rH 9 (some 84) fun K hK => ?_
   go_simp
   refine (HG2.out _ H6.out.2.1).mono ?_
   rintro e w7 ⟨x2, rfl, H7⟩
   refine hK.out _ _ (HFN.out _ H7.out.2.1) (fun h_ => ?_)
   clear hK K
   try simp only [pu]
   refine rH 12 (some 87) fun K hK => ?_
   go_simp
   refine (HDE.out _ H7.out.2.1).mono ?_
   rintro e w8 ⟨A8, rfl, H8⟩
   refine hK.out _ _ (HFN.out _ H8.out.2.2.1) (fun h_ => ?_)
   clear hK K
   try simp only [pu]
   refine rH 13 (some 88) fun K hK => ?_
   go_simp
   refine (HTG.out _ x0 x1 x2 A8 H8.out.2.2.1 (((H5.out.1.stay H6.out.2.2).stay H7.out.2.2).stay H8.out.2.2.2) ((H6.out.1.stay H7.out.2.2).stay H8.out.2.2.2) (H7.out.1.stay H8.out.2.2.2) H8.out.1 H8.out.2.1).mono ?_
   rintro e w9 ⟨t9, A9, n9, c9, rfl, H9, HT9⟩
   refine hK.out _ _ (H9.out.st.fn.cell 0) (fun h_ => ?_)
   clear hK K
   try simp only [pu]
   refine tI 14 21 h_ ?_
   try simp only [pu]
   refine wpAnyH_done (by kernel_rfl) ?_ _
   cases hfk : F1 key with
   | none =>
    have ht : t9 = .nilIface := by have := HT9.out; rw [hfk] at this; exact this
    subst ht
    have HSN1 := H_ (show keyed F1 (cs.take (i + 1)) = keyed F1 (cs.take i) by rw [HSN.out, hfk]; simp)
    clear hfk
    go_wp2
    go_roundg (m - (i + 1))
    case measure => rw [HGK.out]; omega
    case rel => exact ⟨i + 1, B1, d1, A1, c1, vals, A9, n9, c9, by omega, by go_num, rfl, H_ (by rw [HSN1.out]; exact H9.out)⟩
   | some z =>
    have ht : TAt (fun q => TE D w cc A9 n9 c9 q ∧ q ≠ p ∧ (Value.slice B1 (keyed F1 (cs.take i)).length d1).ownBlock ≠ some q ∧ (Value.slice A1 (keyed F1 (cs.take i)).length c1).ownBlock ≠ some q) w9 t9 z := by have := HT9.out; rw [hfk] at this; exact this
    obtain ⟨T9, y9, hty⟩ := ht.iface
    subst hty
    have HSN1 := H_ (show keyed F1 (cs.take (i + 1)) = keyed F1 (cs.take i) ++ [(key, z)] by rw [HSN.out, hfk]; simp)
    have HADD := H_ (H9.out.add (by have := HLE.out i; omega) key (.iface T9 y9) z ht fun q hq => hq)
    clear hfk ht
    go_wp2_with (go_at_call 35; refine HADD.out.mono ?_; rintro e w10 ⟨rfl, B10, d10, A10, c10, vals10, H10⟩)
    go_roundg (m - (i + 1))
    case measure => rw [HGK.out]; omega
    case rel => exact ⟨i + 1, B10, d10, A10, c10, vals10, A9, n9, c9, by omega, by go_num, rfl, H_ (by rw [HSN1.out]; exact H10.out)⟩
  obtain rfl : i = m := by omega
  have hcsl : cs.take i = cs := List.take_of_length_le (by rw [H4.out.1]; exact Nat.le_refl _)
  have hth := HO.out.thing
  have hst := HO.out.st
  have hnew := HO.out.new
  have hr := HR.out
  rw [HUN.out] at hr
  rw [hcsl] at hth hst
  have HTH := H_ (And.intro hr (And.intro hth (And.intro hst hnew)))
  clear hth hst hcsl hr hnew
  go_wp2
  go_ret
  rw [HTH.out.1]
  have h1 := HTH.out.2.1
  have h2 := HTH.out.2.2.1
  rw [HFF.out.1] at h1
  rw [HFF.out.2] at h2
  exact ⟨_, A3, n3, c3, rfl, h2, h1, HKW.out, fun g hg => (HTH.out.2.2.2 g hg).imp id fun e => by have := HP3.out; omega⟩
theorem tog_any {m0 cc ct : Nat} : ∀ x, OOk x → ∀ {D : Nat → Prop} {w : World} {A : Option Addr} {n c : Nat} {xs : List ByteArray} {vo vx vy : Value} {o y : Option JV} {Wa : Option Addr} {wn : Nat} (wc0 : Nat) {way : List ByteArray}, TogIn D m0 cc ct w A n c xs vo vx vy o x y Wa wn way →
  Calls Tryz.prog 28 #[vo, vx, vy, .slice Wa wn wc0, .pointer (some ⟨cc, 0, none⟩), .pointer (some ⟨ct, 0, none⟩)] w (TogPost D m0 cc ct w A n c xs (three o x y way)) := by
 refine opt_parts fun x hx ih D w A n c xs vo vx vy o y Wa wn wc0 way h => ?_
 by_cases h1 : x = y ∨ y = o
 ·exact tog_first h wc0 (.inl h1)
 by_cases h2 : x = o
 ·exact tog_first h wc0 (.inr h2)
 by_cases h3 : sortO x = 6 ∧ sortO y = 6
 ·obtain ⟨kx, lx, rfl⟩ := sortO_obj h3.1
  obtain ⟨ky, ly, rfl⟩ := sortO_obj h3.2
  have hax := h.ax
  have hay := h.ay
  obtain ⟨px, bx, _, hbx, hx2⟩ := as_mobj hax
  obtain ⟨py, by_, _, hby, hy2⟩ := as_mobj hay
  obtain ⟨b1, e1, e2⟩ := hx2 (hbx.2 rfl)
  obtain ⟨b2, e3, e4⟩ := hy2 (hby.2 rfl)
  subst e1 e3
  subst e2 e4
  have hlow : TogIn (fun i => D i ∧ i < w.heap.size) m0 cc ct w A n c xs vo _ _ o _ _ Wa wn way := ⟨h.st, fun i hi => h.off i hi.1, h.ao.mono fun i h1 h2 => ⟨h1, h2⟩, h.ax.mono fun i h1 h2 => ⟨h1, h2⟩, h.ay.mono fun i h1 h2 => ⟨h1, h2⟩, h.oo, h.ox, h.oy, h.row, h.rowOff, h.len, h.keys, h.room, h.max, h.so, h.sx, h.sy, h.few, h.glob⟩
  refine (tog_both hlow wc0 (fun i hi => hi.2) h1 h2 fun key D' W A' n' c' xs' vo' vx' vy' o' y' Wa' wn' wc' way' hin => ih rfl key wc' hin).mono ?_
  rintro e w' ⟨t, A', n', c', he, hs, ht, hk, hn⟩
  exact ⟨t, A', n', c', he, hs, ht.mono fun i hi _ => ⟨hi.1.imp (fun h => h.1) id, hi.2⟩, hk, hn⟩
 exact tog_clash h wc0 h1 h2 h3
theorem three_fit : ∀ x, OOk x → (∀ j, x = some j → j.within) → ∀ o y, OOk o → OOk y → (∀ j, y = some j → j.within) → ∀ way z, (three o x y way).1 = some z → Fit z := by
 have hat : ∀ {q : Option JV}, OOk q → (∀ j, q = some j → j.within) → ∀ key j, atK (mem2 q).1 (mem2 q).2 key = some j → j.within := fun hq hw key j hj => mem2_within hw j (atK_some_mem (mem2_ok hq).2.1 hj).2
 refine opt_parts fun x hx ih hxw o y ho hy hyw way z hz => ?_
 by_cases h1 : x = y ∨ y = o
 ·rw [three_alike h1] at hz; exact fit_within z (hxw z hz)
 by_cases h2 : x = o
 ·rw [three_other h1 h2] at hz; exact fit_within z (hyw z hz)
 by_cases h3 : sortO x = 6 ∧ sortO y = 6
 ·rw [three_both h1 h2 h3.1 h3.2] at hz
  injection hz with hz
  subst hz
  refine .mk _ (fun h => absurd rfl h) fun _ u hu => ?_
  obtain ⟨q, hq, rfl⟩ := List.mem_map.1 (show u ∈ (keyed (fun key => (threeF o x y way key).1) (unionT o x y)).map (·.2) from hu)
  exact ih h3.1 q.1 (hat hx hxw q.1) _ _ ho.at hy.at (hat hy hyw q.1) _ _ (keyed_mem.1 hq).2
 rw [three_clash h1 h2 h3] at hz; exact fit_within z (hxw z hz)
theorem three_is (o : Option JV) (x y : JV) (way : List ByteArray) : ∃ z, (three o (some x) (some y) way).1 = some z := by
 by_cases h1 : some x = some y ∨ some y = o
 ·rw [three_alike h1]; exact ⟨_, rfl⟩
 by_cases h2 : some x = o
 ·rw [three_other h1 h2]; exact ⟨_, rfl⟩
 by_cases h3 : sortO (some x) = 6 ∧ sortO (some y) = 6
 ·rw [three_both h1 h2 h3.1 h3.2]; exact ⟨_, rfl⟩
 rw [three_clash h1 h2 h3]; exact ⟨_, rfl⟩
def ThreePost (D : Nat → Prop) (w : World) (z : JV) (xs : List ByteArray) (e : Ending) (w' : World) : Prop :=
 ((∃ q v A n c, e = .returned (.tuple #[.pointer (some ⟨q, 0, none⟩), .slice A n c, .nilIface]) ∧ TreeAt (fun i => D i ∨ w.heap.size ≤ i) w' q v z ∧ z.within ∧ Rd w' A n (xs.map .string) ∧ xs.length = n) ∨ (e = .returned (.tuple #[.pointer none, .slice none 0 0, errE 3]) ∧ ¬ z.within)) ∧ Keeps (fun _ => False) w w'
theorem three_tree {D : Nat → Prop} (w : World) (q0 q1 q2 : Nat) (v0 v1 v2 : Value) (o x y : JV) (h0 : TreeAt D w q0 v0 o) (h1 : TreeAt D w q1 v1 x) (h2 : TreeAt D w q2 v2 y) (ho : JOk o) (hx : JOk x) (hy : JOk y) (hwo : o.within) (hwx : x.within) (hwy : y.within) (hmax : MaxAt w) (z : JV) (hz : (three (some o) (some x) (some y) []).1 = some z) :
  Calls Tryz.prog 9 #[.pointer (some ⟨q0, 0, none⟩), .pointer (some ⟨q1, 0, none⟩), .pointer (some ⟨q2, 0, none⟩)] w (ThreePost D w z (three (some o) (some x) (some y) []).2) := by
 obtain ⟨T0, y0, hv0⟩ := h0.2.2.iface
 obtain ⟨T1, y1, hv1⟩ := h1.2.2.iface
 obtain ⟨T2, y2, hv2⟩ := h2.2.2.iface
 subst hv0 hv1 hv2
 have k1 : Keeps (fun _ => False) w (w.alloc (.cells #[.pointer (some ⟨q0, 0, none⟩), .pointer (some ⟨q1, 0, none⟩), .pointer (some ⟨q2, 0, none⟩)] 26)) := (Keeps.refl _ w).alloc _
 have HNO : Hid (Calls Tryz.prog 27 #[.slice (some ⟨w.heap.size, 0, none⟩) 3 3] (w.alloc (.cells #[.pointer (some ⟨q0, 0, none⟩), .pointer (some ⟨q1, 0, none⟩), .pointer (some ⟨q2, 0, none⟩)] 26)) fun e w' => e = .returned .nilIface ∧ Keeps (fun _ => False) w w') :=
  H_ ((none_any _ (some ⟨w.heap.size, 0, none⟩) 3 3 [some ⟨q0, 0, none⟩, some ⟨q1, 0, none⟩, some ⟨q2, 0, none⟩] ⟨rfl, fun _ => ⟨_, 0, rfl, fun j _ => by rw [Nat.zero_add]; exact (Blk.new w 26 [.pointer (some ⟨q0, 0, none⟩), .pointer (some ⟨q1, 0, none⟩), .pointer (some ⟨q2, 0, none⟩)]).cell j⟩⟩ (by omega)).mono fun e w' h => ⟨h.1, h.2 ▸ k1⟩)
 have HT := H_ (And.intro h0 (And.intro h1 h2))
 have HJ := H_ (And.intro ho (And.intro hx (And.intro hy (And.intro hwo (And.intro hwx (And.intro hwy hmax))))))
 obtain ⟨xs, hxs⟩ : ∃ xs, xs = (three (some o) (some x) (some y) []).2 := ⟨_, rfl⟩
 rw [← hxs]
 have HZ := H_ (And.intro hz hxs)
 have HSZ : Hid (JOk z ∧ Fit z ∧ z.nodes ≤ 1048576 ∧ z.bytes ≤ 1099511627776 ∧ xs.length ≤ 131072) := H_ (by
  have w1 : ow JV.nodes (some z) ≤ ow JV.nodes (some x) + ow JV.nodes (some y) := by rw [← hz]; exact three_weight weight_nodes _ (OOk.one hx) _ _ (OOk.one ho) (OOk.one hy) _
  have w2 : ow JV.bytes (some z) ≤ ow JV.bytes (some x) + ow JV.bytes (some y) := by rw [← hz]; exact three_weight weight_bytes _ (OOk.one hx) _ _ (OOk.one ho) (OOk.one hy) _
  have w3 := three_few _ (OOk.one hx) (some o) (some y) (OOk.one ho) (OOk.one hy) []
  rw [← hxs] at w3
  have w4 : z.nodes ≤ x.nodes + y.nodes := w1
  have w5 : z.bytes ≤ x.bytes + y.bytes := w2
  have w6 : xs.length ≤ x.nodes + y.nodes := w3
  have := hwx.1; have := hwx.2.1; have := hwy.1; have := hwy.2.1
  exact ⟨three_ok _ (OOk.one hx) _ _ (OOk.one ho) (OOk.one hy) _ z hz, three_fit _ (OOk.one hx) (fun j e => by injection e with e; rw [← e]; exact hwx) _ _ (OOk.one ho) (OOk.one hy) (fun j e => by injection e with e; rw [← e]; exact hwy) _ z hz, by omega, by omega, by omega⟩)
 have hmf : ∀ (fn : Fn) (first cap : Array Value) (w : World), (Instr.makeFunc fn first cap).run Tryz.prog w = .ok (.func fn first cap) w := fun _ _ _ _ => rfl
 have HGL : Hid (1 < w.heap.size) := H_ (by
  obtain ⟨mg, hmg⟩ := hmax
  exact World.block_lt_of_cell? w _ hmg)
 clear h0 h1 h2 ho hx hy hwo hwx hwy hz hxs hmax
 go_enter Tryz.func9, Tryz.ntmps9
 go_upto_region 7 with (go_at_call 27; refine HNO.out.mono ?_; rintro e w1 ⟨rfl, hk1⟩; have HK1 := H_ hk1; clear hk1)
 obtain ⟨cc, hcc⟩ : ∃ b, b = w1.heap.size := ⟨_, rfl⟩
 obtain ⟨ct, hct⟩ : ∃ b, b = w1.heap.size + 1 := ⟨_, rfl⟩
 rw [← hct, ← hcc]
 refine gen_codeF (fun W => Keeps (fun _ => False) w1 W ∧ CSt W.heap.size W cc ct none 0 0 []) ?_ ?_
 ·refine ⟨((Keeps.refl _ w1).alloc _).alloc _, ?_⟩
  have b1 := (Blk.new w1 29 [.slice none 0 0]).alloc (.cells #[.func (.func 28) #[] #[.pointer (some ⟨cc, 0, none⟩), .pointer (some ⟨ct, 0, none⟩)]] 69)
  have b2 := Blk.new (w1.alloc (.cells #[.slice none 0 0] 29)) 69 [.func (.func 28) #[] #[.pointer (some ⟨cc, 0, none⟩), .pointer (some ⟨ct, 0, none⟩)]]
  rw [World.size_alloc, ← hct] at b2
  rw [← hcc] at b1
  exact ⟨b1, b2, ⟨World.ownsRow_nil _ 0 _ 1, backW_keeps (Nat.le_refl _), fun g h => by simp [Value.ownBlock] at h⟩, ⟨b1.lt, b2.lt, Nat.le_refl _⟩, by omega⟩
 rintro w2 ⟨k12, hst⟩
 have HLO : Hid (w.heap.size ≤ cc ∧ cc < w2.heap.size ∧ ct = cc + 1) := H_ ⟨by rw [hcc]; exact HK1.out.size, hst.lo.1, by omega⟩
 have HST := H_ hst
 have HK2 := H_ (HK1.out.trans k12 fun _ _ h => h)
 have HFN : Hid (∀ W, Keeps (fun _ => False) w2 W → W.cell? ⟨ct, 0, none⟩ = some (.func (.func 28) #[] #[.pointer (some ⟨cc, 0, none⟩), .pointer (some ⟨ct, 0, none⟩)])) := H_ fun W hW => (hst.stay hW).fn.cell 0
 have root : ∀ {q : Nat} {T : TypeId} {yv : Value} {j : JV}, TreeAt D w q (.iface T yv) j → Hid (∀ W, Keeps (fun _ => False) w2 W → Calls Tryz.prog 38 #[.pointer (some ⟨q, 0, none⟩)] W fun e w' => e = .returned (.agg #[.iface T yv]) ∧ Hid (Keeps (fun _ => False) w2 w' ∧ Keeps (fun _ => False) W w')) := fun {q T yv j} h => H_ fun W hW => (root_any _ q T yv (hW.blk (HK2.out.blk h.2.1 (fun h => h)) (fun h => h))).mono fun e w' h => ⟨h.1, H_ ⟨hW.trans h.2 fun _ _ h => h, h.2⟩⟩
 have thing : ∀ {q : Nat} {T : TypeId} {yv : Value} {j : JV}, TreeAt D w q (.iface T yv) j → JOk j → j.within → Hid (∀ W, Keeps (fun _ => False) w2 W → Calls Tryz.prog 37 #[.agg #[.iface T yv]] W fun e w' => ∃ t, e = .returned t ∧ Hid (TAtR (fun i => (D i ∧ i < w.heap.size) ∨ w2.heap.size ≤ i) w' t j ∧ Keeps (fun _ => False) w2 w' ∧ Keeps (fun _ => False) W w')) := fun {q T yv j} h hj hw => H_ fun W hW => (ofR_any j hj (Nat.le_trans hw.1 (by decide)) (fun i => D i ∧ i < w.heap.size) W _ (((h.2.2.mono (C := fun i => D i ∧ i < w.heap.size) fun i h1 h2 => ⟨h1, h2⟩).stay HK2.out).stay hW)).mono fun e w' hh => by
  obtain ⟨t, he, ht, hk⟩ := hh
  exact ⟨t, he, H_ ⟨ht.mono fun i hi _ => hi.imp id fun h => Nat.le_trans hW.size h, hW.trans hk fun _ _ h => h, hk⟩⟩
 have HR0 := root HT.out.1
 have HR1 := root HT.out.2.1
 have HR2 := root HT.out.2.2
 have HO0 := thing HT.out.1 HJ.out.1 HJ.out.2.2.2.1
 have HO1 := thing HT.out.2.1 HJ.out.2.1 HJ.out.2.2.2.2.1
 have HO2 := thing HT.out.2.2 HJ.out.2.2.1 HJ.out.2.2.2.2.2.1
 have HTG : Hid (∀ W t0 t1 t2, Keeps (fun _ => False) w2 W → TAtR (fun i => (D i ∧ i < w.heap.size) ∨ w2.heap.size ≤ i) W t0 o → TAtR (fun i => (D i ∧ i < w.heap.size) ∨ w2.heap.size ≤ i) W t1 x → TAtR (fun i => (D i ∧ i < w.heap.size) ∨ w2.heap.size ≤ i) W t2 y → Calls Tryz.prog 28 #[t0, t1, t2, .slice none 0 0, .pointer (some ⟨cc, 0, none⟩), .pointer (some ⟨ct, 0, none⟩)] W fun e w' => ∃ t A n c, e = .returned t ∧ Hid (CSt w2.heap.size w' cc ct A n c xs ∧ TAt (fun i => D i ∨ w.heap.size ≤ i) w' t z ∧ Keeps (fun _ => False) w w')) := H_ fun W t0 t1 t2 hW a0 a1 a2 => by
  have hlo := HLO.out
  have hjw := HJ.out.2.2.2
  have hgl := HGL.out
  refine (tog_any (m0 := w2.heap.size) (some x) (OOk.one HJ.out.2.1) 0 (D := fun i => (D i ∧ i < w.heap.size) ∨ w2.heap.size ≤ i) (A := none) (n := 0) (c := 0) (xs := []) (o := some o) (y := some y) (way := []) ⟨HST.out.stay hW, fun i hi e => ?_, a0, a1, a2, OOk.one HJ.out.1, OOk.one HJ.out.2.1, OOk.one HJ.out.2.2.1, ⟨rfl, fun h => absurd h (Nat.lt_irrefl 0)⟩, fun h => absurd h (Nat.lt_irrefl 0), rfl, fun s hs => absurd hs List.not_mem_nil, ?_, (hjw.2.2.2.stay HK2.out).stay hW, ?_, ?_, ?_, ?_, ⟨by omega, by omega⟩⟩).mono ?_
  ·rcases e with e | e
   ·rcases hi with hi | hi <;> omega
   simp [Value.ownBlock] at e
  ·show 0 + x.deep ≤ 65536
   have := hjw.2.1.2.2
   omega
  ·exact fun j e => by injection e with e; rw [← e]; exact ⟨hjw.1.1, hjw.1.2.1⟩
  ·exact fun j e => by injection e with e; rw [← e]; exact ⟨hjw.2.1.1, hjw.2.1.2.1⟩
  ·exact fun j e => by injection e with e; rw [← e]; exact ⟨hjw.2.2.1.1, hjw.2.2.1.2.1⟩
  ·show 0 + x.nodes + y.nodes ≤ 1073741824
   have := hjw.2.1.1
   have := hjw.2.2.1.1
   omega
  rintro e w' ⟨t, A', n', c', he, hs, ht, hk, _⟩
  rw [HZ.out.1] at ht
  rw [← HZ.out.2, List.nil_append] at hs
  have ht' : TAt (TE (fun i => (D i ∧ i < w.heap.size) ∨ w2.heap.size ≤ i) W cc A' n' c') w' t z := ht
  have hsz := HK2.out.size
  have hsW := hW.size
  refine ⟨t, A', n', c', he, H_ ⟨hs, ht'.mono fun i hi _ => ?_, (HK2.out.trans hW fun _ _ h => h).trans hk fun i hi e => ?_⟩⟩
  ·rcases hi.1 with (h | h) | h
   ·exact .inl h.1
   ·exact .inr (by omega)
   exact .inr (by omega)
  rcases e with e | e
  ·omega
  simp [Value.ownBlock] at e
 have HTR : Hid (∀ W t, Keeps (fun _ => False) w W → TAt (fun i => D i ∨ w.heap.size ≤ i) W t z → Calls Tryz.prog 36 #[t] W fun e w' => ∃ p x, e = .returned (.tuple #[p, x]) ∧ Hid (((∃ q v, p = .pointer (some ⟨q, 0, none⟩) ∧ x = .nilIface ∧ TreeAt (fun i => D i ∨ w.heap.size ≤ i) w' q v z ∧ z.within) ∨ (p = .pointer none ∧ x = errE 3 ∧ ¬ z.within)) ∧ Keeps (fun _ => False) W w')) := H_ fun W t hW ht => (tree_any W t _ ht HSZ.out.1 HSZ.out.2.1 HSZ.out.2.2.1 HSZ.out.2.2.2.1).mono fun e w' hh => by
  obtain ⟨⟨q, v, he, ht, hw⟩ | ⟨he, hw⟩, hk⟩ := hh
  ·exact ⟨_, _, he, H_ ⟨.inl ⟨q, v, rfl, rfl, ⟨ht.1.elim id fun h => .inr (Nat.le_trans hW.size h), ht.2.1, ht.2.2.mono fun i hi _ => hi.elim id fun h => .inr (Nat.le_trans hW.size h)⟩, hw⟩, hk⟩⟩
  exact ⟨_, _, he, H_ ⟨.inr ⟨rfl, rfl, hw⟩, hk⟩⟩
 clear root thing hst k12 hcc hct
 refine wp_region_held_drew (S := fun V => V.cell? ⟨ct, 0, none⟩ = some (.func (.func 28) #[] #[.pointer (some ⟨cc, 0, none⟩), .pointer (some ⟨ct, 0, none⟩)])) (by kernel_rfl) (HFN.out _ (Keeps.refl _ _).drew) (fun h_ => ?_)
 refine tI 0 24 h_ ?_ (hy := .inl ⟨by rfl, by intro w' hSw; have cf := hSw; go_simp; first | done | rfl⟩)
 try simp only [pu]
 refine tI 1 25 h_ ?_
 try simp only [pu]
 refine tI 4 28 h_ ?_
 try simp only [pu]
 refine tI 7 31 h_ ?_
 try simp only [pu]
 refine rH 2 (some 26) fun K hK => ?_
 go_simp
 refine (HR0.out _ (Keeps.refl _ _).drew).mono ?_
 rintro e u2 ⟨rfl, A2⟩
 refine hK.out _ _ (HFN.out _ A2.out.1) (fun h_ => ?_)
 clear hK K
 try simp only [pu]
 refine rH 3 (some 27) fun K hK => ?_
 go_simp
 refine (HO0.out _ A2.out.1).mono ?_
 rintro e u3 ⟨t3, rfl, A3⟩
 refine hK.out _ _ (HFN.out _ A3.out.2.1) (fun h_ => ?_)
 clear hK K
 try simp only [pu]
 refine rH 5 (some 29) fun K hK => ?_
 go_simp
 refine (HR1.out _ A3.out.2.1).mono ?_
 rintro e u5 ⟨rfl, A5⟩
 refine hK.out _ _ (HFN.out _ A5.out.1) (fun h_ => ?_)
 clear hK K
 try simp only [pu]
 refine rH 6 (some 30) fun K hK => ?_
 go_simp
 refine (HO1.out _ A5.out.1).mono ?_
 rintro e u6 ⟨t6, rfl, A6⟩
 refine hK.out _ _ (HFN.out _ A6.out.2.1) (fun h_ => ?_)
 clear hK K
 try simp only [pu]
 refine rH 8 (some 32) fun K hK => ?_
 go_simp
 refine (HR2.out _ A6.out.2.1).mono ?_
 rintro e u8 ⟨rfl, A8⟩
 refine hK.out _ _ (HFN.out _ A8.out.1) (fun h_ => ?_)
 clear hK K
 try simp only [pu]
 refine rH 9 (some 33) fun K hK => ?_
 go_simp
 refine (HO2.out _ A8.out.1).mono ?_
 rintro e u9 ⟨t9, rfl, A9⟩
 refine hK.out _ _ (HFN.out _ A9.out.2.1) (fun h_ => ?_)
 clear hK K
 try simp only [pu]
 refine rH 10 (some 34) fun K hK => ?_
 go_simp
 refine (HTG.out _ t3 t6 t9 A9.out.2.1 ((((A3.out.1.stay A5.out.2).stay A6.out.2.2).stay A8.out.2).stay A9.out.2.2) ((A6.out.1.stay A8.out.2).stay A9.out.2.2) A9.out.1).mono ?_
 rintro e u10 ⟨t10, A, n, c, rfl, A10⟩
 refine hK.out _ _ (A10.out.1.fn.cell 0) (fun h_ => ?_)
 clear hK K
 try simp only [pu]
 refine rH 11 (some 35) fun K hK => ?_
 go_simp
 refine (HTR.out _ t10 A10.out.2.2 A10.out.2.1).mono ?_
 rintro e u11 ⟨p11, x11, rfl, A11⟩
 refine hK.out _ _ ((A10.out.1.stay A11.out.2).fn.cell 0) (fun h_ => ?_)
 clear hK K
 try simp only [pu]
 refine tI 12 23 h_ ?_
 try simp only [pu]
 refine tI 13 36 h_ ?_
 try simp only [pu]
 refine tI 14 37 h_ ?_
 try simp only [pu]
 refine tI 15 12 h_ ?_
 try simp only [pu]
 refine tI 16 13 h_ ?_
 try simp only [pu]
 refine wpAnyH_done (by kernel_rfl) ?_ _
 have HC := H_ (A10.out.1.stay A11.out.2)
 have HKE := H_ (A10.out.2.2.trans A11.out.2 fun _ _ h => h)
 rcases A11.out.1 with ⟨q, v, rfl, rfl, ht, hw⟩ | ⟨rfl, rfl, hw⟩
 ·have HTW := H_ (And.intro ht hw)
  have HCC : Hid (∀ W, Keeps (fun _ => False) u11 W → W.cell? ⟨cc, 0, none⟩ = some (.slice A n c)) := H_ fun W hW => (HC.out.stay hW).blk.cell 0
  clear ht hw
  go_upto_region 10 with fail
  refine wp_region_held_drew (S := fun V => V.cell? ⟨cc, 0, none⟩ = some (.slice A n c)) (by kernel_rfl) (HCC.out _ (Keeps.refl _ _).drew) (fun h_ => ?_)
  refine tI 0 41 h_ ?_
  try simp only [pu]
  refine tI 1 42 h_ ?_ (hy := .inl ⟨by rfl, by intro w' hSw; have cf := hSw; go_simp; first | done | rfl⟩)
  try simp only [pu]
  refine tI 2 6 h_ ?_
  try simp only [pu]
  refine tI 3 7 h_ ?_
  try simp only [pu]
  refine tI 4 8 h_ ?_
  try simp only [pu]
  refine wpAnyH_done (by kernel_rfl) ?_ _
  go_wp2
  go_ret3
  exact ⟨.inl ⟨q, v, A, n, c, rfl, HTW.out.1.stay (Keeps.refl _ _).drew, HTW.out.2, (HC.out.stay (Keeps.refl _ _).drew).read, HC.out.len⟩, HKE.out.trans (Keeps.refl _ _).drew fun _ _ h => h⟩
 have HTW := H_ hw
 clear hw
 unfold errE
 go_wp2
 go_ret3
 exact ⟨.inr ⟨rfl, HTW.out⟩, HKE.out⟩
end Go.Proofs.YtdmcioghdindfaaGreatDoor
