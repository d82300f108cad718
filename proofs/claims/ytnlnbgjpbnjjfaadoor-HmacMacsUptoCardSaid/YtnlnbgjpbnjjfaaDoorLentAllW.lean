/-
  WALKS (laws of hmac): lentAll, outer, keptAll, stays; the reference's joined and Of.
-/
import Derived.Test.YtnlnbgjpbnjjfaaDoorWakesW
import Derived.Test.YtnlnbgjpbnjjfaaDoorCardK
set_option linter.unusedSimpArgs false
namespace Go.Proofs.YtnlnbgjpbnjjfaaDoor
open Go Go.RowKit Go.Sha Go.Aff Go.Mac

/-- Part k of parts that lie. -/
theorem RdPartsO.at {F G : Nat → Prop} {w wr : World} {A : Option Addr} {pss : List (List Int)} (h : RdPartsO F w A pss) (hk : Keeps G w wr) (hG : ∀ i, G i → F i) {k : Nat} (hlt : k < pss.length) :
    ∃ g o bs A' c', A = some ⟨g, o, none⟩ ∧ pss[k]? = some bs ∧ wr.cell? ⟨g, o + k, none⟩ = some (.slice A' bs.length c') ∧ Rd wr A' bs.length (vb bs) ∧ IsBytes bs ∧ bs.length ≤ c' ∧ bs.length ≤ 140737488351232 := by
  obtain ⟨vals, hv, _, hparts⟩ := h.keep hk hG
  obtain ⟨g, o, e, hc⟩ := hv.2 (by omega)
  obtain ⟨bs, hbs⟩ : ∃ bs, pss[k]? = some bs := ⟨_, List.getElem?_eq_getElem hlt⟩
  obtain ⟨A', c', h1, h2, _, h4, h5, h6⟩ := hparts k bs hbs
  exact ⟨g, o, bs, A', c', e, hbs, (hc k hlt).trans h1, h2, h4, h5, h6⟩
/-- Values that are slices of lent bytes. -/
def LentVals (w wr : World) (vals : List Value) (pss : List (List Int)) : Prop :=
  vals.length = pss.length ∧ ∀ (i : Nat) (bs : List Int), pss[i]? = some bs → ∃ g cap, vals[i]? = some (Value.slice (some ⟨g, 0, none⟩) bs.length cap) ∧ Lent w wr g bs.length cap bs
/-- .. in a row of the call's own. -/
def LentAll (w wr : World) (A : Option Addr) (n c : Nat) (pss : List (List Int)) : Prop := ∃ vals, Mine w wr 22 A n c vals ∧ LentVals w wr vals pss

theorem LentVals.keep {w wr w' : World} {vals : List Value} {pss : List (List Int)} (h : LentVals w wr vals pss) (hk : Keeps (fun _ => False) wr w') : LentVals w w' vals pss :=
  ⟨h.1, fun i bs hi => by obtain ⟨g, cap, a, b⟩ := h.2 i bs hi; exact ⟨g, cap, a, b.keep hk⟩⟩
theorem LentAll.keep {w wr w' : World} {A : Option Addr} {n c : Nat} {pss : List (List Int)} (h : LentAll w wr A n c pss) (hk : Keeps (fun _ => False) wr w') : LentAll w w' A n c pss := by
  obtain ⟨vals, a, b⟩ := h
  exact ⟨vals, a.keep hk, b.keep hk⟩
/-- Kept where only a row of slices is written. -/
theorem Lent.beside {w wr w' : World} {g n cap : Nat} {bs : List Int} {wx : World} {A : Option Addr} {m c : Nat} {vals : List Value} (h : Lent w wr g n cap bs) (ho : Mine wx wr 22 A m c vals) (hx : Keeps (fun _ => False) w wx) (hk : Keeps (fun i => (Value.slice A m c).ownBlock = some i) wr w') : Lent w w' g n cap bs := by
  refine ⟨hk.own h.1 (fun i hi hF => ?_), h.2.1.trans hk (fun i hi hF => ?_), h.2.2⟩
  · exact own_types ho.1 h.1 (by decide) hF hi
  · have := ho.2.2 i hF
    have := hx.size
    omega
theorem lentVals_step {w wr w1 w2 : World} {pss : List (List Int)} {k : Nat} {A A' : Option Addr} {c c' g cap : Nat} {vals : List Value} {bs : List Int}
    (hm : Mine w wr 22 A k c vals) (hv : LentVals w wr vals (pss.take k)) (hb : pss[k]? = some bs) (hl : Lent wr w1 g bs.length cap bs)
    (hown : w2.ownsRow 0 22 1 (.slice A' (k + 1) c') (k + 1) (vals ++ [Value.slice (some ⟨g, 0, none⟩) bs.length cap])) {o : Obj} (hg : (w1.alloc o).grownBy w2 (Value.slice A k c).ownBlock)
    (hbl : (Value.slice A' (k + 1) c').ownBlock = (Value.slice A k c).ownBlock ∨ (Value.slice A' (k + 1) c').ownBlock = some (w1.heap.size + 1)) : LentAll w w2 A' (k + 1) c' (pss.take (k + 1)) := by
  have hkl : k < pss.length := (List.getElem?_eq_some_iff.1 hb).1
  have hm1 := hm.keep hl.2.1
  have hma : Mine w (w1.alloc o) 22 A k c vals := hm1.keep ((Keeps.refl _ _).alloc o)
  have hkk : Keeps (fun i => (Value.slice A k c).ownBlock = some i) (w1.alloc o) w2 := (Keeps.of_grown hg).mono fun i _ h => h
  have hvl : vals.length = k := by rw [hv.1, List.length_take]; omega
  refine ⟨_, hm1.app hown hg hbl, by simp [hvl]; omega, fun i b hi => ?_⟩
  have hil : i < k + 1 := by
    have := (List.getElem?_eq_some_iff.1 hi).1
    rw [List.length_take] at this
    omega
  rw [List.getElem?_take, if_pos hil] at hi
  by_cases he : i = k
  · subst he
    rw [hb] at hi
    injection hi with hi
    subst hi
    refine ⟨g, cap, by rw [List.getElem?_append_right (by omega), hvl]; simp, ?_⟩
    have h1 : Lent w (w1.alloc o) g bs.length cap bs := ⟨(hl.keep ((Keeps.refl _ _).alloc o)).1, hma.2.1, fun x hx => Nat.le_trans hm.2.1.size (hl.2.2 x hx)⟩
    exact h1.beside hma (Keeps.refl _ _) hkk
  · obtain ⟨g1, cap1, a, b1⟩ := hv.2 i b (by rw [List.getElem?_take, if_pos (by omega)]; exact hi)
    refine ⟨g1, cap1, by rw [List.getElem?_append_left (by omega)]; exact a, ?_⟩
    exact ((b1.keep hl.2.1).keep ((Keeps.refl _ _).alloc o)).beside hma (Keeps.refl _ _) hkk

set_option maxHeartbeats 1000000 in
set_option maxRecDepth 100000 in
theorem lentAll_any (w : World) (A : Option Addr) (n c : Nat) (pss : List (List Int)) (hnn : pss.length = n) (hr : RdPartsO (fun _ => False) w A pss) (hn : n ≤ 1048576) :
    Calls Tryd.prog 25 #[.slice A n c] w fun e w' => ∃ A' c', e = .returned (.slice A' n c') ∧ LentAll w w' A' n c' pss := by
  have HAT : Hid (∀ (wr : World) (k : Nat), Keeps (fun _ => False) w wr → k < n → ∃ g o bs A' c', A = some ⟨g, o, none⟩ ∧ pss[k]? = some bs ∧ wr.cell? ⟨g, o + k, none⟩ = some (.slice A' bs.length c') ∧ Rd wr A' bs.length (vb bs) ∧ IsBytes bs ∧ bs.length ≤ c' ∧ bs.length ≤ 140737488351232) := Lib.hid fun wr k hk hlt => hr.at hk (fun _ h => h) (by omega)
  have R0 : Hid (LentAll w w none 0 0 (pss.take 0)) := Lib.hid ⟨[], ⟨World.ownsRow_nil _ _ _ _, Keeps.refl _ _, fun g h => by cases h⟩, by simp, fun i bs h => by simp at h⟩
  have HTK : Hid (pss.take n = pss) := Lib.hid (by rw [← hnn, List.take_length])
  clear hr hnn
  go_enter Tryd.func25, Tryd.ntmps25
  go_wp2
  go_loopw [3, 5, 8] (fun v _ i wr => ∃ (k : Nat) (A' : Option Addr) (c' : Nat), k ≤ n ∧ i = .int .i64 k ∧ v = .slice A' k c' ∧ Hid (LentAll w wr A' k c' (pss.take k))) (fun _ _ i _ => n - (intOf i).toNat)
  case atStart => exact ⟨0, none, 0, by omega, rfl, rfl, R0⟩
  case round =>
    clear R0
    obtain ⟨k, A2, c2, hk, rfl, rfl, hL⟩ := hrel
    obtain ⟨vals, hm, hv⟩ := hL.out
    by_cases hlt : k < n
    · obtain ⟨g, o, bs, A1, c1, hA, hbs, hcell, hr1, hb1, hc1, hrb⟩ := HAT.out wr k hm.2.1 hlt
      subst hA
      have hlent := lent_any wr A1 bs.length c1 bs rfl hr1 hrb
      have hstep := fun (w1 w2 : World) (A' : Option Addr) (c' g cap : Nat) (o : Obj) (h1 : Lent wr w1 g bs.length cap bs) h2 (h3 : (w1.alloc o).grownBy w2 (Value.slice A2 k c2).ownBlock) h4 => lentVals_step (w2 := w2) (A' := A') (c' := c') hm hv hbs h1 h2 h3 h4
      obtain ⟨m, hmm⟩ : ∃ m, m = bs.length := ⟨_, rfl⟩
      rw [← hmm] at hcell hlent hstep hrb
      have HLE := Lib.hid hlent
      have HST := Lib.hid hstep
      have HM := Lib.hid hm
      clear hlent hstep hm hv hL hmm hr1 hb1 hbs hc1
      go_wp2_with (first
        | (go_at_call 12; refine HLE.out.mono ?_; rintro e w1 ⟨g1, cap1, rfl, hl1⟩; have HL1 := Lib.hid hl1; have HMA := Lib.hid (HM.out.keep (hl1.2.1.alloc (.cells #[Value.slice (some ⟨g1, 0, none⟩) m cap1] 22))); have HRD := Lib.hid (Rd.of_blk (Blk.new w1 22 [Value.slice (some ⟨g1, 0, none⟩) m cap1]) (n := 1) rfl); clear hl1)
        | (at_builtin; refine wpList_append_rd _ rfl (.tmp 12) (.tmp 15) 24 rfl 22 (.slice none 0 0) 24 Tryd.underlying24 infoSl rfl (.slice A2 k c2) k vals rfl HMA.out.1 _ 1 1 _ rfl HRD.out (by intro u hu; rw [List.mem_singleton.1 hu]; rfl) (by unfold maxLen; omega) (by omega) ?_; intro A5 c5 w5 hown5 hg5 hb5; have HN := Lib.hid (HST.out w1 w5 A5 c5 g1 cap1 _ HL1.out hown5 hg5 (by simpa only [World.size_alloc] using hb5)); clear hown5 hg5 hb5))
      go_roundw
      case rel => exact ⟨k + 1, A5, c5, by omega, by go_num, rfl, HN⟩
      case measure => simp [intOf]; omega
    · obtain rfl : k = n := by omega
      rw [HTK.out] at hL
      clear hm hv
      go_wp2
      go_ret
      exact ⟨_, _, rfl, hL.out⟩

/-- A row of slices that is handed in, with k marks behind it in its spare room. -/
def FullAt (w wr : World) (A : Option Addr) (n k c : Nat) (vals : List Value) : Prop :=
  ∃ ms : List Value, Mine w wr 22 A (n + k) c (vals ++ ms) ∧ vals.length = n ∧ ms.length = k ∧ ∀ i, i < k → ∃ g, ms[i]? = some (Value.slice (some ⟨g, 0, none⟩) 1 1) ∧ wr.heap[g]? = some (.cells #[.int .u8 126] 5 (1, 2)) ∧ w.heap.size ≤ g
theorem FullAt.keep {w wr w' : World} {A : Option Addr} {n k c : Nat} {vals : List Value} (h : FullAt w wr A n k c vals) (hk : Keeps (fun _ => False) wr w') : FullAt w w' A n k c vals := by
  obtain ⟨ms, a, b, c, d⟩ := h
  exact ⟨ms, a.keep hk, b, c, fun i hi => by obtain ⟨g, x, y, z⟩ := d i hi; exact ⟨g, x, (hk.block g (Array.getElem?_eq_some_iff.1 y).1 (fun h => h)).trans y, z⟩⟩
theorem own_apart {w : World} {b : Nat} {e t : TypeId} {s n p : Nat} {v : Value} {xs : List Value} {cs : Array Value} {f : Nat × Nat} (h : w.ownsRow b e s v n xs) (hb : w.heap[p]? = some (.cells cs t f)) (hne : e ≠ t) : ¬ v.ownBlock = some p := by
  intro hg
  rcases h.2 with ⟨rfl, _⟩ | ⟨g1, c1, cur, rfl, _, hh, _⟩
  · cases hg
  · have e1 : some g1 = some p := hg
    injection e1 with e1
    subst e1
    rw [hb] at hh
    injection hh with hh
    injection hh with _ ht
    exact hne ht.symm
theorem mark_lies {w : World} {g : Nat} (h : w.heap[g]? = some (.cells #[.int .u8 126] 5 (1, 2))) : Rd w (some ⟨g, 0, none⟩) 1 (vb [126]) := by
  refine ⟨rfl, fun _ => ⟨g, 0, rfl, fun j hj => ?_⟩⟩
  obtain rfl : j = 0 := by omega
  rw [cell_of_row w g 0 _ 5 (1, 2) h]
  rfl
theorem fullAt_step {w wr w2 : World} {A A' : Option Addr} {n k c c' : Nat} {vals ms : List Value}
    (hm : Mine w wr 22 A (n + k) c (vals ++ ms)) (hvl : vals.length = n) (hml : ms.length = k) (hms : ∀ i, i < k → ∃ g, ms[i]? = some (Value.slice (some ⟨g, 0, none⟩) 1 1) ∧ wr.heap[g]? = some (.cells #[.int .u8 126] 5 (1, 2)) ∧ w.heap.size ≤ g)
    {o : Obj} (hown : w2.ownsRow 0 22 1 (.slice A' (n + k + 1) c') (n + k + 1) ((vals ++ ms) ++ [Value.slice (some ⟨wr.heap.size, 0, none⟩) 1 1]))
    (hg : ((wr.alloc (.cells #[.int .u8 126] 5 (1, 2))).alloc o).grownBy w2 (Value.slice A (n + k) c).ownBlock)
    (hbl : (Value.slice A' (n + k + 1) c').ownBlock = (Value.slice A (n + k) c).ownBlock ∨ (Value.slice A' (n + k + 1) c').ownBlock = some ((wr.alloc (.cells #[.int .u8 126] 5 (1, 2))).heap.size + 1)) : FullAt w w2 A' n (k + 1) c' vals := by
  have hk1 : Keeps (fun _ => False) wr (wr.alloc (.cells #[.int .u8 126] 5 (1, 2))) := (Keeps.refl _ _).alloc _
  have hk2 : Keeps (fun _ => False) wr ((wr.alloc (.cells #[.int .u8 126] 5 (1, 2))).alloc o) := hk1.alloc _
  have hm1 := hm.keep hk1
  have hm2 := hm.keep hk2
  have hkk : Keeps (fun i => (Value.slice A (n + k) c).ownBlock = some i) ((wr.alloc (.cells #[.int .u8 126] 5 (1, 2))).alloc o) w2 := (Keeps.of_grown hg).mono fun i _ h => h
  have hnew : ((wr.alloc (.cells #[.int .u8 126] 5 (1, 2))).alloc o).heap[wr.heap.size]? = some (.cells #[.int .u8 126] 5 (1, 2)) := (((Keeps.refl (fun _ => False) _).alloc o).block wr.heap.size (by simp) (fun h => h)).trans (Go.heap_alloc_new wr _)
  refine ⟨ms ++ [Value.slice (some ⟨wr.heap.size, 0, none⟩) 1 1], by have := hm1.app hown hg hbl; rwa [List.append_assoc] at this, hvl, by simp [hml], fun i hi => ?_⟩
  by_cases he : i = k
  · subst he
    refine ⟨wr.heap.size, by rw [List.getElem?_append_right (by omega), hml]; simp, (hkk.block _ (Array.getElem?_eq_some_iff.1 hnew).1 (own_apart hm2.1 hnew (by decide))).trans hnew, hm.2.1.size⟩
  · obtain ⟨g, x, y, z⟩ := hms i (by omega)
    have y2 := (hk2.block g (Array.getElem?_eq_some_iff.1 y).1 (fun h => h)).trans y
    exact ⟨g, by rw [List.getElem?_append_left (by omega)]; exact x, (hkk.block _ (Array.getElem?_eq_some_iff.1 y2).1 (own_apart hm2.1 y2 (by decide))).trans y2, z⟩
/-- A literal empty row of slices, appended to. -/
theorem mine_lit2 {w w' : World} {e : TypeId} {A' : Option Addr} {n' c' : Nat} {zs : List Value} (hown : w'.ownsRow 0 e 1 (.slice A' n' c') n' zs) (hg : (w.alloc (.cells #[] e)).grownBy w' (Value.slice (some ⟨w.heap.size, 0, none⟩) 0 0).ownBlock)
    (hb : (Value.slice A' n' c').ownBlock = (Value.slice (some ⟨w.heap.size, 0, none⟩) 0 0).ownBlock ∨ (Value.slice A' n' c').ownBlock = some (w.heap.size + 1)) : Mine w w' e A' n' c' zs := by
  have ho : (w.alloc (.cells #[] e)).ownsRow 0 e 1 (.slice (some ⟨w.heap.size, 0, none⟩) 0 0) 0 [] := World.ownsRow_made (base := 0) (e := e) (size := 1) w #[] 0 (by omega) (by unfold maxLen; omega) rfl
  have hm : Mine w (w.alloc (.cells #[] e)) e (some ⟨w.heap.size, 0, none⟩) 0 0 [] := ⟨ho, (Keeps.refl _ w).alloc _, fun g e => by have e1 : some w.heap.size = some g := e; injection e1 with e1; omega⟩
  exact hm.app0 hown hg (by simpa only [World.size_alloc] using hb)

set_option maxHeartbeats 1000000 in
set_option maxRecDepth 100000 in
theorem outer_any (w : World) (A : Option Addr) (n c : Nat) (vals : List Value) (hr : Rd w A n vals) (h1 : ∀ u ∈ vals, u.oneCell' = true) (hn : n ≤ 1048576) :
    Calls Tryd.prog 26 #[.slice A n c] w fun e w' => ∃ g c', e = .returned (.tuple #[.slice (some ⟨g, 0, none⟩) n c', .slice (some ⟨g, 0, none⟩) (n + 20) c']) ∧ FullAt w w' (some ⟨g, 0, none⟩) n 20 c' vals := by
  have HO0 : Hid ((w.alloc (.cells #[] 22)).ownsRow 0 22 1 (.slice (some ⟨w.heap.size, 0, none⟩) 0 0) 0 []) := Lib.hid (World.ownsRow_made (base := 0) (e := 22) (size := 1) w #[] 0 (by omega) (by unfold maxLen; omega) rfl)
  have HRD := Lib.hid (hr.alloc (.cells #[] 22))
  have HVL := Lib.hid hr.1
  have H1 := Lib.hid h1
  clear hr h1
  go_enter Tryd.func26, Tryd.ntmps26
  go_wp2_with (at_builtin; refine wpList_append_rd _ rfl (.tmp 6) (.tmp 7) 24 rfl 22 (.slice none 0 0) 24 Tryd.underlying24 infoSl rfl (.slice (some ⟨w.heap.size, 0, none⟩) 0 0) 0 [] rfl HO0.out A n c vals rfl HRD.out H1.out (by unfold maxLen; omega) (by omega) ?_; intro A1 c1 w1 hown hg hb; simp only [Nat.zero_add, List.nil_append] at hown hb ⊢; have HM1 := Lib.hid (mine_lit2 hown hg (by simpa only [World.size_alloc] using hb)); clear hown hg hb)
  go_loopw [4, 5] (fun v i wr => ∃ (k : Nat) (A' : Option Addr) (c' : Nat), k ≤ 20 ∧ i = .int .i64 k ∧ v = .slice A' (n + k) c' ∧ Hid (FullAt w wr A' n k c' vals)) (fun _ i _ => 20 - (intOf i).toNat)
  case atStart => exact ⟨0, A1, c1, by omega, rfl, rfl, Lib.hid ⟨[], by rw [List.append_nil]; exact HM1.out, HVL.out, rfl, fun i hi => by omega⟩⟩
  case round =>
    clear HM1 HO0 HRD
    obtain ⟨k, A2, c2, hk, rfl, rfl, hF⟩ := hrel
    obtain ⟨ms, hm, hvl, hml, hms⟩ := hF.out
    by_cases hlt : k < 20
    · have hstep := fun (w2 : World) (A' : Option Addr) (c' : Nat) o h2 h3 h4 => fullAt_step (w2 := w2) (A' := A') (c' := c') (o := o) hm hvl hml hms h2 h3 h4
      have HST := Lib.hid hstep
      obtain ⟨zs, hzs⟩ : ∃ zs, zs = vals ++ ms := ⟨_, rfl⟩
      rw [← hzs] at hm
      have HZ := Lib.hid hzs
      have HMA := Lib.hid (hm.keep (((Keeps.refl _ _).alloc (.cells #[.int .u8 126] 5 (1, 2))).alloc (.cells #[Value.slice (some ⟨wr.heap.size, 0, none⟩) 1 1] 22)))
      have HRD := Lib.hid (Rd.of_blk (Blk.new (wr.alloc (.cells #[.int .u8 126] 5 (1, 2))) 22 [Value.slice (some ⟨wr.heap.size, 0, none⟩) 1 1]) (n := 1) rfl)
      simp only [World.size_alloc] at HRD
      have kc := fun (w : World) (C : Array Value) (n c : Nat) => Lib.run_convert_bytes_const (P := Tryd.prog) w 22 5 C n c Tryd.underlying22 Tryd.underlying5
      clear hstep hm hvl hml hms hF hzs
      go_wp2_with (at_builtin; refine wpList_append_rd _ rfl (.tmp 13) (.tmp 16) 24 rfl 22 (.slice none 0 0) 24 Tryd.underlying24 infoSl rfl (.slice A2 (n + k) c2) (n + k) zs rfl HMA.out.1 _ 1 1 _ rfl HRD.out (by intro u hu; rw [List.mem_singleton.1 hu]; rfl) (by unfold maxLen; omega) (by omega) ?_; intro A5 c5 w5 hown5 hg5 hb5; rw [HZ.out] at hown5; have HN := Lib.hid (HST.out w5 A5 c5 _ hown5 hg5 (by simpa only [World.size_alloc] using hb5)); clear hown5 hg5 hb5)
      go_roundw
      case rel => exact ⟨k + 1, A5, c5, by omega, by go_num, rfl, HN⟩
      case measure => simp [intOf]; omega
    · obtain rfl : k = 20 := by omega
      obtain ⟨g, rfl, _, hcap⟩ := hm.form (by omega)
      have hcut := cut_h (P := Tryd.prog) Tryd.underlying24 (by kernel_rfl) (some ⟨g, 0, none⟩) (n + 20) c2 n n rfl (by omega)
      have hc0 : cutA (some ⟨g, 0, none⟩) c2 0 = some ⟨g, 0, none⟩ := by
        unfold cutA
        rw [if_neg (by omega)]
        rfl
      rw [hc0] at hcut
      clear hm hvl hml hms hc0
      go_wp2
      go_ret2
      exact ⟨_, _, rfl, hF.out⟩

theorem LentAll.at {w0 w : World} {A : Option Addr} {n c : Nat} {pss : List (List Int)} (h : LentAll w0 w A n c pss) {k : Nat} {bs : List Int} (hb : pss[k]? = some bs) (hk : k < n) :
    ∃ g ga cap, A = some ⟨ga, 0, none⟩ ∧ w.cell? ⟨ga, k, none⟩ = some (.slice (some ⟨g, 0, none⟩) bs.length cap) ∧ Lent w0 w g bs.length cap bs := by
  obtain ⟨vals, hm, hv⟩ := h
  obtain ⟨ga, rfl, _, _⟩ := hm.form (by omega)
  obtain ⟨g, cap, h1, h2⟩ := hv.2 k bs hb
  exact ⟨g, ga, cap, rfl, (own_cell hm.1 k hk).trans h1, h2⟩

set_option maxHeartbeats 1000000 in
set_option maxRecDepth 100000 in
theorem keptAll_any (w w0 : World) (A B : Option Addr) (n c d : Nat) (pss : List (List Int)) (hnn : pss.length = n) (hl : LentAll w0 w A n c pss) (hr : RdPartsO (fun _ => False) w B pss) (hn : n ≤ 1048576) :
    Calls Tryd.prog 28 #[.slice A n c, .slice B n d] w fun e w' => e = .returned (.bool true) ∧ Keeps (fun _ => False) w w' := by
  have HAT : Hid (∀ (wr : World) (k : Nat), Keeps (fun _ => False) w wr → k < n → ∃ g o g1 ga bs cap A' c', B = some ⟨g, o, none⟩ ∧ wr.cell? ⟨g, o + k, none⟩ = some (.slice A' bs c') ∧ A = some ⟨ga, 0, none⟩ ∧ wr.cell? ⟨ga, k, none⟩ = some (.slice (some ⟨g1, 0, none⟩) bs cap) ∧
      ∀ x, Calls Tryd.prog 15 #[.slice (some ⟨g1, 0, none⟩) bs cap, .slice A' bs c'] (wr.drewN x) fun e w' => e = .returned (.bool true) ∧ w' = wr.drewN x) := Lib.hid fun wr k hk hlt => by
    obtain ⟨g, o, bs, A', c', h1, h2, h3, h4, _, _, h7⟩ := hr.at (k := k) hk (fun _ h => h) (by omega)
    obtain ⟨g1, ga, cap, h8, h9, h10⟩ := (hl.keep hk).at h2 hlt
    exact ⟨g, o, g1, ga, bs.length, cap, A', c', h1, h3, h8, h9, fun x => kept_any (wr.drewN x) w0 g1 bs.length cap A' c' bs rfl (h10.keep ((Keeps.refl _ _).drewN x)) (h4.drewN x) h7⟩
  clear hl hr hnn
  go_enter Tryd.func28, Tryd.ntmps28
  go_wp2
  go_loopw [5, 8] (fun _ i wr => ∃ k : Nat, k ≤ n ∧ i = .int .i64 k ∧ Hid (Keeps (fun _ => False) w wr)) (fun _ i _ => n - (intOf i).toNat)
  case atStart => exact ⟨0, by omega, rfl, Lib.hid (Keeps.refl _ _)⟩
  case round =>
    obtain ⟨k, hk, rfl, HK⟩ := hrel
    by_cases hlt : k < n
    · obtain ⟨g, o, g1, ga, m, cap, A', c', hB, hcb, hA, hca, hkp⟩ := HAT.out wr k HK.out hlt
      subst hB hA
      have HKP := Lib.hid hkp
      clear hkp
      go_wp2
      go_quiet ((go_at_call 15; exact Calls.quiet_of_same (HKP.out _)))
      go_wp2
      go_roundw
      case rel => exact ⟨k + 1, by omega, by go_num, Lib.hid (HK.out.drewN _)⟩
      case measure => simp [intOf]; omega
    · go_wp2
      go_ret
      exact ⟨rfl, HK.out⟩

set_option maxHeartbeats 1000000 in
set_option maxRecDepth 100000 in
theorem stays_any (w w0 w1 : World) (g c : Nat) (vals : List Value) (B : Option Addr) (n d : Nat) (pss : List (List Int)) (hnn : pss.length = n) (hf : FullAt w0 w (some ⟨g, 0, none⟩) n 20 c vals) (hv : LentVals w1 w vals pss) (hr : RdPartsO (fun _ => False) w B pss) (hn : n ≤ 1048576) :
    Calls Tryd.prog 29 #[.slice (some ⟨g, 0, none⟩) (n + 20) c, .slice B n d] w fun e w' => e = .returned (.bool true) ∧ Keeps (fun _ => False) w w' := by
  have HLO : Hid (∀ (wr : World) (k : Nat), Keeps (fun _ => False) w wr → k < n → ∃ (gb o g1 bs cap : Nat) (A' : Option Addr) (c' : Nat) (s : ByteArray), B = some ⟨gb, o, none⟩ ∧ wr.cell? ⟨gb, o + k, none⟩ = some (.slice A' bs c') ∧ wr.cell? ⟨g, k, none⟩ = some (.slice (some ⟨g1, 0, none⟩) bs cap) ∧
      (∀ x, (convert 22 9 (.slice A' bs c')).run Tryd.prog (wr.drewN x) = .ok (.string s) (wr.drewN x)) ∧ (∀ x, (convert 22 9 (.slice (some ⟨g1, 0, none⟩) bs cap)).run Tryd.prog (wr.drewN x) = .ok (.string s) (wr.drewN x))) := Lib.hid fun wr k hk hlt => by
    obtain ⟨gb, o, bs, A', c', h1, h2, h3, h4, _, _, h7⟩ := hr.at (k := k) hk (fun _ h => h) (by omega)
    obtain ⟨ms, hm, hvl, hml, hms⟩ := hf.keep hk
    obtain ⟨g1, cap, h8, h9⟩ := (hv.keep hk).2 k bs h2
    refine ⟨gb, o, g1, bs.length, cap, A', c', strOfNums bs, h1, h3, ?_, fun x => ?_, fun x => ?_⟩
    · rw [own_cell hm.1 k (by omega), List.getElem?_append_left (by omega)]; exact h8
    · exact convert_rd (P := Tryd.prog) (wr.drewN x) Tryd.underlying22 Tryd.underlying5 Tryd.underlying9 c' h4
    · exact convert_rd (P := Tryd.prog) (wr.drewN x) Tryd.underlying22 Tryd.underlying5 Tryd.underlying9 cap (h9.rd rfl)
  have HHI : Hid (∀ (wr : World) (k : Nat), Keeps (fun _ => False) w wr → n ≤ k → k < n + 20 → ∃ g1, wr.cell? ⟨g, k, none⟩ = some (.slice (some ⟨g1, 0, none⟩) 1 1) ∧
      (∀ x, (convert 22 9 (.slice (some ⟨g1, 0, none⟩) 1 1)).run Tryd.prog (wr.drewN x) = .ok (.string { data := #[126] }) (wr.drewN x))) := Lib.hid fun wr k hk h1 h2 => by
    obtain ⟨ms, hm, hvl, hml, hms⟩ := hf.keep hk
    obtain ⟨g1, h3, h4, _⟩ := hms (k - n) (by omega)
    refine ⟨g1, ?_, fun x => ?_⟩
    · rw [own_cell hm.1 k (by omega), List.getElem?_append_right (by omega), hvl]; exact h3
    · exact convert_rd (P := Tryd.prog) (wr.drewN x) Tryd.underlying22 Tryd.underlying5 Tryd.underlying9 1 (mark_lies h4)
  clear hf hv hr hnn
  go_enter Tryd.func29, Tryd.ntmps29
  go_wp2
  go_loopw [5, 8] (fun _ i wr => ∃ k : Nat, k ≤ n + 20 ∧ i = .int .i64 k ∧ Hid (Keeps (fun _ => False) w wr)) (fun _ i _ => n + 20 - (intOf i).toNat)
  case atStart => exact ⟨0, by omega, rfl, Lib.hid (Keeps.refl _ _)⟩
  case round =>
    obtain ⟨k, hk, rfl, HK⟩ := hrel
    by_cases hlt : k < n
    · obtain ⟨gb, o, g1, m, cap, A', c', str, hB, hcb, hca, cv1, cv2⟩ := HLO.out wr k HK.out hlt
      subst hB
      have hlt' : (k : Int) < (n : Int) := by omega
      have hlt'' : (k : Int) < (n : Int) + 20 := by omega
      have hge : decide (n ≤ k) = false := by simpa using hlt
      go_wp2
      go_quiet (fail)
      go_wp2
      go_roundw
      case rel => exact ⟨k + 1, by omega, by go_num, Lib.hid (HK.out.drewN _)⟩
      case measure => simp [intOf]; omega
    · by_cases hlt2 : k < n + 20
      · obtain ⟨g1, hca, cv1⟩ := HHI.out wr k HK.out (by omega) hlt2
        have hge : decide (n ≤ k) = true := by simpa using hlt
        have hlt' : decide (k < n) = false := by simpa using hlt
        clear hlt
        have hlt'' : (k : Int) < (n : Int) + 20 := by omega
        go_wp2
        go_quiet (fail)
        go_wp2
        go_roundw
        case rel => exact ⟨k + 1, by omega, by go_num, Lib.hid (HK.out.drewN _)⟩
        case measure => simp [intOf]; omega
      · have hlt'' : ¬ ((k : Int) < (n : Int) + 20) := by omega
        go_wp2
        go_ret
        exact ⟨rfl, HK.out⟩
end Go.Proofs.YtnlnbgjpbnjjfaaDoor
