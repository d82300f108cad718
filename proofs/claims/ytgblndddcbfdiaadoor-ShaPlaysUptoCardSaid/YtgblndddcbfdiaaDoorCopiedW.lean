/-
  WALKS: copied (copies of parts, each with three bytes behind in its spare room).
-/
import Derived.Test.YtgblndddcbfdiaaDoorResW
import Derived.Test.YtgblndddcbfdiaaDoorMemK
import Derived.Deep.AppendLies
set_option linter.unusedSimpArgs false
namespace Go.Proofs.YtgblndddcbfdiaaDoor
open Go Go.RowKit Go.Sha Go.Aff

/-- The values vals are slices of the parts' bytes, each in a block of its own, with 1, 2, 3 behind. -/
def CopAt (w wr : World) (vals : List Value) (pss : List (List Int)) : Prop :=
  vals.length = pss.length ∧ ∃ gs cs : Nat → Nat, (∀ (i : Nat) (bs : List Int), pss[i]? = some bs → vals[i]? = some (Value.slice (some ⟨gs i, 0, none⟩) bs.length (cs i)) ∧
    wr.ownsRow 0 5 1 (.slice (some ⟨gs i, 0, none⟩) (bs.length + 3) (cs i)) (bs.length + 3) (vb (bs ++ [1, 2, 3])) ∧ w.heap.size ≤ gs i) ∧ ∀ i j : Nat, i < j → j < pss.length → gs i ≠ gs j
/-- While they are copied: k of them are. -/
def CopRel (w : World) (pss : List (List Int)) (k : Nat) (v : Value) (wr : World) : Prop :=
  ∃ A c vals, v = .slice A k c ∧ wr.ownsRow 0 26 1 v k vals ∧ CopAt w wr vals (pss.take k) ∧ Keeps (fun _ => False) w wr ∧ ∀ g, v.ownBlock = some g → w.heap.size ≤ g

theorem CopAt.keep {w wr w' : World} {vals : List Value} {pss : List (List Int)} (h : CopAt w wr vals pss) {F : Nat → Prop} (hk : Keeps F wr w') (hF : ∀ i (n c : Nat) xs, wr.ownsRow 0 5 1 (.slice (some ⟨i, 0, none⟩) n c) n xs → ¬ F i) : CopAt w w' vals pss := by
  obtain ⟨hl, gs, cs, h1, h2⟩ := h
  refine ⟨hl, gs, cs, fun i bs hi => ?_, h2⟩
  obtain ⟨a, b, c⟩ := h1 i bs hi
  exact ⟨a, hk.own b (fun g hg => by have e : some (gs i) = some g := hg; injection e with e; subst e; exact hF _ _ _ _ b), c⟩

theorem CopRel.step {w wr w' : World} {pss : List (List Int)} {k : Nat} {A A' : Option Addr} {c c' : Nat} {vals : List Value} {bs : List Int} {g cap : Nat} (hb : pss[k]? = some bs)
    (hat : CopAt w wr vals (pss.take k)) (hkp : Keeps (fun _ => False) w wr) (hlow : ∀ g, (Value.slice A k c).ownBlock = some g → w.heap.size ≤ g) (hov : wr.ownsRow 0 26 1 (.slice A k c) k vals)
    (hk : Keeps (fun i => (Value.slice A k c).ownBlock = some i) wr w') (hnew : w'.ownsRow 0 5 1 (.slice (some ⟨g, 0, none⟩) (bs.length + 3) cap) (bs.length + 3) (vb (bs ++ [1, 2, 3]))) (hg : wr.heap.size ≤ g)
    (hown : w'.ownsRow 0 26 1 (.slice A' (k + 1) c') (k + 1) (vals ++ [Value.slice (some ⟨g, 0, none⟩) bs.length cap]))
    (hlow' : ∀ i, (Value.slice A' (k + 1) c').ownBlock = some i → w.heap.size ≤ i) : CopRel w pss (k + 1) (.slice A' (k + 1) c') w' := by
  have hat' := hat.keep hk (fun i n c xs ho he => own_types hov ho (by decide) he rfl)
  obtain ⟨hl, gs, cs, h1, h2⟩ := hat'
  have hkl : k < pss.length := (List.getElem?_eq_some_iff.1 hb).1
  have hvl : vals.length = k := by rw [hl, List.length_take]; omega
  refine ⟨A', c', _, rfl, hown, ⟨by simp [hvl]; omega, fun i => if i = k then g else gs i, fun i => if i = k then cap else cs i, ?_, ?_⟩, hkp.trans (hk.mono (G := fun i => w.heap.size ≤ i) (fun i _ h => hlow _ h)) (fun i hi h => absurd h (Nat.not_le.2 hi)), hlow'⟩
  · intro i b hi
    by_cases he : i = k
    · subst he
      rw [List.getElem?_take, if_pos (by omega), hb] at hi
      injection hi with hi
      subst hi
      simp only [if_true]
      exact ⟨by rw [List.getElem?_append_right (by omega), hvl]; simp, hnew, by have := hkp.size; omega⟩
    · simp only [he, if_false]
      have hik : i < k := by
        have := (List.getElem?_eq_some_iff.1 hi).1
        rw [List.length_take] at this
        omega
      have hi' : (pss.take k)[i]? = some b := by
        rw [List.getElem?_take, if_pos (by omega)] at hi
        rw [List.getElem?_take, if_pos hik, hi]
      obtain ⟨a1, a2, a3⟩ := h1 i b hi'
      exact ⟨by rw [List.getElem?_append_left (by omega)]; exact a1, a2, a3⟩
  · intro i j hij hj
    rw [List.length_take] at hj
    have hne : i ≠ k := by omega
    simp only [hne, if_false]
    by_cases he : j = k
    · simp only [he, if_true]
      have hi' : ∃ b, (pss.take k)[i]? = some b := ⟨_, List.getElem?_eq_getElem (by rw [List.length_take]; omega)⟩
      obtain ⟨b, hi'⟩ := hi'
      obtain ⟨hl0, gs0, cs0, h10, _⟩ := hat
      have h3 := (h1 i b hi').2.1
      have hv1 := (h1 i b hi').1
      have hv2 := (h10 i b hi').1
      rw [hv1] at hv2
      injection hv2 with hv2
      injection hv2 with hv2
      injection hv2 with hv2
      injection hv2 with hv2
      have h4 := ((h10 i b hi').2.1.lt (gs0 i) rfl).2
      omega
    · simp only [he, if_false]
      exact h2 i j hij (by rw [List.length_take]; omega)

theorem cop_low {wr w1 : World} {o : Obj} {v : Value} {g n c : Nat} (hk : Keeps (fun _ => False) wr w1) (hf : ∀ g, v.ownBlock = some g → wr.heap.size ≤ g) (hb : (Value.slice (some ⟨g, 0, none⟩) n c).ownBlock = v.ownBlock ∨ (Value.slice (some ⟨g, 0, none⟩) n c).ownBlock = some (w1.alloc o).heap.size) : wr.heap.size ≤ g := by
  rcases hb with h | h
  · exact hf g h.symm
  · have e : some g = some (w1.alloc o).heap.size := h
    injection e with e
    rw [World.size_alloc] at e
    have := hk.size
    omega
theorem infoSl : (Tryd.prog.info? 26).map (fun i => (i.zero, i.size, i.bytes)) = some (some (.slice none 0 0), 1, 24) := by kernel_rfl

set_option maxHeartbeats 4000000 in
set_option maxRecDepth 100000 in
theorem copied_any (w : World) (A : Option Addr) (c : Nat) (pss : List (List Int)) (hr : RdPartsO (fun _ => False) w A pss) (hn : pss.length ≤ 1048576) :
    Calls Tryd.prog 33 #[.slice A pss.length c] w fun e w' => ∃ v, e = .returned v ∧ CopRel w pss pss.length v w' := by
  obtain ⟨vals, hv, _, hparts⟩ := hr
  have hcells : Hid (∀ (wr : World) k, Keeps (fun _ => False) w wr → k < pss.length → ∃ g o bs A' c', A = some ⟨g, o, none⟩ ∧ pss[k]? = some bs ∧ wr.cell? ⟨g, o + k, none⟩ = some (.slice A' bs.length c') ∧ Rd wr A' bs.length (vb bs) ∧ bs.length ≤ c' ∧ bs.length ≤ 140737488351232) := by
    intro wr k hk hlt
    have hv' := hv.keep hk (no_out _ _)
    obtain ⟨g, o, e, hc⟩ := hv'.2 (by omega)
    obtain ⟨bs, hbs⟩ : ∃ bs, pss[k]? = some bs := ⟨_, List.getElem?_eq_getElem hlt⟩
    obtain ⟨A', c', h1, h2, _, _, h5, h6⟩ := hparts k bs hbs
    exact ⟨g, o, bs, A', c', e, hbs, (hc k hlt).trans h1, h2.keep hk (no_out _ _), h5, h6⟩
  have hfin : Hid (∀ v wr, CopRel w pss pss.length v wr → ∃ v', Ending.returned v = .returned v' ∧ CopRel w pss pss.length v' wr) := fun v wr h => ⟨v, rfl, h⟩
  have R0 : Hid (CopRel w pss 0 (.slice none 0 0) w) := Lib.hid ⟨none, 0, [], rfl, World.ownsRow_nil _ _ _ _, ⟨by simp, fun _ => 0, fun _ => 0, (fun i bs h => by simp at h), (fun i j _ h => by simp at h)⟩, Keeps.refl _ _, fun g h => by cases h⟩
  obtain ⟨n, hnn⟩ : ∃ n, n = pss.length := ⟨_, rfl⟩
  have HN := Lib.hid hnn
  rw [← hnn] at hn hfin ⊢
  clear hv hparts hnn
  go_enter Tryd.func33, Tryd.ntmps33
  go_wp2
  go_loopw [3, 5, 8] (fun v _ i wr => ∃ k : Nat, k ≤ n ∧ i = .int .i64 k ∧ CopRel w pss k v wr) (fun _ _ i _ => n - (intOf i).toNat)
  case atStart => exact ⟨0, by omega, rfl, R0.out⟩
  case round =>
    clear R0
    obtain ⟨k, hk, rfl, A2, c2, vals2, rfl, ho2, hat2, hk2, hlow2⟩ := hrel
    by_cases hlt : k < n
    · obtain ⟨g, o, bs, A1, c1, hA, hbs, hcell, hr1, hc1, hrb⟩ := hcells.out wr k hk2 (by have := HN.out; omega)
      subst hA
      have hcl := clone_any wr A1 c1 bs hr1 (by omega)
      obtain ⟨m, hm⟩ : ∃ m, m = bs.length := ⟨_, rfl⟩
      have hcl' : ∀ e w', NewBytes wr bs e w' → ∃ A c, e = .returned (.slice A m c) ∧ w'.ownsRow 0 5 1 (.slice A m c) m (vb bs) ∧ Keeps (fun _ => False) wr w' ∧ ∀ g, (Value.slice A m c).ownBlock = some g → wr.heap.size ≤ g := fun e w' h => by rw [hm]; exact h
      have hcl2 := hcl.mono hcl'
      have hstep : ∀ (w' : World) (A' : Option Addr) (c' g cap : Nat), Keeps (fun i => (Value.slice A2 k c2).ownBlock = some i) wr w' → w'.ownsRow 0 5 1 (.slice (some ⟨g, 0, none⟩) (m + 3) cap) (m + 3) (vb bs ++ [.int .u8 1, .int .u8 2, .int .u8 3]) → wr.heap.size ≤ g →
          w'.ownsRow 0 26 1 (.slice A' (k + 1) c') (k + 1) (vals2 ++ [Value.slice (some ⟨g, 0, none⟩) m cap]) → (∀ i, (Value.slice A' (k + 1) c').ownBlock = some i → w.heap.size ≤ i) → CopRel w pss (k + 1) (.slice A' (k + 1) c') w' := fun w' A' c' g cap h1 h2 h3 h4 h5 => by
        rw [hm] at h2 h4
        exact CopRel.step hbs hat2 hk2 hlow2 ho2 h1 (by simpa [vb] using h2) h3 h4 h5
      rw [← hm] at hcell hc1 hrb hcl2
      have HST := Lib.hid hstep
      have HCL := Lib.hid hcl2
      have HO2 := Lib.hid ho2
      have HLO := Lib.hid hlow2
      have HK2 := Lib.hid hk2
      clear hcl hcl' hcl2 hstep hm hbs hr1 ho2 hat2 hlow2 hk2
      go_wp2_with (first
        | (go_at_call 27; refine HCL.out.mono ?_; rintro e w1 ⟨A3, c3, rfl, ho3, hk3, hf3⟩; have HO3 := Lib.hid (ho3.alloc (.cells #[.int .u8 1, .int .u8 2, .int .u8 3] 5)); have HRD := Lib.hid (Rd.of_blk (Blk.new w1 5 [.int .u8 1, .int .u8 2, .int .u8 3]) (n := 3) rfl); have HK3 := Lib.hid hk3; have HF3 := Lib.hid hf3; clear ho3 hk3 hf3)
        | (at_builtin; refine wpList_append_rd _ rfl (.tmp 14) (.tmp 15) 26 rfl 5 (.int .u8 0) 1 Tryd.underlying26 info5 rfl (.slice A3 m c3) m (vb bs) rfl HO3.out _ 3 3 [.int .u8 1, .int .u8 2, .int .u8 3] rfl HRD.out (vb_one [1, 2, 3]) (by unfold maxLen; omega) (by omega) ?_; intro A4' c4 w4 hown4 hg4 hb4; obtain ⟨g4, cap4, e4, _, hg4l⟩ := hown4.form (by omega); injection e4 with e4a e4b e4c; subst e4a e4c; have hc4 : m + 3 ≤ c4 := own_cap hown4; have HOW4 := Lib.hid hown4; have hkA := ((HK3.out.alloc (.cells #[.int .u8 1, .int .u8 2, .int .u8 3] 5)).grown hg4 (fun g e => .inr (HF3.out g e))).alloc (.cells #[Value.slice (some ⟨g4, 0, none⟩) m c4] 26); have HMA := Lib.hid (Keeps.own hkA HO2.out (fun _ _ h => h)); have HKA := Lib.hid hkA; have HB4 : Hid (wr.heap.size ≤ g4) := Lib.hid (cop_low HK3.out HF3.out hb4); have HRD2 := Lib.hid (Rd.of_blk (Blk.new w4 26 [Value.slice (some ⟨g4, 0, none⟩) m c4]) (n := 1) rfl); clear hown4 hg4 hb4 hkA)
        | (at_builtin; refine wpList_append_rd _ rfl (.tmp 12) (.tmp 20) 61 rfl 26 (.slice none 0 0) 24 Tryd.underlying61 infoSl rfl (.slice A2 k c2) k vals2 rfl HMA.out _ 1 1 _ rfl HRD2.out (by intro u hu; rw [List.mem_singleton.1 hu]; rfl) (by unfold maxLen; omega) (by omega) ?_; intro A5 c5 w5 hown5 hg5 hb5; have HCR := Lib.hid (HST.out w5 A5 c5 g4 c4 (Keeps.grown (F := fun i => (Value.slice A2 k c2).ownBlock = some i) (HKA.out.mono (fun _ _ h => h.elim)) hg5 (fun g e => .inl e)) (Keeps.own (Keeps.of_grown hg5) (HOW4.out.alloc _) (fun i hi he => by have e1 : some g4 = some i := hi; injection e1 with e1; have h2 := (HO2.out.lt i he).2; have h3 := HB4.out; omega)) HB4.out hown5 (fun i hi => by
            rcases hb5 with h | h
            · exact HLO.out i (h.symm.trans hi)
            · rw [h] at hi
              injection hi with e
              have h3 := HKA.out.size
              have h4 := HK2.out.size
              omega)); clear hown5 hg5 hb5))
      go_roundw
      case rel => exact ⟨k + 1, by omega, by go_num, HCR.out⟩
      case measure => simp [intOf]; omega
    · obtain rfl : k = n := by omega
      have hf := hfin.out (.slice A2 k c2) wr ⟨A2, c2, vals2, rfl, ho2, hat2, hk2, hlow2⟩
      have HF := Lib.hid hf
      clear hf ho2 hat2 hk2 hlow2
      go_wp2
      go_ret
      exact HF.out
end Go.Proofs.YtgblndddcbfdiaaDoor
