/-
  WALKS: Reset, bytes.Equal, slices.Grow, slices.Concat.
-/
import Derived.Test.YtgblndddcbfdiaaDoorOwnW
import Derived.Test.YtgblndddcbfdiaaDoorMidW
import Derived.Test.YtgblndddcbfdiaaDoorMemK
import Derived.Test.YtgblndddcbfdiaaDoorCmpP
import Derived.Test.YtgblndddcbfdiaaDoorNumW
import Derived.Lib.AppendZerosOnto
set_option linter.unusedSimpArgs false
namespace Go.Aff
open Go Go.RowKit
theorem wpList_append_run {P : Program} {w w' : World} {ops : Array Oper} {rest : List Oper} {o : Oper} {a : Act} {Q : Exit → Act → World → Prop} (hgd : o.guard = none) (s x : Operand) (t u : TypeId)
    (ho : o.op = .call { callee := .builtin .append, args := #[s, x], argTypes := #[t, u] }) (vs vx v : Value) (hs : a.eval s = vs) (hx : a.eval x = vx) (hrun : (Builtin.append_ #[t, u] o.type #[vs, vx]).run P w = .ok v w')
    (h : wpList P ops Q rest (a.put o.dst v) w') : wpList P ops Q (o :: rest) a w := by
  refine wpList_plain hgd fun K hK => ?_
  unfold Oper.wp execOp
  simp only [ho, resolve, invoke, builtin, Sem.run_bind, Sem.run_pure, Result.andThen_ok, List.map_toArray, List.map_cons, List.map_nil, hs, hx, hrun]
  exact hK _ _ h
end Go.Aff
namespace Go.Proofs.YtgblndddcbfdiaaDoor
open Go Go.RowKit Go.Sha Go.Aff

set_option maxRecDepth 100000 in
theorem Reset_any (w : World) (hG : Glob w) (p : Nat) (v : Value) (S : Nat → Int) (nb : Nat) (X : List Int) (h : HashAt w p v S nb X) :
    Calls Tryd.prog 32 #[.pointer (some ⟨p, 0, none⟩)] w fun e w' => e = .returned (.tuple #[]) ∧ HashAt w' p (.slice none 0 0) first 0 [] ∧ Keeps (fun i => i = p) w w' := by
  have hl := glob_lies hG
  have hb := h.1
  have hfin : Hid (HashAt (w.setRow p (hcells first 0 (.slice none 0 0)).toArray) p (.slice none 0 0) first 0 []) := ⟨hb.setRow _, World.ownsRow_nil _ _ _ _, fun x hx => by cases hx⟩
  have HL := Lib.hid hl
  have HB := Lib.hid hb
  clear hl hb hG h
  go_enter Tryd.func32, Tryd.ntmps32
  go_wp2_with (first
    | ((with_reducible show wpList _ _ _ (⟨some _, Op.load 38 _, _, _, _, _⟩ :: _) _ _); refine wpList_load_lies rfl 38 _ rfl 0 (wl first) _ rfl HL.out Tryd.underlying38 rfl info8 ?_)
    | ((with_reducible show wpList _ _ _ (⟨none, Op.store 88 _ _, _, _, _, _⟩ :: _) _ _); refine wpList_store_whole rfl 88 _ _ rfl (hcells first 0 (.slice none 0 0)) rfl rfl HB.out (by simp [hcells, wl]) (by rw [show (hcells first 0 (.slice none 0 0)).length = 10 by simp [hcells, wl]]; kernel_rfl) (hcells_one _ _ _ _ _) ?_))
  go_end0
  exact ⟨rfl, hfin.out, (Keeps.refl (fun i => i = p) w).setRow (.inl rfl) _⟩

set_option maxRecDepth 100000 in
theorem Equal_any (w : World) (A B : Option Addr) (n m c d : Nat) (xs ys : List Int) (hx : Rd w A n (vb xs)) (hy : Rd w B m (vb ys)) (bx : IsBytes xs) (by' : IsBytes ys) :
    Calls Tryd.prog 31 #[.slice A n c, .slice B m d] w fun e w' => e = .returned (.bool (decide (xs = ys))) ∧ w = w' := by
  have c1 := convert_rd (P := Tryd.prog) w Tryd.underlying26 Tryd.underlying5 Tryd.underlying9 c hx
  have c2 := convert_rd (P := Tryd.prog) w Tryd.underlying26 Tryd.underlying5 Tryd.underlying9 d hy
  have c3 := str_eql (P := Tryd.prog) w 9 bx by'
  obtain ⟨s, hs⟩ : ∃ s, s = strOfNums xs := ⟨_, rfl⟩
  obtain ⟨t, ht⟩ : ∃ t, t = strOfNums ys := ⟨_, rfl⟩
  rw [← hs] at c1 c3
  rw [← ht] at c2 c3
  obtain ⟨b, hb⟩ : ∃ b, b = decide (xs = ys) := ⟨_, rfl⟩
  rw [← hb] at c3 ⊢
  have HQ : Hid ((s.toList == t.toList) = b) := by
    have h3 := c3
    rw [binOp_string_eql, Sem.run_pure] at h3
    injection h3 with h3
    injection h3
  clear hs ht hb hx hy bx by' c3
  go_enter Tryd.func31, Tryd.ntmps31
  go_wp2
  go_ret
  exact ⟨by rw [← HQ.out]; rfl, rfl⟩

set_option maxHeartbeats 1000000 in
set_option maxRecDepth 100000 in
theorem Grow_nil (w : World) (n : Nat) (hn : n ≤ 140737488355328) :
    Calls Tryd.prog 48 #[.slice none 0 0, .int .i64 n] w fun e w' => ∃ A c, e = .returned (.slice A 0 c) ∧ w'.ownsRow 0 5 1 (.slice A 0 c) 0 [] ∧ Keeps (fun _ => False) w w' ∧ ∀ g, (Value.slice A 0 c).ownBlock = some g → w.heap.size ≤ g := by
  obtain ⟨i0, hi, hz0, hz1, hz2⟩ := info_parts info5
  rcases Nat.eq_zero_or_pos n with h0 | h0
  · subst h0
    go_enter Tryd.func48, Tryd.ntmps48
    go_wp2
    go_ret
    exact ⟨none, 0, rfl, World.ownsRow_nil _ _ _ _, Keeps.refl _ _, fun g e => by cases e⟩
  · have hnx : Builtin.nextslicecap (0 + n) 0 = n := by
      unfold Builtin.nextslicecap
      rw [if_pos (by omega)]
      omega
    have hrun := Lib.run_append_grow_zeros (P := Tryd.prog) w 26 3 26 5 i0 (.int .u8 0) .i64 .i64 Tryd.underlying26 Tryd.underlying3 hi hz0 none 0 0 [] (by simp [Builtin.firstCells]) n h0 (by omega) (by omega) (by omega) (by rw [hz2]; omega) (by rw [hnx, hz2]; omega)
    obtain ⟨C, hC⟩ : ∃ C, C = grownCap w (0 + n) 0 5 := ⟨_, rfl⟩
    obtain ⟨cells, hcs⟩ : ∃ cells, cells = ([] : List Value).toArray ++ Builtin.zeroCells (Value.int .u8 0).cells n ++ Builtin.zeroCells (Value.int .u8 0).cells (grownCap w (0 + n) 0 5 - (0 + n)) := ⟨_, rfl⟩
    have hCn : n ≤ C ∧ C ≤ maxLen := by
      rw [hC]
      have := grownCap_ge w (0 + n) 0 5
      exact ⟨by omega, grownCap_le_maxLen w (0 + n) 0 5 (by unfold maxLen; omega)⟩
    have hcl : cells.size = C * 1 := by
      rw [hcs, ← hC]
      simp [Builtin.zeroCells, Value.cells]
      omega
    rw [← hcs, ← hC, Nat.zero_add] at hrun
    have hcut := cut_h (P := Tryd.prog) Tryd.underlying26 (by kernel_rfl) (some ⟨w.heap.size, 0, none⟩) n C 0 0 rfl (by omega)
    have hc0 : cutA (some ⟨w.heap.size, 0, none⟩) C 0 = some ⟨w.heap.size, 0, none⟩ := by
      unfold cutA
      rw [if_neg (by omega)]
      rfl
    rw [hc0] at hcut
    have HO : Hid ((w.drew.alloc (.cells cells 5)).ownsRow 0 5 1 (.slice (some ⟨w.heap.size, 0, none⟩) 0 C) 0 []) := World.ownsRow_made w.drew cells C (by omega) hCn.2 hcl
    clear hcs hC hnx hcl hCn hc0 hz0 hz1 hz2 hi
    go_enter Tryd.func48, Tryd.ntmps48
    go_wp2_with (at_builtin; (refine wpList_append_run rfl (.tmp 20) (.tmp 21) 26 3 rfl (.slice none 0 0) (.int .i64 n) _ rfl rfl hrun ?_))
    go_ret
    exact ⟨_, _, rfl, HO.out, (Keeps.refl _ w).drew.alloc _, fun g e => by injection e with e; have e' : w.heap.size = g := e; omega⟩

/-- While the parts are put together (k of them are). -/
def CatRel (w : World) (pss : List (List Int)) (k : Nat) (v : Value) (wr : World) : Prop :=
  ∃ A c, v = .slice A (pss.take k).flatten.length c ∧ wr.ownsRow 0 5 1 v (pss.take k).flatten.length (vb (pss.take k).flatten) ∧ Keeps (fun _ => False) w wr ∧ ∀ g, v.ownBlock = some g → w.heap.size ≤ g

set_option maxHeartbeats 4000000 in
set_option maxRecDepth 100000 in
theorem Concat_any (w : World) (A : Option Addr) (c : Nat) (pss : List (List Int)) (hr : RdPartsO (fun _ => False) w A pss) (hn : pss.length ≤ 140737488355328) (hbig : pss.flatten.length ≤ 140737488355328) :
    Calls Tryd.prog 28 #[.slice A pss.length c] w (NewBytes w pss.flatten) := by
  obtain ⟨vals, hv, _, hparts⟩ := hr
  have hcells : Hid (∀ (wr : World) k, Keeps (fun _ => False) w wr → k < pss.length → ∃ g o bs A' c', A = some ⟨g, o, none⟩ ∧ pss[k]? = some bs ∧ wr.cell? ⟨g, o + k, none⟩ = some (.slice A' bs.length c') ∧ Rd wr A' bs.length (vb bs) ∧ bs.length ≤ c' ∧ bs.length ≤ 140737488351232) := by
    intro wr k hk hlt
    have hv' := hv.keep hk (no_out _ _)
    obtain ⟨g, o, e, hc⟩ := hv'.2 (by omega)
    obtain ⟨bs, hbs⟩ : ∃ bs, pss[k]? = some bs := ⟨_, List.getElem?_eq_getElem hlt⟩
    obtain ⟨A', c', h1, h2, _, _, h5, h6⟩ := hparts k bs hbs
    exact ⟨g, o, bs, A', c', e, hbs, (hc k hlt).trans h1, h2.keep hk (no_out _ _), h5, h6⟩
  have hle : Hid (∀ k bs, pss[k]? = some bs → (pss.take k).flatten.length + bs.length ≤ pss.flatten.length) := fun k bs h => part_le pss k bs h
  have hgrow := Grow_nil w pss.flatten.length hbig
  have hfin : Hid (∀ v wr, CatRel w pss pss.length v wr → NewBytes w pss.flatten (.returned v) wr) := by
    intro v wr ⟨A', c', h1, h2, h3, h4⟩
    rw [List.take_length] at h1 h2
    subst h1
    exact ⟨A', c', rfl, h2, h3, h4⟩
  obtain ⟨N, hN⟩ : ∃ N, N = pss.flatten.length := ⟨_, rfl⟩
  obtain ⟨n, hnn⟩ : ∃ n, n = pss.length := ⟨_, rfl⟩
  rw [← hN] at hgrow hbig hle
  have HGR := Lib.hid hgrow
  have HN := Lib.hid hnn
  have HNN := Lib.hid hN
  obtain ⟨PO, hPO⟩ : ∃ PO, PO = NewBytes w pss.flatten := ⟨_, rfl⟩
  rw [← hPO] at hfin ⊢
  rw [← hnn] at hn ⊢
  clear hv hparts hgrow hnn hPO hN
  go_enter Tryd.func28, Tryd.ntmps28
  go_wp2
  go_loop [3, 5, 11] (fun s _ i => ∃ (k x : Nat), k ≤ n ∧ i = .int .i64 k ∧ s = .int .i64 x ∧ x ≤ N ∧ x = (pss.take k).flatten.length) (fun _ _ i => n - (intOf i).toNat)
  case atStart => exact ⟨0, 0, by omega, rfl, rfl, by omega, rfl⟩
  case round =>
    obtain ⟨k, x, hk, rfl, rfl, hxN, hx⟩ := hrel
    have HX := Lib.hid hx
    clear hx
    by_cases hlt : k < n
    · obtain ⟨g, o, bs, A1, c1, hA, hbs, hcell, _, hc1, hrb⟩ := hcells.out w k (Keeps.refl _ _) (by have := HN.out; omega)
      subst hA
      have hxm := hle.out k bs hbs
      rw [← HX.out] at hxm
      have hstep : Hid (x + bs.length = (pss.take (k + 1)).flatten.length) := Lib.hid (by rw [take_flat pss k bs hbs, List.length_append, HX.out])
      obtain ⟨m, hm⟩ : ∃ m, m = bs.length := ⟨_, rfl⟩
      rw [← hm] at hstep hcell hxm hc1 hrb
      clear hm hbs
      go_wp2
      go_round
      case rel => exact ⟨k + 1, x + m, by omega, by go_num, by rw [Int.natCast_add], by omega, hstep.out⟩
      case measure => simp [intOf]; omega
    · obtain rfl : k = n := by omega
      have hxN2 : x = N := by
        rw [HX.out, HNN.out, HN.out, List.take_length]
      subst hxN2
      go_wp2_with (go_at_call 48; refine HGR.out.mono ?_; rintro e w1 ⟨A1, c1, rfl, ho1, hk1, hf1⟩; have HO1 := Lib.hid ho1; have HK1 := Lib.hid hk1; have HF1 := Lib.hid hf1; clear ho1 hk1 hf1)
      go_loopw [6, 8, 27] (fun v _ i wr => ∃ k' : Nat, k' ≤ k ∧ i = .int .i64 k' ∧ CatRel w pss k' v wr) (fun _ _ i _ => k - (intOf i).toNat)
      case atStart => exact ⟨0, by omega, rfl, A1, c1, rfl, HO1.out, HK1.out, HF1.out⟩
      case round =>
        clear HO1 HK1 HF1
        obtain ⟨k', hk', rfl, A2, c2, rfl, ho2, hk2, hf2⟩ := hrel
        by_cases hlt' : k' < k
        · obtain ⟨g, o, bs, A3, c3, hA, hbs, hcell, hr3, hc3, hrb⟩ := hcells.out wr k' hk2 (by have := HN.out; omega)
          subst hA
          have hxm := hle.out k' bs hbs
          have hcat : Hid (∀ A' c' w', w'.ownsRow 0 5 1 (.slice A' ((pss.take k').flatten.length + bs.length) c') ((pss.take k').flatten.length + bs.length) (vb (pss.take k').flatten ++ vb bs) → wr.grownBy w' (Value.slice A2 (pss.take k').flatten.length c2).ownBlock →
              ((Value.slice A' ((pss.take k').flatten.length + bs.length) c').ownBlock = (Value.slice A2 (pss.take k').flatten.length c2).ownBlock ∨ (Value.slice A' ((pss.take k').flatten.length + bs.length) c').ownBlock = some wr.heap.size) → CatRel w pss (k' + 1) (.slice A' ((pss.take k').flatten.length + bs.length) c') w') := by
            intro A' c' w' h1 h2 h3
            unfold CatRel
            rw [take_flat pss k' bs hbs, List.length_append]
            refine ⟨A', c', rfl, ?_, hk2.grown h2 (fun g hg => .inr (hf2 g hg)), ?_⟩
            · simpa [vb] using h1
            · intro g hg
              rcases h3 with h | h
              · exact hf2 g (h.symm.trans hg)
              · rw [h] at hg
                injection hg with e
                have := hk2.size
                omega
          obtain ⟨m, hm⟩ : ∃ m, m = bs.length := ⟨_, rfl⟩
          obtain ⟨L, hL⟩ : ∃ L, L = (pss.take k').flatten.length := ⟨_, rfl⟩
          obtain ⟨xs, hxs⟩ : ∃ xs, xs = vb (pss.take k').flatten := ⟨_, rfl⟩
          obtain ⟨news, hnews⟩ : ∃ news, news = vb bs := ⟨_, rfl⟩
          have h1 : ∀ u ∈ news, u.oneCell' = true := by rw [hnews]; exact vb_one _
          rw [← hm, ← hL, ← hxs, ← hnews] at hcat
          rw [← hm, ← hnews] at hr3
          rw [← hm, ← hL] at hxm
          rw [← hm] at hcell hc3 hrb
          rw [← hL, ← hxs] at ho2
          rw [← hL]
          have HO2 := Lib.hid ho2
          have HR3 := Lib.hid hr3
          have H1 := Lib.hid h1
          clear hL hm hxs hnews ho2 hr3 h1 hk2 hf2 hbs
          go_wp2_with (at_builtin; refine wpList_append_rd _ rfl (.tmp 31) (.tmp 32) 26 rfl 5 (.int .u8 0) 1 Tryd.underlying26 info5 rfl _ L xs rfl HO2.out A3 m c3 news rfl HR3.out H1.out (by unfold maxLen; omega) (by omega) ?_; intro A' c' w' hown hg hb; have HC := Lib.hid (hcat.out A' c' w' hown hg hb); clear hown hg hb)
          go_roundw
          case rel => exact ⟨k' + 1, by omega, by go_num, HC.out⟩
          case measure => simp [intOf]; omega
        · obtain rfl : k' = k := by omega
          have hf := hfin.out (.slice A2 (pss.take k').flatten.length c2) wr (by rw [← HN.out]; exact ⟨A2, c2, rfl, ho2, hk2, hf2⟩)
          have HF := Lib.hid hf
          clear hf ho2 hk2 hf2
          go_wp2
          exact HF.out
end Go.Proofs.YtgblndddcbfdiaaDoor
