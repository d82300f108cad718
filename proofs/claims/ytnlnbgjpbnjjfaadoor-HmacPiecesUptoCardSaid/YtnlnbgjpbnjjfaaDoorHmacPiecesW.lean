/-
  WALKS: the statement HmacPieces.
-/
import Derived.Test.YtnlnbgjpbnjjfaaDoorMacTW
import Derived.Test.YtnlnbgjpbnjjfaaDoorOpen
set_option linter.unusedSimpArgs false
namespace Go.Aff
open Go Go.RowKit
theorem neq_of_eql {P : Program} {w : World} {t : TypeId} {xs ys : Array Value} {b : Bool} (h : (binOp .eql t (.agg xs) (.agg ys)).run P w = .ok (.bool b) w) : (binOp .neq t (.agg xs) (.agg ys)).run P w = .ok (.bool (!b)) w := by
  rw [run_eql_struct] at h
  rw [run_neq_struct]
  cases hr : (Op.equalIn 10000 t (.agg xs) (.agg ys)).run P w with
  | halt a b' => rw [hr] at h; cases h
  | ok b' w' =>
    rw [hr] at h
    simp only [Result.andThen_ok] at h ⊢
    injection h with h1 h2
    injection h1 with h1
    rw [h1, h2]
theorem int_cell {w : World} {A : Option Addr} {n : Nat} {zs : List Int} (hr : Rd w A n (vi .i64 zs)) (k : Nat) (hk : k < n) : ∃ g o z, A = some ⟨g, o, none⟩ ∧ zs[k]? = some z ∧ w.cell? ⟨g, o + k, none⟩ = some (.int .i64 z) := by
  obtain ⟨g, o, e, hc⟩ := hr.2 (by omega)
  have hl : zs.length = n := by have := hr.1; simpa [vi] using this
  refine ⟨g, o, zs[k], e, by simp [hl, hk], ?_⟩
  rw [hc k hk]
  simp [vi, hl, hk]
end Go.Aff
namespace Go.Proofs.YtnlnbgjpbnjjfaaDoor
open Go Go.RowKit Go.Sha Go.Aff Go.Mac

theorem RdPartsO.weak {F : Nat → Prop} {w : World} {A : Option Addr} {pss : List (List Int)} (h : RdPartsO F w A pss) : RdPartsO (fun _ => False) w A pss := by
  obtain ⟨vals, h1, _, h3⟩ := h
  refine ⟨vals, h1, no_out _ _, fun i bs hi => ?_⟩
  obtain ⟨A', c', a, b, _, d⟩ := h3 i bs hi
  exact ⟨A', c', a, b, no_out _ _, d⟩
def HasD (g : Nat) (D : List Value) (W : World) : Prop := Blk W g 41 D

set_option maxHeartbeats 4000000 in
set_option maxRecDepth 100000 in
theorem hpieces_any (w : World) (hG : Glob w) (A B C : Option Addr) (n c m d k ck : Nat) (key bs cuts : List Int)
    (hn : key.length = n) (hx : Rd w A n (vb key)) (bx : IsBytes key) (hc : n ≤ c) (hm : n ≤ 140737488351232)
    (hn' : bs.length = m) (hy : Rd w B m (vb bs)) (by' : IsBytes bs) (hc' : m ≤ d) (hm' : m ≤ 140737488351232)
    (hz : Rd w C k (vi .i64 cuts)) (wz : ∀ z ∈ cuts, (Lit.int .i64 z).wf = true) (hk : k ≤ 1048576) :
    Calls Tryd.prog 8 #[.slice A n c, .slice B m d, .slice C k ck] w fun e w' => e = .returned (.bool true) ∧ Keeps (fun _ => False) w w' := by
  have HNW := Lib.hid (mnew_any w hG A n c key hn hx bx hc hm)
  have HS1 : Hid (∀ W, Keeps (fun _ => False) w W → Calls Tryd.prog 19 #[.slice A n c, .slice (some ⟨W.heap.size, 0, none⟩) 1 1] (W.alloc (.cells #[.slice B m d] 22)) fun e w' => e = .returned (.agg (vb (macF key bs)).toArray) ∧ Keeps (fun _ => False) W w') := Lib.hid fun W hk =>
    hsum_one W (hG.keep hk (fun _ h => h.elim)) A n c key hn (hx.keep hk (no_out _ _)) bx hc hm B m d bs hn' (hy.keep hk (no_out _ _)) by' hc' hm'
  have HML : Hid ((vb (macF key bs)).length = 32) := Lib.hid (by rw [vb_length, macF_length])
  have heq : ∀ W, (binOp .eql 41 (.agg (vb (macF key bs)).toArray) (.agg (vb (macF key bs)).toArray)).run Tryd.prog W = .ok (.bool true) W := dig_self _ (macF_length _ _)
  have hne : ∀ W, (binOp .neq 41 (.agg (vb (macF key bs)).toArray) (.agg (vb (macF key bs)).toArray)).run Tryd.prog W = .ok (.bool false) W := fun W => neq_of_eql (heq W)
  have HSU : Hid (∀ {lo : Nat} {wD : World} (W : World) (p q : Nat) (v : Value), OneM w wD lo W p q v key bs → Calls Tryd.prog 34 #[.pointer (some ⟨p, 0, none⟩)] W fun e w' => e = .returned (.agg (vb (macF key bs)).toArray) ∧ Keeps (fun _ => False) W w') := Lib.hid fun W p q v h => one_sum hG h bx (by omega)
  have HSZ : Hid (∀ {lo : Nat} {wD : World} (W : World) (p q : Nat) (v : Value), OneM w wD lo W p q v key [] → Calls Tryd.prog 34 #[.pointer (some ⟨p, 0, none⟩)] W fun e w' => e = .returned (.agg (vb (macF key [])).toArray) ∧ Keeps (fun _ => False) W w') := Lib.hid fun W p q v h => one_sum hG h bx (by simp)
  have HSN : Hid (∀ {lo : Nat} {wD : World} (W : World) (p q : Nat) (v : Value) (msg : List Int), OneM w wD lo W p q v key msg → Calls Tryd.prog 19 #[.slice A n c, .slice none 0 0] W fun e w' => e = .returned (.agg (vb (macF key [])).toArray) ∧ Keeps (fun _ => False) W w') := Lib.hid fun W p q v msg h => by
    have hk := h.one.own.2.1
    have := hsum_any W (hG.keep hk (fun _ h => h.elim)) A n c key hn (hx.keep hk (no_out _ _)) bx hc hm none 0 0 [] rfl ⟨[], Rd.nil W none, no_out _ _, fun i b hi => by simp at hi⟩ (by omega) (by simp)
    simpa using this
  have HLE : Hid (∀ {lo : Nat} {wD : World} (W : World) (p q : Nat) (v : Value), OneM w wD lo W p q v key bs → Calls Tryd.prog 35 #[.pointer (some ⟨p, 0, none⟩)] W fun e w' => e = .returned (.int .i64 (m : Int)) ∧ Keeps (fun _ => False) W w') := Lib.hid fun W p q v h => (mlen_any w W p q v key bs h.one).mono fun _ _ ⟨he, hw⟩ => ⟨by rw [he, hn'], by rw [hw]; exact Keeps.refl _ _⟩
  have HRE : Hid (∀ {lo : Nat} {wD : World} (W : World) (p q : Nat) (v : Value), OneM w wD lo W p q v key bs → Calls Tryd.prog 36 #[.pointer (some ⟨p, 0, none⟩)] W fun e w' => e = .returned .nilIface ∧ ∃ q' v', OneM w wD lo w' p q' v' key []) := Lib.hid fun W p q v h => one_reset hG h bx
  have HWB : Hid (∀ {lo : Nat} {wD : World} (W : World) (p q : Nat) (v : Value), OneM w wD lo W p q v key [] → Calls Tryd.prog 33 #[.pointer (some ⟨p, 0, none⟩), .slice B m d] W fun e w' => e = .returned .nilIface ∧ ∃ v', OneM w wD lo w' p q v' key bs) := Lib.hid fun W p q v h => by
    have := one_write hG h B m d bs hn' hy by' hc' hm' (by simp; omega)
    rwa [List.nil_append] at this
  have HWK : Hid (∀ {lo : Nat} {wD : World} (W : World) (p q : Nat) (v : Value) (msg : List Int), OneM w wD lo W p q v key msg → Calls Tryd.prog 16 #[] W fun e w' => e = .returned (.bool true) ∧ Keeps (fun _ => False) W w') := Lib.hid fun W p q v msg h => wakes_any W (hG.keep h.one.own.2.1 (fun _ h => h.elim))
  have heqz : ∀ W, (binOp .eql 41 (.agg (vb (macF key [])).toArray) (.agg (vb (macF key [])).toArray)).run Tryd.prog W = .ok (.bool true) W := dig_self _ (macF_length _ _)
  obtain ⟨ZV, hZV⟩ : ∃ ZV, ZV = vb (macF key []) := ⟨_, rfl⟩
  rw [← hZV] at HSZ HSN
  simp only [← hZV] at heqz
  clear hZV
  obtain ⟨MV, hMV⟩ : ∃ MV, MV = vb (macF key bs) := ⟨_, rfl⟩
  have HM1 : Hid (∀ u ∈ MV, u.oneCell' = true) := Lib.hid (by rw [hMV]; exact vb_one _)
  have HIN : Hid ((Tryd.prog.info? 41).map (·.size) = some MV.length) := Lib.hid (by rw [hMV, HML.out]; exact info32)
  have HMV := Lib.hid hMV
  rw [← hMV] at HS1 HML HSU
  simp only [← hMV] at heq hne
  have HRG : Hid (∀ (W : World) (g : Nat), HasD g MV W → W.rangeAt g 0 MV) := Lib.hid fun W g h j u hu => by
    have h' : Blk W g 41 MV := h
    rw [Nat.zero_add, h'.cell, hu]
  have HN := Lib.hid hn
  have HX := Lib.hid hx
  have HBX := Lib.hid bx
  have HN' := Lib.hid hn'
  have HY := Lib.hid hy
  have HBY := Lib.hid by'
  have HZ := Lib.hid hz
  have HWZ := Lib.hid wz
  have HG := Lib.hid hG
  clear hMV hn hx bx hn' hy by' hz wz hG
  go_enter Tryd.func8, Tryd.ntmps8
  go_wp2_with (first
    | (go_at_call 31; refine HNW.out.mono ?_; rintro e w1 ⟨p, q, v, rfl, ho1⟩; have HO1 := Lib.hid ho1; clear ho1)
    | (go_at_call 19; refine (HS1.out _ HO1.out.own.2.1).mono ?_; rintro e w2 ⟨rfl, hk2⟩; have HK2 := Lib.hid hk2; have HZ2 := Lib.hid (Blk.new w2 41 (List.replicate 32 (Value.int .u8 0))); clear hk2)
    | ((with_reducible show wpList _ _ _ (⟨none, Op.store 41 _ _, _, _, _, _⟩ :: _) _ _); refine wpList_store_whole rfl 41 _ _ rfl MV rfl rfl HZ2.out (by rw [HML.out]; simp) HIN.out HM1.out ?_; have hb3 := HZ2.out.setRow MV; have hk3 := (HK2.out.alloc (.cells (List.replicate 32 (Value.int .u8 0)).toArray 41)).setRow (.inr HK2.out.size) MV.toArray; refine gen_world (fun W => Blk W w2.heap.size 41 MV ∧ Keeps (fun _ => False) w1 W) ⟨hb3, hk3⟩ ?_; clear hb3 hk3; rintro w3 ⟨hb3, hk3⟩; have HB3 := Lib.hid hb3; have HK3 := Lib.hid hk3; clear hb3 hk3))
  go_loopw [9, 10, 28] (fun P L i wr => ∃ (j t r : Nat) (Ap : Option Addr) (cp : Nat) (vals : List Value) (pss : List (List Int)) (Al : Option Addr) (cl : Nat), j ≤ k ∧ i = .int .i64 j ∧ P = .slice Ap j cp ∧ L = .slice Al r cl ∧ t + r = m ∧ CutR w w3 bs j t Ap cp vals pss wr ∧ Rd w Al r (vb (bs.drop t)) ∧ r ≤ cl) (fun _ _ i _ => k - (intOf i).toNat)
  case atStart => exact ⟨0, 0, m, none, 0, [], [], B, d, by omega, rfl, rfl, rfl, by omega, CutR.start w w3 bs, HY.out, hc'⟩
  case round =>
    obtain ⟨j, t, r, Ap, cp, vals, pss, Al, cl, hj, rfl, rfl, rfl, htr, hcut, hrl, hcl⟩ := hrel
    have hkw : Keeps (fun _ => False) w wr := (HO1.out.own.2.1.trans HK3.out (fun _ _ h => h)).trans hcut.row.2.1 (fun _ _ h => h)
    have HCUT := Lib.hid hcut
    have HRL := Lib.hid hrl
    have HKW := Lib.hid hkw
    clear hcut hrl hkw
    by_cases hlt : j < k
    · obtain ⟨gc, oc, z, hC, hzz, hcell⟩ := int_cell (HZ.out.keep HKW.out (no_out _ _)) j hlt
      subst hC
      have hzb := bounds_i64 (HWZ.out z (List.mem_of_getElem? hzz))
      obtain ⟨u, hur, hcase⟩ : ∃ u : Nat, u ≤ r ∧ ((z < 0 ∧ u = 0) ∨ (¬ z < 0 ∧ (r : Int) < z ∧ u = r) ∨ (¬ z < 0 ∧ ¬ (r : Int) < z ∧ z = u)) := clip_case z r
      rcases hcase with ⟨z1, z2⟩ | ⟨z1, z2, z3⟩ | ⟨z1, z2, z3⟩
      · have hc1 := cut_hm (P := Tryd.prog) Tryd.underlying22 (by kernel_rfl) Al r cl u 0 0 (by omega) (by omega) (by omega)
        have hc2 := cut_l (P := Tryd.prog) Tryd.underlying22 (by kernel_rfl) Al r cl u 0 (by omega) hur
        have hdl : (bs.drop t).length = r := by rw [List.length_drop, HN'.out]; omega
        have hr1 : Rd w (cutA Al u 0) u (vb ((bs.drop t).take u)) := by
          have := HRL.out.cutHM hur
          simpa [vb, List.map_take] using this
        have hr2 : Rd w (cutA Al cl u) (r - u) (vb (bs.drop (t + u))) := by
          have := HRL.out.cutA hur hcl
          simpa [vb, List.map_drop] using this
        obtain ⟨A1, hA1⟩ : ∃ A1, A1 = cutA Al u 0 := ⟨_, rfl⟩
        obtain ⟨A2, hA2⟩ : ∃ A2, A2 = cutA Al cl u := ⟨_, rfl⟩
        rw [← hA1] at hc1 hr1
        rw [← hA2] at hc2 hr2
        have HR2 := Lib.hid hr2
        have HSTEP : Hid (∀ A5 c5 w5, w5.ownsRow 0 22 1 (.slice A5 (j + 1) c5) (j + 1) (vals ++ [.slice A1 u u]) → (wr.alloc (.cells #[.slice A1 u u] 22)).grownBy w5 (Value.slice Ap j cp).ownBlock → ((Value.slice A5 (j + 1) c5).ownBlock = (Value.slice Ap j cp).ownBlock ∨ (Value.slice A5 (j + 1) c5).ownBlock = some (wr.heap.size + 1)) → CutR w w3 bs (j + 1) (t + u) A5 c5 (vals ++ [.slice A1 u u]) (pss ++ [(bs.drop t).take u]) w5) := Lib.hid fun A5 c5 w5 h1 h2 h3 =>
          HCUT.out.step (HCUT.out.row.app h1 h2 h3) (by rw [List.length_take, hdl]; omega) hr1 HBY.out (Nat.le_refl _)
        have HOW : Hid ((wr.alloc (.cells #[.slice A1 u u] 22)).ownsRow 0 22 1 (.slice Ap j cp) j vals) := Lib.hid (HCUT.out.row.keep ((Keeps.refl _ wr).alloc _)).1
        have HRD : Hid (Rd (wr.alloc (.cells #[.slice A1 u u] 22)) (some ⟨wr.heap.size, 0, none⟩) 1 [.slice A1 u u]) := Lib.hid (Rd.of_blk (Blk.new wr 22 [.slice A1 u u]) rfl)
        clear hA1 hA2 hr1 hr2 hdl hzz z2
        go_wp2_with (first
          | (at_builtin; refine wpList_append_rd _ rfl (.tmp 41) (.tmp 46) 24 rfl 22 (.slice none 0 0) 24 Tryd.underlying24 infoSl rfl (.slice Ap j cp) j vals rfl HOW.out _ 1 1 _ rfl HRD.out (by intro u hu; rw [List.mem_singleton.1 hu]; rfl) (by unfold maxLen; omega) (by omega) ?_; intro A5 c5 w5 hown5 hg5 hb5; have HC5 := Lib.hid (HSTEP.out A5 c5 w5 hown5 hg5 (by simpa only [World.size_alloc] using hb5)); clear hown5 hg5 hb5))
        go_roundw
        case rel => exact ⟨j + 1, t + u, r - u, A5, c5, _, _, A2, cl - u, by omega, by go_num, rfl, rfl, by omega, HC5.out, HR2.out, by omega⟩
        case measure => simp [intOf]; omega
      · have hc1 := cut_hm (P := Tryd.prog) Tryd.underlying22 (by kernel_rfl) Al r cl u (r : Int) (r : Int) (by omega) (by omega) (by omega)
        have hc2 := cut_l (P := Tryd.prog) Tryd.underlying22 (by kernel_rfl) Al r cl u (r : Int) (by omega) hur
        have hdl : (bs.drop t).length = r := by rw [List.length_drop, HN'.out]; omega
        have hr1 : Rd w (cutA Al u 0) u (vb ((bs.drop t).take u)) := by
          have := HRL.out.cutHM hur
          simpa [vb, List.map_take] using this
        have hr2 : Rd w (cutA Al cl u) (r - u) (vb (bs.drop (t + u))) := by
          have := HRL.out.cutA hur hcl
          simpa [vb, List.map_drop] using this
        obtain ⟨A1, hA1⟩ : ∃ A1, A1 = cutA Al u 0 := ⟨_, rfl⟩
        obtain ⟨A2, hA2⟩ : ∃ A2, A2 = cutA Al cl u := ⟨_, rfl⟩
        rw [← hA1] at hc1 hr1
        rw [← hA2] at hc2 hr2
        have HR2 := Lib.hid hr2
        have HSTEP : Hid (∀ A5 c5 w5, w5.ownsRow 0 22 1 (.slice A5 (j + 1) c5) (j + 1) (vals ++ [.slice A1 u u]) → (wr.alloc (.cells #[.slice A1 u u] 22)).grownBy w5 (Value.slice Ap j cp).ownBlock → ((Value.slice A5 (j + 1) c5).ownBlock = (Value.slice Ap j cp).ownBlock ∨ (Value.slice A5 (j + 1) c5).ownBlock = some (wr.heap.size + 1)) → CutR w w3 bs (j + 1) (t + u) A5 c5 (vals ++ [.slice A1 u u]) (pss ++ [(bs.drop t).take u]) w5) := Lib.hid fun A5 c5 w5 h1 h2 h3 =>
          HCUT.out.step (HCUT.out.row.app h1 h2 h3) (by rw [List.length_take, hdl]; omega) hr1 HBY.out (Nat.le_refl _)
        have HOW : Hid ((wr.alloc (.cells #[.slice A1 u u] 22)).ownsRow 0 22 1 (.slice Ap j cp) j vals) := Lib.hid (HCUT.out.row.keep ((Keeps.refl _ wr).alloc _)).1
        have HRD : Hid (Rd (wr.alloc (.cells #[.slice A1 u u] 22)) (some ⟨wr.heap.size, 0, none⟩) 1 [.slice A1 u u]) := Lib.hid (Rd.of_blk (Blk.new wr 22 [.slice A1 u u]) rfl)
        clear hA1 hA2 hr1 hr2 hdl hzz z3
        go_wp2_with (first
          | (at_builtin; refine wpList_append_rd _ rfl (.tmp 41) (.tmp 46) 24 rfl 22 (.slice none 0 0) 24 Tryd.underlying24 infoSl rfl (.slice Ap j cp) j vals rfl HOW.out _ 1 1 _ rfl HRD.out (by intro u hu; rw [List.mem_singleton.1 hu]; rfl) (by unfold maxLen; omega) (by omega) ?_; intro A5 c5 w5 hown5 hg5 hb5; have HC5 := Lib.hid (HSTEP.out A5 c5 w5 hown5 hg5 (by simpa only [World.size_alloc] using hb5)); clear hown5 hg5 hb5))
        go_roundw
        case rel => exact ⟨j + 1, t + u, r - u, A5, c5, _, _, A2, cl - u, by omega, by go_num, rfl, rfl, by omega, HC5.out, HR2.out, by omega⟩
        case measure => simp [intOf]; omega
      · have hc1 := cut_hm (P := Tryd.prog) Tryd.underlying22 (by kernel_rfl) Al r cl u z z (by omega) (by omega) (by omega)
        have hc2 := cut_l (P := Tryd.prog) Tryd.underlying22 (by kernel_rfl) Al r cl u z (by omega) hur
        have hdl : (bs.drop t).length = r := by rw [List.length_drop, HN'.out]; omega
        have hr1 : Rd w (cutA Al u 0) u (vb ((bs.drop t).take u)) := by
          have := HRL.out.cutHM hur
          simpa [vb, List.map_take] using this
        have hr2 : Rd w (cutA Al cl u) (r - u) (vb (bs.drop (t + u))) := by
          have := HRL.out.cutA hur hcl
          simpa [vb, List.map_drop] using this
        obtain ⟨A1, hA1⟩ : ∃ A1, A1 = cutA Al u 0 := ⟨_, rfl⟩
        obtain ⟨A2, hA2⟩ : ∃ A2, A2 = cutA Al cl u := ⟨_, rfl⟩
        rw [← hA1] at hc1 hr1
        rw [← hA2] at hc2 hr2
        have HR2 := Lib.hid hr2
        have HSTEP : Hid (∀ A5 c5 w5, w5.ownsRow 0 22 1 (.slice A5 (j + 1) c5) (j + 1) (vals ++ [.slice A1 u u]) → (wr.alloc (.cells #[.slice A1 u u] 22)).grownBy w5 (Value.slice Ap j cp).ownBlock → ((Value.slice A5 (j + 1) c5).ownBlock = (Value.slice Ap j cp).ownBlock ∨ (Value.slice A5 (j + 1) c5).ownBlock = some (wr.heap.size + 1)) → CutR w w3 bs (j + 1) (t + u) A5 c5 (vals ++ [.slice A1 u u]) (pss ++ [(bs.drop t).take u]) w5) := Lib.hid fun A5 c5 w5 h1 h2 h3 =>
          HCUT.out.step (HCUT.out.row.app h1 h2 h3) (by rw [List.length_take, hdl]; omega) hr1 HBY.out (Nat.le_refl _)
        have HOW : Hid ((wr.alloc (.cells #[.slice A1 u u] 22)).ownsRow 0 22 1 (.slice Ap j cp) j vals) := Lib.hid (HCUT.out.row.keep ((Keeps.refl _ wr).alloc _)).1
        have HRD : Hid (Rd (wr.alloc (.cells #[.slice A1 u u] 22)) (some ⟨wr.heap.size, 0, none⟩) 1 [.slice A1 u u]) := Lib.hid (Rd.of_blk (Blk.new wr 22 [.slice A1 u u]) rfl)
        clear hA1 hA2 hr1 hr2 hdl hzz z3
        go_wp2_with (first
          | (at_builtin; refine wpList_append_rd _ rfl (.tmp 41) (.tmp 46) 24 rfl 22 (.slice none 0 0) 24 Tryd.underlying24 infoSl rfl (.slice Ap j cp) j vals rfl HOW.out _ 1 1 _ rfl HRD.out (by intro u hu; rw [List.mem_singleton.1 hu]; rfl) (by unfold maxLen; omega) (by omega) ?_; intro A5 c5 w5 hown5 hg5 hb5; have HC5 := Lib.hid (HSTEP.out A5 c5 w5 hown5 hg5 (by simpa only [World.size_alloc] using hb5)); clear hown5 hg5 hb5))
        go_roundw
        case rel => exact ⟨j + 1, t + u, r - u, A5, c5, _, _, A2, cl - u, by omega, by go_num, rfl, rfl, by omega, HC5.out, HR2.out, by omega⟩
        case measure => simp [intOf]; omega
    · obtain rfl : j = k := by omega
      have hlo : w1.heap.size ≤ w2.heap.size := HK2.out.size
      have hlo3 : w1.heap.size ≤ w3.heap.size := HK3.out.size
      have hkw3 : Keeps (fun _ => False) w w3 := HO1.out.own.2.1.trans HK3.out (fun _ _ h => h)
      have hdl : (bs.drop t).length = r := by rw [List.length_drop, HN'.out]; omega
      have hc1 := cut_hm (P := Tryd.prog) Tryd.underlying22 (by kernel_rfl) Al r cl r r r rfl rfl hcl
      have hr1 : Rd w (cutA Al r 0) r (vb ((bs.drop t).take r)) := by
        have := HRL.out.cutHM (Nat.le_refl r)
        simpa [vb, List.map_take] using this
      obtain ⟨A1, hA1⟩ : ∃ A1, A1 = cutA Al r 0 := ⟨_, rfl⟩
      rw [← hA1] at hc1 hr1
      have HSTEP : Hid (∀ A5 c5 w5, w5.ownsRow 0 22 1 (.slice A5 (j + 1) c5) (j + 1) (vals ++ [.slice A1 r r]) → (wr.alloc (.cells #[.slice A1 r r] 22)).grownBy w5 (Value.slice Ap j cp).ownBlock → ((Value.slice A5 (j + 1) c5).ownBlock = (Value.slice Ap j cp).ownBlock ∨ (Value.slice A5 (j + 1) c5).ownBlock = some (wr.heap.size + 1)) → CutR w w3 bs (j + 1) (t + r) A5 c5 (vals ++ [.slice A1 r r]) (pss ++ [(bs.drop t).take r]) w5) := Lib.hid fun A5 c5 w5 h1 h2 h3 =>
        HCUT.out.step (HCUT.out.row.app h1 h2 h3) (by rw [List.length_take, hdl]; omega) hr1 HBY.out (Nat.le_refl _)
      have HOW : Hid ((wr.alloc (.cells #[.slice A1 r r] 22)).ownsRow 0 22 1 (.slice Ap j cp) j vals) := Lib.hid (HCUT.out.row.keep ((Keeps.refl _ wr).alloc _)).1
      have HRD : Hid (Rd (wr.alloc (.cells #[.slice A1 r r] 22)) (some ⟨wr.heap.size, 0, none⟩) 1 [.slice A1 r r]) := Lib.hid (Rd.of_blk (Blk.new wr 22 [.slice A1 r r]) rfl)
      have HONE : Hid (∀ W, Keeps (fun _ => False) w3 W → OneM w W w1.heap.size W p q v key []) := Lib.hid fun W hk => ⟨HO1.out.keep (HK3.out.trans hk (fun _ _ h => h)), fun i hi => .inl (HO1.out.foot_lt i hi), Keeps.refl _ _⟩
      have hpl := HCUT.out.len
      have hpf := HCUT.out.flat
      have hbl := HN'.out
      have htk0 : (bs.drop t).take r = bs.drop t := List.take_of_length_le (by omega)
      clear hA1 hr1 hdl
      go_wp2_with (first
        | (at_builtin; refine wpList_append_rd _ rfl (.tmp 52) (.tmp 59) 24 rfl 22 (.slice none 0 0) 24 Tryd.underlying24 infoSl rfl (.slice Ap j cp) j vals rfl HOW.out _ 1 1 _ rfl HRD.out (by intro u hu; rw [List.mem_singleton.1 hu]; rfl) (by unfold maxLen; omega) (by omega) ?_; intro A5 c5 w5 hown5 hg5 hb5; have HC5 := Lib.hid (HSTEP.out A5 c5 w5 hown5 hg5 (by simpa only [World.size_alloc] using hb5)); clear hown5 hg5 hb5)
        | (go_at_call 32; refine (one_copy (HONE.out w5 HC5.out.row.2.1)).mono ?_; rintro e w6 ⟨p2, q2, v2, rfl, ht6⟩; have HT6 := Lib.hid ht6; clear ht6))
      obtain ⟨pss5, hp5⟩ : ∃ x, x = pss ++ [(bs.drop t).take r] := ⟨_, rfl⟩
      obtain ⟨vals5, hv5⟩ : ∃ x, x = vals ++ [Value.slice A1 r r] := ⟨_, rfl⟩
      rw [← hp5, ← hv5] at HC5
      have hfl : pss5.flatten = bs := by rw [HC5.out.flat]; exact List.take_of_length_le (by omega)
      have hfk : (pss5.take j).flatten = bs.take t := by rw [hp5, List.take_append_of_le_length (by omega), List.take_of_length_le (by omega), hpf]
      have hl5 : pss5.length = j + 1 := HC5.out.len
      have HB5 : Hid (Blk w5 w2.heap.size 41 MV) := Lib.hid (HC5.out.row.2.1.blk HB3.out (fun h => h))
      have HSD : Hid (∀ (W : World) (p q : Nat) (v : Value) (msg : List Int), OneM w w5 w1.heap.size W p q v key msg → HasD w2.heap.size MV W) := Lib.hid fun W p q v msg h => h.blk HB5.out hlo
      have HPO := Lib.hid (HC5.out.parts (lo := w1.heap.size) hkw3 hlo3 HN'.out hm')
      have HCELL : Hid (∀ (W : World) (i : Nat), i < j + 1 → Keeps (fun i => w.heap.size ≤ i ∧ i < w1.heap.size) w5 W → ∃ g o A' c' ps, A5 = some ⟨g, o, none⟩ ∧ W.cell? ⟨g, o + i, none⟩ = some (.slice A' ps.length c') ∧ pss5[i]? = some ps ∧ Rd w A' ps.length (vb ps) ∧ IsBytes ps ∧ ps.length ≤ c' ∧ (pss5.take i).flatten.length + ps.length ≤ m) := Lib.hid fun W i hi hk => by
        obtain ⟨ps, hps⟩ : ∃ ps, pss5[i]? = some ps := ⟨_, List.getElem?_eq_getElem (by omega)⟩
        obtain ⟨A', c', a, b, c1, d1⟩ := HC5.out.each i ps hps
        obtain ⟨g, e1, hg, _⟩ := HC5.out.row.form (by omega)
        have hout : Out (fun i => w.heap.size ≤ i ∧ i < w1.heap.size) A5 (j + 1) := fun _ ad e hf => by
          rw [e1] at e
          injection e with e
          subst e
          have : g < w1.heap.size := hf.2
          omega
        have hrd := (Rd.of_own HC5.out.row.1).keep hk hout
        obtain ⟨g', o', e', hcell⟩ := hrd.2 (by omega)
        have hpl2 := part_le pss5 i ps hps
        rw [hfl] at hpl2
        exact ⟨g', o', A', c', ps, e', (hcell i hi).trans a, hps, b, c1, d1, by omega⟩
      go_loopw [14, 65] (fun Bv i wr => ∃ (j' p2 q2 : Nat) (v2 v' : Value), j' ≤ j + 1 ∧ i = .int .i64 j' ∧ Bv = .pointer (some ⟨p2, 0, none⟩) ∧ TwoM w w5 w1.heap.size wr p q v' p2 q2 v2 key (pss5.take j').flatten (pss5.take (j' - 1)).flatten) (fun _ i _ => j + 1 - (intOf i).toNat)
      case atStart => exact ⟨0, p2, q2, v2, v, by omega, rfl, rfl, HT6.out⟩
      case round =>
        clear HT6
        obtain ⟨j', p2, q2, v2, v', hj', rfl, rfl, ht⟩ := hrel
        have HT := Lib.hid ht
        clear ht
        by_cases hlt' : j' < j + 1
        · obtain ⟨g, o, A', c', ps, hA5, hcell, hps, hrp, hbp, hcp, hfp⟩ := HCELL.out wr j' hlt' HT.out.one.kept
          subst hA5
          have HWR : Hid (∀ (W : World) (p3 q3 : Nat) (v3 : Value), TwoM w w5 w1.heap.size W p q v' p3 q3 v3 key (pss5.take j').flatten (pss5.take j').flatten → Calls Tryd.prog 33 #[.pointer (some ⟨p, 0, none⟩), .slice A' ps.length c'] W fun e w' => e = .returned .nilIface ∧ ∃ v'', TwoM w w5 w1.heap.size w' p q v'' p3 q3 v3 key (pss5.take (j' + 1)).flatten (pss5.take (j' + 1 - 1)).flatten) := Lib.hid fun W p3 q3 v3 h => by
            rw [take_flat' pss5 j' ps hps, Nat.add_sub_cancel]
            exact two_write HG.out h A' ps.length c' ps rfl hrp hbp hcp (by omega) (by omega)
          have hylen : (pss5.take (j' + 1)).flatten.length ≤ m := by rw [take_flat' pss5 j' ps hps, List.length_append]; exact hfp
          obtain ⟨Y, hY⟩ : ∃ Y, Y = (pss5.take (j' + 1)).flatten := ⟨_, rfl⟩
          have HYY := Lib.hid hY
          rw [← hY] at hylen
          rw [← hY] at HWR
          have HSY : Hid (∀ (W : World) (p3 q3 : Nat) (v3 v'' : Value) (X : List Int), TwoM w w5 w1.heap.size W p q v'' p3 q3 v3 key Y X → Calls Tryd.prog 34 #[.pointer (some ⟨p, 0, none⟩)] W fun e w' => e = .returned (.agg (vb (macF key Y)).toArray) ∧ TwoM w w5 w1.heap.size w' p q v'' p3 q3 v3 key Y X) := Lib.hid fun W p3 q3 v3 v'' X h =>
            (one_sum HG.out h.one HBX.out (by omega)).mono fun _ _ ⟨he, hk⟩ => ⟨he, h.read hk⟩
          have hney : ∀ W, (binOp .neq 41 (.agg (vb (macF key Y)).toArray) (.agg (vb (macF key Y)).toArray)).run Tryd.prog W = .ok (.bool false) W := fun W => neq_of_eql (dig_self _ (macF_length _ _) W)
          obtain ⟨YV, hYV⟩ : ∃ YV, YV = vb (macF key Y) := ⟨_, rfl⟩
          rw [← hYV] at HSY
          simp only [← hYV] at hney
          clear hY hYV hps hrp hbp hcp hfp hylen
          go_wp2_with (first
            | (go_at_call 32; refine (one_copy HT.out.one).mono ?_; rintro e w7 ⟨p3, q3, v3, rfl, ht7⟩; have HT7 := Lib.hid ht7; clear ht7)
            | (go_at_call 33; refine (HWR.out _ _ _ _ HT7.out).mono ?_; rintro e w8 ⟨rfl, v8, ht8⟩; have HT8 := Lib.hid ht8; clear ht8)
            | (go_at_call 34; refine (HSY.out _ _ _ _ _ _ HT8.out).mono ?_; rintro e w8 ⟨rfl, ht8⟩; have HT8 := Lib.hid ht8; clear ht8))
          go_roundw
          case rel => exact ⟨j' + 1, p3, q3, v3, v8, by omega, by go_num, rfl, by rw [← HYY.out]; exact HT8.out⟩
          case measure => simp [intOf]; omega
        · obtain rfl : j' = j + 1 := by omega
          have hall : pss5.take (j + 1) = pss5 := List.take_of_length_le (by omega)
          have HT0 : Hid (TwoM w w5 w1.heap.size wr.drew p2 q2 v2 p q v' key (bs.take t) bs) := Lib.hid (by
            have := (HT.out.read ((Keeps.refl _ wr).drew)).swap
            rwa [hall, hfl, Nat.add_sub_cancel, hfk] at this)
          have HW27 : Hid (∀ W, TwoM w w5 w1.heap.size W p2 q2 v2 p q v' key (bs.take t) bs → Calls Tryd.prog 33 #[.pointer (some ⟨p2, 0, none⟩), .slice Al r cl] W fun e w' => e = .returned .nilIface ∧ ∃ u1, TwoM w w5 w1.heap.size w' p2 q2 u1 p q v' key bs bs) := Lib.hid fun W h => by
            have := two_write HG.out h Al r cl (bs.drop t) (by rw [List.length_drop]; omega) HRL.out (fun x hx => HBY.out x (List.mem_of_mem_drop hx)) hcl (by omega) (by rw [List.length_take]; omega)
            rwa [List.take_append_drop] at this
          have HSP : Hid (∀ (W : World) (p q : Nat) (v : Value), OneM w w5 w1.heap.size W p q v key bs → Calls Tryd.prog 19 #[.slice A n c, .slice A5 (j + 1) c5] W fun e w' => e = .returned (.agg MV.toArray) ∧ Keeps (fun _ => False) W w') := Lib.hid fun W p q v h => by
            have hk := h.one.own.2.1
            have := hsum_any W (HG.out.keep hk (fun _ h => h.elim)) A n c key HN.out (HX.out.keep hk (no_out _ _)) HBX.out hc hm A5 (j + 1) c5 pss5 hl5 (HPO.out.keep h.kept (fun _ h => h)).weak (by omega) (by rw [hfl]; omega)
            rwa [hfl, ← HMV.out] at this
          have HS0 : Hid (HasD w2.heap.size MV wr.drew) := Lib.hid (HSD.out _ _ _ _ _ HT0.out.one)
          clear hall hfl hfk hl5 hp5 hv5 hpf hpl htk0 hbl HT hc1
          go_wp2
          refine wp_region_held_drew (S := HasD w2.heap.size MV) (by kernel_rfl) HS0.out (fun hHeld => ?_)
          refine wpAnyH_take (i := 0) (oi := ⟨some 83, _, _, _, _, _⟩) (v := ?_) rfl (by kernel_rfl) (by kernel_rfl) (by kernel_rfl) (fun _ _ _ h => h) (Or.inl ⟨by rfl, ?_⟩) hHeld ?_
          rotate_left
          · intro w' hSw
            go_simp
            first | done | rfl
          try simp only [Act.put, List.setIfInBounds_toArray, List.set_cons_zero, List.set_cons_succ]
          refine wpAnyH_take (i := 1) (oi := ⟨some 84, _, _, _, _, _⟩) (v := ?_) rfl (by kernel_rfl) (by kernel_rfl) (by kernel_rfl) (fun _ _ _ h => h) (Or.inl ⟨by rfl, ?_⟩) hHeld ?_
          rotate_left
          · intro w' hSw
            go_simp
            first | done | rfl
          try simp only [Act.put, List.setIfInBounds_toArray, List.set_cons_zero, List.set_cons_succ]
          refine wpAnyH_take (i := 2) (oi := ⟨some 85, _, _, _, _, _⟩) (v := ?_) rfl (by kernel_rfl) (by kernel_rfl) (by kernel_rfl) (fun _ _ _ h => h) (Or.inl ⟨by rfl, ?_⟩) hHeld ?_
          rotate_left
          · intro w' hSw
            go_simp
            first | done | rfl
          try simp only [Act.put, List.setIfInBounds_toArray, List.set_cons_zero, List.set_cons_succ]
          refine wpAnyH_take (i := 3) (oi := ⟨some 86, _, _, _, _, _⟩) (v := ?_) rfl (by kernel_rfl) (by kernel_rfl) (by kernel_rfl) (fun _ _ _ h => h) (Or.inl ⟨by rfl, ?_⟩) hHeld ?_
          rotate_left
          · intro w' hSw
            go_simp
            first | done | rfl
          try simp only [Act.put, List.setIfInBounds_toArray, List.set_cons_zero, List.set_cons_succ]
          refine wpAnyH_take (i := 4) (oi := ⟨some 87, _, _, _, _, _⟩) (v := ?_) rfl (by kernel_rfl) (by kernel_rfl) (by kernel_rfl) (fun _ _ _ h => h) (Or.inl ⟨by rfl, ?_⟩) hHeld ?_
          rotate_left
          · intro w' hSw
            go_simp
            first | done | rfl
          try simp only [Act.put, List.setIfInBounds_toArray, List.set_cons_zero, List.set_cons_succ]
          refine wpAnyH_ready (rs := [5]) (by kernel_rfl) (by simp) ?_
          refine AllReadyH.cons (o := ⟨some 88, _, _, _, _, _⟩) rfl (fun K hK => ?_) AllReadyH.nil
          go_simp
          refine (HW27.out _ HT0.out).mono ?_
          rintro e x1 ⟨rfl, u1, ht1⟩
          have HT1 := Lib.hid ht1
          clear ht1
          show K _ x1
          refine hK.out _ _ (HSD.out _ _ _ _ _ HT1.out.one) (fun hHeld => ?_)
          clear hK K
          try simp only [Act.put, List.setIfInBounds_toArray, List.set_cons_zero, List.set_cons_succ]
          refine wpAnyH_take (i := 6) (oi := ⟨some 89, _, _, _, _, _⟩) (v := ?_) rfl (by kernel_rfl) (by kernel_rfl) (by kernel_rfl) (fun _ _ _ h => h) (Or.inl ⟨by rfl, ?_⟩) hHeld ?_
          rotate_left
          · intro w' hSw
            go_simp
            first | done | rfl
          try simp only [Act.put, List.setIfInBounds_toArray, List.set_cons_zero, List.set_cons_succ]
          refine wpAnyH_take (i := 7) (oi := ⟨some 90, _, _, _, _, _⟩) (v := ?_) rfl (by kernel_rfl) (by kernel_rfl) (by kernel_rfl) (fun _ _ _ h => h) (Or.inl ⟨by rfl, ?_⟩) hHeld ?_
          rotate_left
          · intro w' hSw
            go_simp
            first | done | rfl
          try simp only [Act.put, List.setIfInBounds_toArray, List.set_cons_zero, List.set_cons_succ]
          refine wpAnyH_take (i := 8) (oi := ⟨some 91, _, _, _, _, _⟩) (v := ?_) rfl (by kernel_rfl) (by kernel_rfl) (by kernel_rfl) (fun _ _ _ h => h) (Or.inl ⟨by rfl, ?_⟩) hHeld ?_
          rotate_left
          · intro w' hSw
            go_simp
            first | done | rfl
          try simp only [Act.put, List.setIfInBounds_toArray, List.set_cons_zero, List.set_cons_succ]
          refine wpAnyH_take (i := 9) (oi := ⟨some 92, _, _, _, _, _⟩) (v := ?_) rfl (by kernel_rfl) (by kernel_rfl) (by kernel_rfl) (fun _ _ _ h => h) (Or.inl ⟨by rfl, ?_⟩) hHeld ?_
          rotate_left
          · intro w' hSw
            go_simp
            first | done | rfl
          try simp only [Act.put, List.setIfInBounds_toArray, List.set_cons_zero, List.set_cons_succ]
          refine wpAnyH_take (i := 11) (oi := ⟨some 94, _, _, _, _, _⟩) (v := _) rfl (by kernel_rfl) (by kernel_rfl) (by kernel_rfl) (fun _ _ _ h => h) (yieldsIf_load_mid (by rfl) _ _ rfl _ _ rfl MV _ (fun w' h => HRG.out _ _ h) Tryd.underlying41 rfl HIN.out) hHeld ?_
          try simp only [Act.put, List.setIfInBounds_toArray, List.set_cons_zero, List.set_cons_succ]
          refine wpAnyH_ready (rs := [10]) (by kernel_rfl) (by simp) ?_
          refine AllReadyH.cons (o := ⟨some 93, _, _, _, _, _⟩) rfl (fun K hK => ?_) AllReadyH.nil
          go_simp
          refine (HSU.out _ _ _ _ HT1.out.one).mono ?_
          rintro e x2 ⟨rfl, ht2⟩
          have HT2 := Lib.hid ht2
          clear ht2
          show K _ x2
          refine hK.out _ _ (HSD.out _ _ _ _ _ (HT1.out.one.read HT2.out)) (fun hHeld => ?_)
          clear hK K
          try simp only [Act.put, List.setIfInBounds_toArray, List.set_cons_zero, List.set_cons_succ]
          refine wpAnyH_take (i := 12) (oi := ⟨some 95, _, _, _, _, _⟩) (v := ?_) rfl (by kernel_rfl) (by kernel_rfl) (by kernel_rfl) (fun _ _ _ h => h) (Or.inl ⟨by rfl, ?_⟩) hHeld ?_
          rotate_left
          · intro w' hSw
            go_simp
            first | done | rfl
          try simp only [Act.put, List.setIfInBounds_toArray, List.set_cons_zero, List.set_cons_succ]
          refine wpAnyH_take (i := 13) (oi := ⟨some 96, _, _, _, _, _⟩) (v := ?_) rfl (by kernel_rfl) (by kernel_rfl) (by kernel_rfl) (fun _ _ _ h => h) (Or.inl ⟨by rfl, ?_⟩) hHeld ?_
          rotate_left
          · intro w' hSw
            go_simp
            first | done | rfl
          try simp only [Act.put, List.setIfInBounds_toArray, List.set_cons_zero, List.set_cons_succ]
          refine wpAnyH_take (i := 14) (oi := ⟨some 97, _, _, _, _, _⟩) (v := ?_) rfl (by kernel_rfl) (by kernel_rfl) (by kernel_rfl) (fun _ _ _ h => h) (Or.inl ⟨by rfl, ?_⟩) hHeld ?_
          rotate_left
          · intro w' hSw
            go_simp
            first | done | rfl
          try simp only [Act.put, List.setIfInBounds_toArray, List.set_cons_zero, List.set_cons_succ]
          refine wpAnyH_take (i := 15) (oi := ⟨some 98, _, _, _, _, _⟩) (v := ?_) rfl (by kernel_rfl) (by kernel_rfl) (by kernel_rfl) (fun _ _ _ h => h) (Or.inl ⟨by rfl, ?_⟩) hHeld ?_
          rotate_left
          · intro w' hSw
            go_simp
            first | done | rfl
          try simp only [Act.put, List.setIfInBounds_toArray, List.set_cons_zero, List.set_cons_succ]
          refine wpAnyH_take (i := 17) (oi := ⟨some 100, _, _, _, _, _⟩) (v := ?_) rfl (by kernel_rfl) (by kernel_rfl) (by kernel_rfl) (fun _ _ _ h => h) (Or.inl ⟨by rfl, ?_⟩) hHeld ?_
          rotate_left
          · intro w' hSw
            go_simp
            first | done | rfl
          try simp only [Act.put, List.setIfInBounds_toArray, List.set_cons_zero, List.set_cons_succ]
          refine wpAnyH_take (i := 18) (oi := ⟨some 101, _, _, _, _, _⟩) (v := ?_) rfl (by kernel_rfl) (by kernel_rfl) (by kernel_rfl) (fun _ _ _ h => h) (Or.inl ⟨by rfl, ?_⟩) hHeld ?_
          rotate_left
          · intro w' hSw
            go_simp
            first | done | rfl
          try simp only [Act.put, List.setIfInBounds_toArray, List.set_cons_zero, List.set_cons_succ]
          refine wpAnyH_ready (rs := [16]) (by kernel_rfl) (by simp) ?_
          refine AllReadyH.cons (o := ⟨some 99, _, _, _, _, _⟩) rfl (fun K hK => ?_) AllReadyH.nil
          go_simp
          refine (HLE.out _ _ _ _ (HT1.out.one.read HT2.out)).mono ?_
          rintro e x3 ⟨rfl, ht3⟩
          have HT3 := Lib.hid ht3
          clear ht3
          show K _ x3
          refine hK.out _ _ (HSD.out _ _ _ _ _ ((HT1.out.one.read HT2.out).read HT3.out)) (fun hHeld => ?_)
          clear hK K
          try simp only [Act.put, List.setIfInBounds_toArray, List.set_cons_zero, List.set_cons_succ]
          refine wpAnyH_take (i := 19) (oi := ⟨some 102, _, _, _, _, _⟩) (v := ?_) rfl (by kernel_rfl) (by kernel_rfl) (by kernel_rfl) (fun _ _ _ h => h) (Or.inl ⟨by rfl, ?_⟩) hHeld ?_
          rotate_left
          · intro w' hSw
            go_simp
            first | done | rfl
          try simp only [Act.put, List.setIfInBounds_toArray, List.set_cons_zero, List.set_cons_succ]
          refine wpAnyH_take (i := 20) (oi := ⟨some 103, _, _, _, _, _⟩) (v := ?_) rfl (by kernel_rfl) (by kernel_rfl) (by kernel_rfl) (fun _ _ _ h => h) (Or.inl ⟨by rfl, ?_⟩) hHeld ?_
          rotate_left
          · intro w' hSw
            go_simp
            first | done | rfl
          try simp only [Act.put, List.setIfInBounds_toArray, List.set_cons_zero, List.set_cons_succ]
          refine wpAnyH_done (by kernel_rfl) ?_ _
          have HT4 := Lib.hid ((((HT1.out.two.read HT2.out).read HT3.out)).read ((Keeps.refl _ _).drew))
          have HS4 : Hid (HasD w2.heap.size MV x3.drew) := Lib.hid (HSD.out _ _ _ _ _ HT4.out)
          go_wp2
          refine wp_region_held_drew (S := HasD w2.heap.size MV) (by kernel_rfl) HS4.out (fun hHeld => ?_)
          refine wpAnyH_take (i := 0) (oi := ⟨some 104, _, _, _, _, _⟩) (v := ?_) rfl (by kernel_rfl) (by kernel_rfl) (by kernel_rfl) (fun _ _ _ h => h) (Or.inl ⟨by rfl, ?_⟩) hHeld ?_
          rotate_left
          · intro w' hSw
            go_simp
            first | done | rfl
          try simp only [Act.put, List.setIfInBounds_toArray, List.set_cons_zero, List.set_cons_succ]
          refine wpAnyH_take (i := 2) (oi := ⟨some 106, _, _, _, _, _⟩) (v := _) rfl (by kernel_rfl) (by kernel_rfl) (by kernel_rfl) (fun _ _ _ h => h) (yieldsIf_load_mid (by rfl) _ _ rfl _ _ rfl MV _ (fun w' h => HRG.out _ _ h) Tryd.underlying41 rfl HIN.out) hHeld ?_
          try simp only [Act.put, List.setIfInBounds_toArray, List.set_cons_zero, List.set_cons_succ]
          refine wpAnyH_ready (rs := [1]) (by kernel_rfl) (by simp) ?_
          refine AllReadyH.cons (o := ⟨some 105, _, _, _, _, _⟩) rfl (fun K hK => ?_) AllReadyH.nil
          go_simp
          refine (HSU.out _ _ _ _ HT4.out).mono ?_
          rintro e x5 ⟨rfl, ht5⟩
          have HT5 := Lib.hid ht5
          clear ht5
          show K _ x5
          refine hK.out _ _ (HSD.out _ _ _ _ _ (HT4.out.read HT5.out)) (fun hHeld => ?_)
          clear hK K
          try simp only [Act.put, List.setIfInBounds_toArray, List.set_cons_zero, List.set_cons_succ]
          refine wpAnyH_take (i := 3) (oi := ⟨some 107, _, _, _, _, _⟩) (v := ?_) rfl (by kernel_rfl) (by kernel_rfl) (by kernel_rfl) (fun _ _ _ h => h) (Or.inl ⟨by rfl, ?_⟩) hHeld ?_
          rotate_left
          · intro w' hSw
            go_simp
            first | done | rfl
          try simp only [Act.put, List.setIfInBounds_toArray, List.set_cons_zero, List.set_cons_succ]
          refine wpAnyH_take (i := 4) (oi := ⟨some 108, _, _, _, _, _⟩) (v := ?_) rfl (by kernel_rfl) (by kernel_rfl) (by kernel_rfl) (fun _ _ _ h => h) (Or.inl ⟨by rfl, ?_⟩) hHeld ?_
          rotate_left
          · intro w' hSw
            go_simp
            first | done | rfl
          try simp only [Act.put, List.setIfInBounds_toArray, List.set_cons_zero, List.set_cons_succ]
          refine wpAnyH_take (i := 5) (oi := ⟨some 109, _, _, _, _, _⟩) (v := ?_) rfl (by kernel_rfl) (by kernel_rfl) (by kernel_rfl) (fun _ _ _ h => h) (Or.inl ⟨by rfl, ?_⟩) hHeld ?_
          rotate_left
          · intro w' hSw
            go_simp
            first | done | rfl
          try simp only [Act.put, List.setIfInBounds_toArray, List.set_cons_zero, List.set_cons_succ]
          refine wpAnyH_take (i := 6) (oi := ⟨some 110, _, _, _, _, _⟩) (v := ?_) rfl (by kernel_rfl) (by kernel_rfl) (by kernel_rfl) (fun _ _ _ h => h) (Or.inl ⟨by rfl, ?_⟩) hHeld ?_
          rotate_left
          · intro w' hSw
            go_simp
            first | done | rfl
          try simp only [Act.put, List.setIfInBounds_toArray, List.set_cons_zero, List.set_cons_succ]
          refine wpAnyH_take (i := 8) (oi := ⟨some 112, _, _, _, _, _⟩) (v := _) rfl (by kernel_rfl) (by kernel_rfl) (by kernel_rfl) (fun _ _ _ h => h) (yieldsIf_load_mid (by rfl) _ _ rfl _ _ rfl MV _ (fun w' h => HRG.out _ _ h) Tryd.underlying41 rfl HIN.out) hHeld ?_
          try simp only [Act.put, List.setIfInBounds_toArray, List.set_cons_zero, List.set_cons_succ]
          refine wpAnyH_ready (rs := [7]) (by kernel_rfl) (by simp) ?_
          refine AllReadyH.cons (o := ⟨some 111, _, _, _, _, _⟩) rfl (fun K hK => ?_) AllReadyH.nil
          go_simp
          refine (HSP.out _ _ _ _ (HT4.out.read HT5.out)).mono ?_
          rintro e x6 ⟨rfl, ht6⟩
          have HT6 := Lib.hid ht6
          clear ht6
          show K _ x6
          refine hK.out _ _ (HSD.out _ _ _ _ _ ((HT4.out.read HT5.out).read HT6.out)) (fun hHeld => ?_)
          clear hK K
          try simp only [Act.put, List.setIfInBounds_toArray, List.set_cons_zero, List.set_cons_succ]
          refine wpAnyH_take (i := 9) (oi := ⟨some 113, _, _, _, _, _⟩) (v := ?_) rfl (by kernel_rfl) (by kernel_rfl) (by kernel_rfl) (fun _ _ _ h => h) (Or.inl ⟨by rfl, ?_⟩) hHeld ?_
          rotate_left
          · intro w' hSw
            go_simp
            first | done | rfl
          try simp only [Act.put, List.setIfInBounds_toArray, List.set_cons_zero, List.set_cons_succ]
          refine wpAnyH_take (i := 10) (oi := ⟨some 114, _, _, _, _, _⟩) (v := ?_) rfl (by kernel_rfl) (by kernel_rfl) (by kernel_rfl) (fun _ _ _ h => h) (Or.inl ⟨by rfl, ?_⟩) hHeld ?_
          rotate_left
          · intro w' hSw
            go_simp
            first | done | rfl
          try simp only [Act.put, List.setIfInBounds_toArray, List.set_cons_zero, List.set_cons_succ]
          refine wpAnyH_take (i := 11) (oi := ⟨some 115, _, _, _, _, _⟩) (v := ?_) rfl (by kernel_rfl) (by kernel_rfl) (by kernel_rfl) (fun _ _ _ h => h) (Or.inl ⟨by rfl, ?_⟩) hHeld ?_
          rotate_left
          · intro w' hSw
            go_simp
            first | done | rfl
          try simp only [Act.put, List.setIfInBounds_toArray, List.set_cons_zero, List.set_cons_succ]
          refine wpAnyH_take (i := 12) (oi := ⟨some 116, _, _, _, _, _⟩) (v := ?_) rfl (by kernel_rfl) (by kernel_rfl) (by kernel_rfl) (fun _ _ _ h => h) (Or.inl ⟨by rfl, ?_⟩) hHeld ?_
          rotate_left
          · intro w' hSw
            go_simp
            first | done | rfl
          try simp only [Act.put, List.setIfInBounds_toArray, List.set_cons_zero, List.set_cons_succ]
          refine wpAnyH_take (i := 14) (oi := ⟨some 118, _, _, _, _, _⟩) (v := ?_) rfl (by kernel_rfl) (by kernel_rfl) (by kernel_rfl) (fun _ _ _ h => h) (Or.inl ⟨by rfl, ?_⟩) hHeld ?_
          rotate_left
          · intro w' hSw
            go_simp
            first | done | rfl
          try simp only [Act.put, List.setIfInBounds_toArray, List.set_cons_zero, List.set_cons_succ]
          refine wpAnyH_take (i := 15) (oi := ⟨some 119, _, _, _, _, _⟩) (v := ?_) rfl (by kernel_rfl) (by kernel_rfl) (by kernel_rfl) (fun _ _ _ h => h) (Or.inl ⟨by rfl, ?_⟩) hHeld ?_
          rotate_left
          · intro w' hSw
            go_simp
            first | done | rfl
          try simp only [Act.put, List.setIfInBounds_toArray, List.set_cons_zero, List.set_cons_succ]
          refine wpAnyH_ready (rs := [13]) (by kernel_rfl) (by simp) ?_
          refine AllReadyH.cons (o := ⟨some 117, _, _, _, _, _⟩) rfl (fun K hK => ?_) AllReadyH.nil
          go_simp
          refine (HLE.out _ _ _ _ ((HT4.out.read HT5.out).read HT6.out)).mono ?_
          rintro e x7 ⟨rfl, ht7⟩
          have HT7 := Lib.hid ht7
          clear ht7
          show K _ x7
          refine hK.out _ _ (HSD.out _ _ _ _ _ (((HT4.out.read HT5.out).read HT6.out).read HT7.out)) (fun hHeld => ?_)
          clear hK K
          try simp only [Act.put, List.setIfInBounds_toArray, List.set_cons_zero, List.set_cons_succ]
          refine wpAnyH_take (i := 16) (oi := ⟨some 120, _, _, _, _, _⟩) (v := ?_) rfl (by kernel_rfl) (by kernel_rfl) (by kernel_rfl) (fun _ _ _ h => h) (Or.inl ⟨by rfl, ?_⟩) hHeld ?_
          rotate_left
          · intro w' hSw
            go_simp
            first | done | rfl
          try simp only [Act.put, List.setIfInBounds_toArray, List.set_cons_zero, List.set_cons_succ]
          refine wpAnyH_take (i := 17) (oi := ⟨some 121, _, _, _, _, _⟩) (v := ?_) rfl (by kernel_rfl) (by kernel_rfl) (by kernel_rfl) (fun _ _ _ h => h) (Or.inl ⟨by rfl, ?_⟩) hHeld ?_
          rotate_left
          · intro w' hSw
            go_simp
            first | done | rfl
          try simp only [Act.put, List.setIfInBounds_toArray, List.set_cons_zero, List.set_cons_succ]
          refine wpAnyH_take (i := 18) (oi := ⟨some 122, _, _, _, _, _⟩) (v := ?_) rfl (by kernel_rfl) (by kernel_rfl) (by kernel_rfl) (fun _ _ _ h => h) (Or.inl ⟨by rfl, ?_⟩) hHeld ?_
          rotate_left
          · intro w' hSw
            go_simp
            first | done | rfl
          try simp only [Act.put, List.setIfInBounds_toArray, List.set_cons_zero, List.set_cons_succ]
          refine wpAnyH_take (i := 19) (oi := ⟨some 123, _, _, _, _, _⟩) (v := ?_) rfl (by kernel_rfl) (by kernel_rfl) (by kernel_rfl) (fun _ _ _ h => h) (Or.inl ⟨by rfl, ?_⟩) hHeld ?_
          rotate_left
          · intro w' hSw
            go_simp
            first | done | rfl
          try simp only [Act.put, List.setIfInBounds_toArray, List.set_cons_zero, List.set_cons_succ]
          refine wpAnyH_ready (rs := [20]) (by kernel_rfl) (by simp) ?_
          refine AllReadyH.cons (o := ⟨some 124, _, _, _, _, _⟩) rfl (fun K hK => ?_) AllReadyH.nil
          go_simp
          refine (HRE.out _ _ _ _ (((HT4.out.read HT5.out).read HT6.out).read HT7.out)).mono ?_
          rintro e x8 ⟨rfl, q8, v8, ht8⟩
          have HT8 := Lib.hid ht8
          clear ht8
          show K _ x8
          refine hK.out _ _ (HSD.out _ _ _ _ _ HT8.out) (fun hHeld => ?_)
          clear hK K
          try simp only [Act.put, List.setIfInBounds_toArray, List.set_cons_zero, List.set_cons_succ]
          refine wpAnyH_take (i := 21) (oi := ⟨some 125, _, _, _, _, _⟩) (v := ?_) rfl (by kernel_rfl) (by kernel_rfl) (by kernel_rfl) (fun _ _ _ h => h) (Or.inl ⟨by rfl, ?_⟩) hHeld ?_
          rotate_left
          · intro w' hSw
            go_simp
            first | done | rfl
          try simp only [Act.put, List.setIfInBounds_toArray, List.set_cons_zero, List.set_cons_succ]
          refine wpAnyH_take (i := 22) (oi := ⟨some 126, _, _, _, _, _⟩) (v := ?_) rfl (by kernel_rfl) (by kernel_rfl) (by kernel_rfl) (fun _ _ _ h => h) (Or.inl ⟨by rfl, ?_⟩) hHeld ?_
          rotate_left
          · intro w' hSw
            go_simp
            first | done | rfl
          try simp only [Act.put, List.setIfInBounds_toArray, List.set_cons_zero, List.set_cons_succ]
          refine wpAnyH_done (by kernel_rfl) ?_ _
          have HT9 := Lib.hid (HT8.out.read ((Keeps.refl _ _).drew))
          have HS9 : Hid (HasD w2.heap.size MV x8.drew) := Lib.hid (HSD.out _ _ _ _ _ HT9.out)
          go_wp2
          refine wp_region_held_drew (S := HasD w2.heap.size MV) (by kernel_rfl) HS9.out (fun hHeld => ?_)
          refine wpAnyH_take (i := 0) (oi := ⟨some 127, _, _, _, _, _⟩) (v := ?_) rfl (by kernel_rfl) (by kernel_rfl) (by kernel_rfl) (fun _ _ _ h => h) (Or.inl ⟨by rfl, ?_⟩) hHeld ?_
          rotate_left
          · intro w' hSw
            go_simp
            first | done | rfl
          try simp only [Act.put, List.setIfInBounds_toArray, List.set_cons_zero, List.set_cons_succ]
          refine wpAnyH_take (i := 2) (oi := ⟨some 129, _, _, _, _, _⟩) (v := ?_) rfl (by kernel_rfl) (by kernel_rfl) (by kernel_rfl) (fun _ _ _ h => h) (Or.inl ⟨by rfl, ?_⟩) hHeld ?_
          rotate_left
          · intro w' hSw
            go_simp
            first | done | rfl
          try simp only [Act.put, List.setIfInBounds_toArray, List.set_cons_zero, List.set_cons_succ]
          refine wpAnyH_ready (rs := [1]) (by kernel_rfl) (by simp) ?_
          refine AllReadyH.cons (o := ⟨some 128, _, _, _, _, _⟩) rfl (fun K hK => ?_) AllReadyH.nil
          go_simp
          refine (HSZ.out _ _ _ _ HT9.out).mono ?_
          rintro e x10 ⟨rfl, ht10⟩
          have HT10 := Lib.hid ht10
          clear ht10
          show K _ x10
          refine hK.out _ _ (HSD.out _ _ _ _ _ (HT9.out.read HT10.out)) (fun hHeld => ?_)
          clear hK K
          try simp only [Act.put, List.setIfInBounds_toArray, List.set_cons_zero, List.set_cons_succ]
          refine wpAnyH_ready (rs := [3]) (by kernel_rfl) (by simp) ?_
          refine AllReadyH.cons (o := ⟨some 130, _, _, _, _, _⟩) rfl (fun K hK => ?_) AllReadyH.nil
          go_simp
          refine (HSN.out _ _ _ _ _ (HT9.out.read HT10.out)).mono ?_
          rintro e x11 ⟨rfl, ht11⟩
          have HT11 := Lib.hid ht11
          clear ht11
          show K _ x11
          refine hK.out _ _ (HSD.out _ _ _ _ _ ((HT9.out.read HT10.out).read HT11.out)) (fun hHeld => ?_)
          clear hK K
          try simp only [Act.put, List.setIfInBounds_toArray, List.set_cons_zero, List.set_cons_succ]
          refine wpAnyH_take (i := 4) (oi := ⟨some 131, _, _, _, _, _⟩) (v := ?_) rfl (by kernel_rfl) (by kernel_rfl) (by kernel_rfl) (fun _ _ _ h => h) (Or.inl ⟨by rfl, ?_⟩) hHeld ?_
          rotate_left
          · intro w' hSw
            go_simp
            first | done | rfl
          try simp only [Act.put, List.setIfInBounds_toArray, List.set_cons_zero, List.set_cons_succ]
          refine wpAnyH_take (i := 5) (oi := ⟨some 132, _, _, _, _, _⟩) (v := ?_) rfl (by kernel_rfl) (by kernel_rfl) (by kernel_rfl) (fun _ _ _ h => h) (Or.inl ⟨by rfl, ?_⟩) hHeld ?_
          rotate_left
          · intro w' hSw
            go_simp
            first | done | rfl
          try simp only [Act.put, List.setIfInBounds_toArray, List.set_cons_zero, List.set_cons_succ]
          refine wpAnyH_take (i := 6) (oi := ⟨some 133, _, _, _, _, _⟩) (v := ?_) rfl (by kernel_rfl) (by kernel_rfl) (by kernel_rfl) (fun _ _ _ h => h) (Or.inl ⟨by rfl, ?_⟩) hHeld ?_
          rotate_left
          · intro w' hSw
            go_simp
            first | done | rfl
          try simp only [Act.put, List.setIfInBounds_toArray, List.set_cons_zero, List.set_cons_succ]
          refine wpAnyH_take (i := 7) (oi := ⟨some 134, _, _, _, _, _⟩) (v := ?_) rfl (by kernel_rfl) (by kernel_rfl) (by kernel_rfl) (fun _ _ _ h => h) (Or.inl ⟨by rfl, ?_⟩) hHeld ?_
          rotate_left
          · intro w' hSw
            go_simp
            first | done | rfl
          try simp only [Act.put, List.setIfInBounds_toArray, List.set_cons_zero, List.set_cons_succ]
          refine wpAnyH_ready (rs := [8]) (by kernel_rfl) (by simp) ?_
          refine AllReadyH.cons (o := ⟨some 135, _, _, _, _, _⟩) rfl (fun K hK => ?_) AllReadyH.nil
          go_simp
          refine (HWB.out _ _ _ _ ((HT9.out.read HT10.out).read HT11.out)).mono ?_
          rintro e x12 ⟨rfl, v12, ht12⟩
          have HT12 := Lib.hid ht12
          clear ht12
          show K _ x12
          refine hK.out _ _ (HSD.out _ _ _ _ _ HT12.out) (fun hHeld => ?_)
          clear hK K
          try simp only [Act.put, List.setIfInBounds_toArray, List.set_cons_zero, List.set_cons_succ]
          refine wpAnyH_take (i := 9) (oi := ⟨some 136, _, _, _, _, _⟩) (v := ?_) rfl (by kernel_rfl) (by kernel_rfl) (by kernel_rfl) (fun _ _ _ h => h) (Or.inl ⟨by rfl, ?_⟩) hHeld ?_
          rotate_left
          · intro w' hSw
            go_simp
            first | done | rfl
          try simp only [Act.put, List.setIfInBounds_toArray, List.set_cons_zero, List.set_cons_succ]
          refine wpAnyH_take (i := 10) (oi := ⟨some 137, _, _, _, _, _⟩) (v := ?_) rfl (by kernel_rfl) (by kernel_rfl) (by kernel_rfl) (fun _ _ _ h => h) (Or.inl ⟨by rfl, ?_⟩) hHeld ?_
          rotate_left
          · intro w' hSw
            go_simp
            first | done | rfl
          try simp only [Act.put, List.setIfInBounds_toArray, List.set_cons_zero, List.set_cons_succ]
          refine wpAnyH_take (i := 11) (oi := ⟨some 138, _, _, _, _, _⟩) (v := ?_) rfl (by kernel_rfl) (by kernel_rfl) (by kernel_rfl) (fun _ _ _ h => h) (Or.inl ⟨by rfl, ?_⟩) hHeld ?_
          rotate_left
          · intro w' hSw
            go_simp
            first | done | rfl
          try simp only [Act.put, List.setIfInBounds_toArray, List.set_cons_zero, List.set_cons_succ]
          refine wpAnyH_take (i := 12) (oi := ⟨some 139, _, _, _, _, _⟩) (v := ?_) rfl (by kernel_rfl) (by kernel_rfl) (by kernel_rfl) (fun _ _ _ h => h) (Or.inl ⟨by rfl, ?_⟩) hHeld ?_
          rotate_left
          · intro w' hSw
            go_simp
            first | done | rfl
          try simp only [Act.put, List.setIfInBounds_toArray, List.set_cons_zero, List.set_cons_succ]
          refine wpAnyH_take (i := 14) (oi := ⟨some 141, _, _, _, _, _⟩) (v := _) rfl (by kernel_rfl) (by kernel_rfl) (by kernel_rfl) (fun _ _ _ h => h) (yieldsIf_load_mid (by rfl) _ _ rfl _ _ rfl MV _ (fun w' h => HRG.out _ _ h) Tryd.underlying41 rfl HIN.out) hHeld ?_
          try simp only [Act.put, List.setIfInBounds_toArray, List.set_cons_zero, List.set_cons_succ]
          refine wpAnyH_ready (rs := [13]) (by kernel_rfl) (by simp) ?_
          refine AllReadyH.cons (o := ⟨some 140, _, _, _, _, _⟩) rfl (fun K hK => ?_) AllReadyH.nil
          go_simp
          refine (HSU.out _ _ _ _ HT12.out).mono ?_
          rintro e x13 ⟨rfl, ht13⟩
          have HT13 := Lib.hid ht13
          clear ht13
          show K _ x13
          refine hK.out _ _ (HSD.out _ _ _ _ _ (HT12.out.read HT13.out)) (fun hHeld => ?_)
          clear hK K
          try simp only [Act.put, List.setIfInBounds_toArray, List.set_cons_zero, List.set_cons_succ]
          refine wpAnyH_take (i := 15) (oi := ⟨some 142, _, _, _, _, _⟩) (v := ?_) rfl (by kernel_rfl) (by kernel_rfl) (by kernel_rfl) (fun _ _ _ h => h) (Or.inl ⟨by rfl, ?_⟩) hHeld ?_
          rotate_left
          · intro w' hSw
            go_simp
            first | done | rfl
          try simp only [Act.put, List.setIfInBounds_toArray, List.set_cons_zero, List.set_cons_succ]
          refine wpAnyH_take (i := 16) (oi := ⟨some 143, _, _, _, _, _⟩) (v := ?_) rfl (by kernel_rfl) (by kernel_rfl) (by kernel_rfl) (fun _ _ _ h => h) (Or.inl ⟨by rfl, ?_⟩) hHeld ?_
          rotate_left
          · intro w' hSw
            go_simp
            first | done | rfl
          try simp only [Act.put, List.setIfInBounds_toArray, List.set_cons_zero, List.set_cons_succ]
          refine wpAnyH_take (i := 17) (oi := ⟨some 144, _, _, _, _, _⟩) (v := ?_) rfl (by kernel_rfl) (by kernel_rfl) (by kernel_rfl) (fun _ _ _ h => h) (Or.inl ⟨by rfl, ?_⟩) hHeld ?_
          rotate_left
          · intro w' hSw
            go_simp
            first | done | rfl
          try simp only [Act.put, List.setIfInBounds_toArray, List.set_cons_zero, List.set_cons_succ]
          refine wpAnyH_ready (rs := [18]) (by kernel_rfl) (by simp) ?_
          refine AllReadyH.cons (o := ⟨some 145, _, _, _, _, _⟩) rfl (fun K hK => ?_) AllReadyH.nil
          go_simp
          refine (HWK.out _ _ _ _ _ (HT12.out.read HT13.out)).mono ?_
          rintro e x14 ⟨rfl, ht14⟩
          have HT14 := Lib.hid ht14
          clear ht14
          show K _ x14
          refine hK.out _ _ (HSD.out _ _ _ _ _ ((HT12.out.read HT13.out).read HT14.out)) (fun hHeld => ?_)
          clear hK K
          try simp only [Act.put, List.setIfInBounds_toArray, List.set_cons_zero, List.set_cons_succ]
          refine wpAnyH_take (i := 19) (oi := ⟨some 146, _, _, _, _, _⟩) (v := ?_) rfl (by kernel_rfl) (by kernel_rfl) (by kernel_rfl) (fun _ _ _ h => h) (Or.inl ⟨by rfl, ?_⟩) hHeld ?_
          rotate_left
          · intro w' hSw
            go_simp
            first | done | rfl
          try simp only [Act.put, List.setIfInBounds_toArray, List.set_cons_zero, List.set_cons_succ]
          refine wpAnyH_take (i := 20) (oi := ⟨some 6, _, _, _, _, _⟩) (v := ?_) rfl (by kernel_rfl) (by kernel_rfl) (by kernel_rfl) (fun _ _ _ h => h) (Or.inl ⟨by rfl, ?_⟩) hHeld ?_
          rotate_left
          · intro w' hSw
            go_simp
            first | done | rfl
          try simp only [Act.put, List.setIfInBounds_toArray, List.set_cons_zero, List.set_cons_succ]
          refine wpAnyH_done (by kernel_rfl) ?_ _
          have HEND : Hid (Keeps (fun _ => False) w x14) := Lib.hid ((HT12.out.read HT13.out).read HT14.out).one.own.2.1
          go_wp2
          go_ret
          exact ⟨rfl, HEND.out⟩
end Go.Proofs.YtnlnbgjpbnjjfaaDoor
