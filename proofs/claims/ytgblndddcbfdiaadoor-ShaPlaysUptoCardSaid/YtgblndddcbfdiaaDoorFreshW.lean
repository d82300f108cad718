/-
  WALK: the statement ShaFresh.
-/
import Derived.Test.YtgblndddcbfdiaaDoorTakenW
import Derived.Test.YtgblndddcbfdiaaDoorNumW
import Derived.Lib.SliceRun
import Derived.Deep.QuietTactic
import Derived.BigQuiet
set_option linter.unusedSimpArgs false
namespace Go.Aff
open Go Go.RowKit
theorem Keeps.setCells {F : Nat → Prop} {w : World} {b : Nat} (hp : F b ∨ w.heap.size ≤ b) : ∀ (vs : List Value) (o : Nat) (w1 : World), Keeps F w w1 → Keeps F w (w1.setCells b o vs)
  | [], _, _, h => h
  | v :: r, o, _, h => Keeps.setCells hp r (o + 1) _ (h.setCell (p := ⟨b, o, none⟩) hp v)
/-- clear(s), s cut short of a row of one's own. -/
theorem wpList_clear_own {P : Program} (w : World) {ops : Array Oper} {rest : List Oper} {o : Oper} {a : Act} {Q : Exit → Act → World → Prop} (hgd : o.guard = none) (s : Operand) (t e : TypeId) (z : Value)
    (ho : o.op = .call { callee := .builtin .clear, args := #[s], argTypes := #[t] }) (ht : P.underlying t = some (.slice e)) (hv : ∀ w, (zeroValue e).run P w = .ok z w) (hz : z.cells = #[z]) (h1 : z.oneCell' = true)
    (g n m c : Nat) (xs : List Value) (hs : a.eval s = .slice (some ⟨g, 0, none⟩) n c) (hown : w.ownsRow 0 e 1 (.slice (some ⟨g, 0, none⟩) m c) m xs) (hnm : n ≤ m)
    (h : ∀ w', Keeps (fun i => i = g) w w' → wpList P ops Q rest (a.put o.dst (.tuple #[])) w') : wpList P ops Q (o :: rest) a w := by
  refine wpList_plain hgd fun K hK => ?_
  rcases Nat.eq_zero_or_pos n with h0 | h0
  · subst h0
    have hrun : (Builtin.clear_ #[t] o.type #[.slice (some ⟨g, 0, none⟩) 0 c]).run P w = .ok (.tuple #[]) w := by
      simp [Builtin.clear_, run_underlying ht, hv, Builtin.zeroCells, storeCells]
    unfold Oper.wp execOp
    simp only [ho, resolve, invoke, builtin, Sem.run_bind, Sem.run_pure, Result.andThen_ok, List.map_toArray, List.map_cons, List.map_nil, hs, hrun]
    exact hK _ _ (h w (Keeps.refl _ w))
  · have hlen : xs.length = m := by have := hown.1; simpa using this
    have hrun := Lib.run_clear_slice (P := P) w t e o.type z ht hv hz h1 g 0 n c h0 (fun j hj => by
      rw [Nat.zero_add, own_cell hown j (by omega), List.getElem?_eq_getElem (by omega)]; rfl) (fun j hj => by rw [Nat.zero_add]; exact own_frozen hown j)
    unfold Oper.wp execOp
    simp only [ho, resolve, invoke, builtin, Sem.run_bind, Sem.run_pure, Result.andThen_ok, List.map_toArray, List.map_cons, List.map_nil, hs, hrun]
    exact hK _ _ (h _ (Keeps.setCells (F := fun i => i = g) (b := g) (.inl rfl) _ _ _ (Keeps.refl _ w)))
/-- The first k bytes turned. -/
def flipB (k : Nat) (X : List Int) : List Int := (X.take k).map (fun x => bits .xor .u8 x 255) ++ X.drop k
theorem flipB_length (k : Nat) (X : List Int) : (flipB k X).length = X.length := by simp [flipB]; omega
theorem flipB_at {k j : Nat} {X : List Int} {x : Int} (hx : X[j]? = some x) (h : k ≤ j) : (flipB k X)[j]? = some x := by
  have hj := (List.getElem?_eq_some_iff.1 hx).1
  have hl : ((X.take k).map (fun x => bits .xor .u8 x 255)).length = k := by simp; omega
  unfold flipB
  rw [List.getElem?_append_right (by omega), hl, List.getElem?_drop, show k + (j - k) = j by omega]
  exact hx
theorem flipB_set {k : Nat} {X : List Int} {x : Int} (hx : X[k]? = some x) : (flipB k X).set k (bits .xor .u8 x 255) = flipB (k + 1) X := by
  have hk := (List.getElem?_eq_some_iff.1 hx).1
  unfold flipB
  have hl : ((X.take k).map (fun x => bits .xor .u8 x 255)).length = k := by simp; omega
  have hg := (List.getElem?_eq_some_iff.1 hx).2
  rw [List.set_append_right _ _ (by omega), hl, Nat.sub_self, List.drop_eq_getElem_cons hk, List.set_cons_zero, ← List.take_append_getElem (by omega : k < X.length), hg]
  simp
theorem flipB_all {X : List Int} {j : Nat} {x : Int} (hx : X[j]? = some x) : (flipB X.length X)[j]? = some (bits .xor .u8 x 255) := by
  have hj := (List.getElem?_eq_some_iff.1 hx).1
  unfold flipB
  rw [List.getElem?_append_left (by simp; omega), List.getElem?_map, List.getElem?_take, if_pos hj, hx]
  rfl
theorem own_head {w : World} {base : Nat} {e : TypeId} {A : Option Addr} {n c : Nat} {xs : List Value} (h : w.ownsRow base e 1 (.slice A n c) n xs) (hn : 0 < n) : ∃ g, A = some ⟨g, 0, none⟩ := by
  obtain ⟨g, cap, e, _⟩ := h.form hn
  injection e with e
  exact ⟨g, e⟩
theorem own_either {A : Option Addr} {n c m c' g N lo hi : Nat} (hb : (Value.slice (some ⟨g, 0, none⟩) m c').ownBlock = (Value.slice A n c).ownBlock ∨ (Value.slice (some ⟨g, 0, none⟩) m c').ownBlock = some N) (h : ∀ g, (Value.slice A n c).ownBlock = some g → lo ≤ g ∧ g < hi) (hN : lo ≤ N) : lo ≤ g ∧ (g < hi ∨ g = N) := by
  rcases hb with e | e
  · exact ⟨(h g e.symm).1, .inl (h g e.symm).2⟩
  · have e' : some g = some N := e
    injection e' with e'
    exact ⟨by omega, .inr e'⟩
theorem gen_code {P : Program} {c : Code} {a : Act} {Q : Exit → Act → World → Prop} {w : World} (R : World → Prop) (hR : R w) (h : ∀ W, R W → Code.wp P c Q a W) : Code.wp P c Q a w := h w hR
theorem vb_at {X : List Int} {j : Nat} {x : Int} (hx : X[j]? = some x) : (vb X)[j]? = some (.int .u8 x) := by simp [vb, hx]
theorem vb_set (X : List Int) (k : Nat) (x : Int) : (vb X).set k (.int .u8 x) = vb (X.set k x) := by simp [vb, List.map_set]
end Go.Aff
namespace Go.Proofs.YtgblndddcbfdiaaDoor
open Go Go.RowKit Go.Sha Go.Aff
theorem Own.base {w w1 W : World} {p : Nat} {v : Value} {S : Nat → Int} {nb : Nat} {X : List Int} (h : Own w1 W p v S nb X) (hk : Keeps (fun _ => False) w w1) : Own w W p v S nb X :=
  ⟨h.1, hk.trans h.2.1 (fun _ _ h => h), fun i hi => Nat.le_trans hk.size (h.2.2 i hi)⟩
theorem mid_hcells (S : Nat → Int) (nb : Int) (v : Value) : (hcells S nb v)[9]? = some v := rfl
theorem hcells_set9 (S : Nat → Int) (nb : Int) (v u : Value) : (hcells S nb v).set 9 u = hcells S nb u := rfl
theorem zero_u8 (w : World) : (zeroValue 5).run Tryd.prog w = .ok (.int .u8 0) w := by kernel_rfl
set_option maxHeartbeats 8000000 in
set_option maxRecDepth 100000 in
theorem fresh_any (w : World) (hG : Glob w) (Ab : Option Addr) (n cb : Nat) (bs : List Int) (z : Int) (hn : bs.length = n) (hr : Rd w Ab n (vb bs)) (hb : IsBytes bs) (hc : n ≤ cb) (hm : n ≤ 140737488351232) :
    Calls Tryd.prog 7 #[.slice Ab n cb, .int .i64 z] w fun e w' => e = .returned (.bool true) ∧ Keeps (fun _ => False) w w' := by
  obtain ⟨k, hk⟩ : ∃ k, k = n / 64 := ⟨_, rfl⟩
  obtain ⟨st, hst⟩ : ∃ st, st = stN first bs k := ⟨_, rfl⟩
  obtain ⟨Xr, hXr⟩ : ∃ Xr, Xr = bs.drop (64 * k) := ⟨_, rfl⟩
  obtain ⟨r, hrr⟩ : ∃ r, r = n % 64 := ⟨_, rfl⟩
  have hXl : Xr.length = r := by rw [hXr, List.length_drop, hn]; omega
  have hr64 : r < 64 := by omega
  obtain ⟨DV, hDV⟩ : ∃ DV, DV = vb (sumF first 0 bs) := ⟨_, rfl⟩
  have HDL : Hid (DV.length = 32) := Lib.hid (by rw [hDV]; simp [vb, sumF_length])
  have HD1 : Hid (∀ u ∈ DV, u.oneCell' = true) := Lib.hid (by rw [hDV]; exact vb_one _)
  have HDI : Hid ((Tryd.prog.info? 23).map (·.size) = some DV.length) := Lib.hid (by rw [HDL.out]; kernel_rfl)
  have HEQ : Hid (∀ W, (Op.equalIn 10000 23 (.agg DV.toArray) (.agg DV.toArray)).run Tryd.prog W = .ok true W) := Lib.hid fun W => by
    have h := digest_eql W (sumF first 0 bs) (sumF first 0 bs) (sumF_length _ _ _) (sumF_length _ _ _)
    rw [decide_eq_true rfl, run_eql_struct, ← hDV] at h
    cases hq : (Op.equalIn 10000 23 (.agg DV.toArray) (.agg DV.toArray)).run Tryd.prog W with
    | halt a b' => rw [hq] at h; cases h
    | ok b' w' =>
      rw [hq] at h
      simp only [Result.andThen_ok] at h
      injection h with h1 h2
      injection h1 with h1
      rw [h1, h2]
  have HSM : Hid (∀ W p v, Own w W p v first 0 bs → Calls Tryd.prog 23 #[.pointer (some ⟨p, 0, none⟩)] W fun e w' => e = .returned (.agg DV.toArray) ∧ Keeps (fun _ => False) W w') := Lib.hid fun W p v h => by
    rw [hDV]; exact sum_any W (hG.keep h.2.1 (fun _ h => h.elim)) p v first 0 bs h.1 (by omega)
  have HT1 : Hid (∀ W, Keeps (fun _ => False) w W → Calls Tryd.prog 20 #[.slice (some ⟨W.heap.size, 0, none⟩) 1 1] (W.alloc (.cells #[.slice Ab n cb] 26)) fun e w' => e = .returned (.agg DV.toArray) ∧ Keeps (fun _ => False) W w') := Lib.hid fun W h => by
    rw [hDV]; exact sums_one W (hG.keep h (fun _ h => h.elim)) Ab n cb bs hn (hr.keep h (no_out _ _)) hb hc hm
  have HMID : Hid (∀ W p v, Own w W p v first 0 bs → Calls Tryd.prog 24 #[.pointer (some ⟨p, 0, none⟩)] W fun e w' => ∃ A c, e = .returned (.agg (hcells st (k : Int) (.slice A r c)).toArray) ∧ Mine W w' 5 A r c (vb Xr)) := Lib.hid fun W p v h => by
    have := mid_any W p v first 0 bs h.1
    unfold Told at this
    rw [hn, ← hk, ← hst, ← hrr, ← hXr, Nat.zero_add] at this
    exact this
  have HWK : Hid (∀ W, Keeps (fun _ => False) w W → Calls Tryd.prog 15 #[] W fun e w' => e = .returned (.bool true) ∧ Keeps (fun _ => False) W w') := Lib.hid fun W h => works_any W (hG.keep h (fun _ h => h.elim))
  have HPAD : Hid (∀ W, Calls Tryd.prog 16 #[.int .u64 n] W fun e w' => e = .returned (.tuple #[.slice (some ⟨W.heap.size, 0, none⟩) (padLen n) (padLen n), .nilIface]) ∧ Blk w' W.heap.size 5 (vb (padF n)) ∧ Keeps (fun _ => False) W w') := Lib.hid fun W => Pad_any W n (by omega)
  have hpl := padLen_ge n
  have hpf : ∃ l, vb (padF n) = .int .u8 128 :: l := ⟨vb (List.replicate (padLen n - 1 - 8) 0 ++ tailB n 8), rfl⟩
  obtain ⟨PL, hPL⟩ : ∃ PL, PL = padLen n := ⟨_, rfl⟩
  obtain ⟨PV, hPV⟩ : ∃ PV, PV = vb (padF n) := ⟨_, rfl⟩
  rw [← hPL] at hpl HPAD
  rw [← hPV] at hpf HPAD
  obtain ⟨PT, hPT⟩ := hpf
  have HPT := Lib.hid hPT
  have hcl := clone_any w Ab cb bs (by rw [hn]; exact hr) (by omega)
  have hcl2 := hcl.mono (show ∀ e w', NewBytes w bs e w' → ∃ A c, e = .returned (.slice A n c) ∧ Mine w w' 5 A n c (vb bs) from fun e w' h => by rw [← hn]; exact h)
  rw [hn] at hcl2
  have HCL := Lib.hid hcl2
  have t5 : IntKind.u64.wrap (n : Int) = (n : Int) := by rw [IntKind.wrap_u64]; omega
  have HR := Lib.hid hr
  have HB := Lib.hid hb
  have HN := Lib.hid hn
  have HXL := Lib.hid hXl
  have HG := Lib.hid hG
  clear hcl hcl2 hPL hPV hPT hr hb hn hk hst hXr hrr hXl hDV hG
  go_enter Tryd.func7, Tryd.ntmps7
  go_wp2_with (first
    | (go_at_call 27; refine HCL.out.mono ?_; rintro e w1 ⟨A1, c1, rfl, hm1⟩; have HM1 := Lib.hid hm1; have HO1 := Lib.hid (hm1.1.alloc (.cells #[.int .u8 7, .int .u8 7, .int .u8 7] 5)); have HRD := Lib.hid (Rd.of_blk (Blk.new w1 5 [.int .u8 7, .int .u8 7, .int .u8 7]) (n := 3) rfl); clear hm1)
    | (at_builtin; refine wpList_append_rd _ rfl (.tmp 17) (.tmp 18) 26 rfl 5 (.int .u8 0) 1 Tryd.underlying26 info5 rfl (.slice A1 n c1) n (vb bs) rfl HO1.out _ 3 3 [.int .u8 7, .int .u8 7, .int .u8 7] rfl HRD.out (vb_one [7, 7, 7]) (by unfold maxLen; omega) (by omega) ?_; intro A4 c4 w4 hown4 hg4 hb4; have hM4 := Mine.app HM1.out hown4 hg4 (by rw [← World.size_alloc w1 (.cells #[.int .u8 7, .int .u8 7, .int .u8 7] 5)]; exact hb4); obtain ⟨g4, rfl, hg4l, hc4⟩ := hM4.form (by omega); have HM4 := Lib.hid hM4; clear hM4 hown4 hg4 hb4))
  have HG4 := Lib.hid (HG.out.keep HM4.out.2.1 (fun _ h => h.elim))
  have hlt4 : g4 < w4.heap.size := own_ltN HM4.out.1
  have HRD4 : Hid (Rd w4 (some ⟨g4, 0, none⟩) n (vb bs)) := Lib.hid (by
    have := own_take HM4.out.1 n (by omega)
    rwa [List.take_left' (by simp [vb, HN.out])] at this)
  refine (new_any w4 HG4.out).mono ?_
  rintro e w5 ⟨rfl, hw5⟩
  have ho5 : Own w4 w5 w4.heap.size (.slice none 0 0) first 0 [] := by rw [hw5]; exact own_new w4
  obtain ⟨p, hp⟩ : ∃ p, p = w4.heap.size := ⟨_, rfl⟩
  rw [← hp] at ho5 ⊢
  have HO5 := Lib.hid ho5
  clear hw5 ho5 hp
  have HW1 := Lib.hid (own_write1 w4 HG4.out w5 p (.slice none 0 0) first 0 [] HO5.out (some ⟨g4, 0, none⟩) n c4 bs HN.out (HRD4.out.keep HO5.out.2.1 (no_out _ _)) (HO5.out.out HRD4.out) HB.out (by omega) hm (by simp; omega))
  go_wp2_with fail
  refine HW1.out.mono ?_
  rintro e w6 ⟨rfl, v, ho6, hk6, hf6⟩
  have HO6 : Hid (Own w w6 p v first 0 bs) := Lib.hid (Own.base ho6 HM4.out.2.1)
  have HFT : Hid (∀ i, Foot p v i → w4.heap.size ≤ i) := Lib.hid ho6.2.2
  have HR6 : Hid (w6.ownsRow 0 5 1 (.slice (some ⟨g4, 0, none⟩) (n + 3) c4) (n + 3) (vb bs ++ [.int .u8 7, .int .u8 7, .int .u8 7])) := Lib.hid (ho6.2.1.own HM4.out.1 (fun _ _ h => h))
  clear ho6 hk6 hf6 HW1 HO5
  go_wp2_with ((with_reducible show wpList _ _ _ (⟨none, Op.call _, _, _, _, _⟩ :: _) _ _); refine wpList_clear_own _ rfl (.tmp 29) 26 5 (.int .u8 0) rfl Tryd.underlying26 zero_u8 rfl rfl g4 n (n + 3) c4 _ rfl HR6.out (by omega) ?_; intro w7 hk7; have HK7 := Lib.hid hk7; clear hk7)
  have HO7 : Hid (Own w w7 p v first 0 bs) := Lib.hid (Own.apart HO6.out HK7.out (fun i hi he => by have := HFT.out i hi; omega) (fun i hi => by omega))
  refine (HT1.out _ HO7.out.2.1).mono ?_
  rintro e w8 ⟨rfl, hk8⟩
  have HO8 := Lib.hid (HO7.out.keep hk8)
  clear hk8
  go_wp2_with ((with_reducible show wpList _ _ _ (⟨none, Op.store 23 (.tmp 7) _, _, _, _, _⟩ :: _) _ _); refine wpList_store_whole rfl 23 _ _ rfl DV rfl rfl (Blk.new w8 23 (List.replicate 32 (Value.int .u8 0))) (by rw [HDL.out]; simp) HDI.out HD1.out ?_; refine gen_world (fun W => Blk W w8.heap.size 23 DV ∧ Keeps (fun _ => False) w8 W) ⟨(Blk.new w8 23 _).setRow DV, ((Keeps.refl (fun _ => False) w8).alloc _).setRow (.inr (Nat.le_refl _)) _⟩ ?_; rintro w9 ⟨hb9, hk9⟩; have HB9 := Lib.hid hb9; have HO9 := Lib.hid (HO8.out.keep hk9); clear hb9 hk9)
  obtain ⟨gW, hgW⟩ : ∃ gW, gW = w8.heap.size := ⟨_, rfl⟩
  rw [← hgW] at HB9 ⊢
  clear hgW
  refine (HMID.out _ _ _ HO9.out).mono ?_
  rintro e w10 ⟨A1', c1', rfl, hma⟩
  have HO10 := Lib.hid (HO9.out.keep hma.2.1)
  have HMA := Lib.hid hma
  clear hma
  go_wp2_with fail
  refine (HMID.out _ _ _ HO10.out).mono ?_
  rintro e w11 ⟨A2', c2', rfl, hmb⟩
  have HO11 := Lib.hid (HO10.out.keep hmb.2.1)
  have HMB := Lib.hid hmb
  have HMA1 := Lib.hid (HMA.out.keep hmb.2.1)
  have HB11 := Lib.hid (hmb.2.1.blk (HMA.out.2.1.blk HB9.out (fun h => h)) (fun h => h))
  clear hmb
  obtain ⟨M1, hM1⟩ : ∃ M, M = hcells st (k : Int) (.slice A1' r c1') := ⟨_, rfl⟩
  obtain ⟨M2, hM2⟩ : ∃ M, M = hcells st (k : Int) (.slice A2' r c2') := ⟨_, rfl⟩
  have hml1 : M1.length = 10 := by rw [hM1]; simp [hcells, wl]
  have hml2 : M2.length = 10 := by rw [hM2]; simp [hcells, wl]
  have HML1 := Lib.hid hml1
  have HML2 := Lib.hid hml2
  have HMI1 : Hid ((Tryd.prog.info? 49).map (·.size) = some M1.length) := Lib.hid (by rw [hml1]; kernel_rfl)
  have HMI2 : Hid ((Tryd.prog.info? 49).map (·.size) = some M2.length) := Lib.hid (by rw [hml2]; kernel_rfl)
  have HMC1 : Hid (∀ u ∈ M1, u.oneCell' = true) := Lib.hid (by rw [hM1]; exact hcells_one _ _ _ _ _)
  have HMC2 : Hid (∀ u ∈ M2, u.oneCell' = true) := Lib.hid (by rw [hM2]; exact hcells_one _ _ _ _ _)
  have HZ0 : Hid ((hcells (fun _ => 0) 0 (.slice none 0 0)).length = 10) := Lib.hid (by simp [hcells, wl])
  rw [← hM1, ← hM2]
  have HM1e := Lib.hid hM1
  have HM2e := Lib.hid hM2
  clear hM1 hM2 hml1 hml2
  have HBM : Hid (Blk ((w11.alloc (.cells (hcells (fun _ => 0) 0 (.slice none 0 0)).toArray 49)).alloc (.cells (hcells (fun _ => 0) 0 (.slice none 0 0)).toArray 49)) (w11.heap.size + 1) 49 (hcells (fun _ => 0) 0 (.slice none 0 0))) := Lib.hid (by
    have h5 := Blk.new (w11.alloc (.cells (hcells (fun _ => 0) 0 (.slice none 0 0)).toArray 49)) 49 (hcells (fun _ => 0) 0 (.slice none 0 0))
    rw [World.size_alloc] at h5
    exact h5)
  have HBA := Lib.hid ((Blk.new w11 49 (hcells (fun _ => 0) 0 (.slice none 0 0))).alloc (.cells (hcells (fun _ => 0) 0 (.slice none 0 0)).toArray 49))
  have HKA := Lib.hid (((Keeps.refl (fun _ => False) w11).alloc (.cells (hcells (fun _ => 0) 0 (.slice none 0 0)).toArray 49)).alloc (.cells (hcells (fun _ => 0) 0 (.slice none 0 0)).toArray 49))
  go_upto_region 8 with (first
    | ((with_reducible show wpList _ _ _ (⟨none, Op.store 49 (.tmp 8) _, _, _, _, _⟩ :: _) _ _); refine wpList_store_whole rfl 49 _ _ rfl M1 rfl rfl HBA.out (by rw [HML1.out, HZ0.out]) HMI1.out HMC1.out ?_; refine gen_world (fun W => Blk W w11.heap.size 49 M1 ∧ Blk W (w11.heap.size + 1) 49 (hcells (fun _ => 0) 0 (.slice none 0 0)) ∧ Keeps (fun _ => False) w11 W) ⟨HBA.out.setRow M1, HBM.out.setRow_far (by omega) _, HKA.out.setRow (.inr (Nat.le_refl _)) _⟩ ?_; rintro wx ⟨hx1, hx2, hx3⟩; have HX1 := Lib.hid hx1; have HX2 := Lib.hid hx2; have HX3 := Lib.hid hx3; clear hx1 hx2 hx3)
    | ((with_reducible show wpList _ _ _ (⟨none, Op.store 49 (.tmp 9) _, _, _, _, _⟩ :: _) _ _); refine wpList_store_whole rfl 49 _ _ rfl M2 rfl rfl HX2.out (by rw [HML2.out, HZ0.out]) HMI2.out HMC2.out ?_; refine gen_world (fun W => Blk W w11.heap.size 49 M1 ∧ Blk W (w11.heap.size + 1) 49 M2 ∧ Keeps (fun _ => False) w11 W) ⟨HX1.out.setRow_far (by omega) _, HX2.out.setRow M2, HX3.out.setRow (.inr (by omega)) _⟩ ?_; rintro w12 ⟨hy1, hy2, hy3⟩; have HY1 := Lib.hid hy1; have HY2 := Lib.hid hy2; have HK12 := Lib.hid hy3; clear hy1 hy2 hy3))
  have HO12 := Lib.hid (HO11.out.keep HK12.out)
  have HMA2 := Lib.hid (HMA1.out.keep HK12.out)
  have HMB2 := Lib.hid (HMB.out.keep HK12.out)
  have HB12 := Lib.hid (HK12.out.blk HB11.out (fun h => h))
  have hgs : gW < w11.heap.size := HB11.out.lt
  have HSZ : Hid (w.heap.size ≤ w11.heap.size) := Lib.hid HO11.out.2.1.size
  -- what lies where: the rows of Mid are newer than the hash, older than the two variables
  have HPL : Hid (∀ i, Foot p v i → i < w9.heap.size) := Lib.hid fun i hi => HO9.out.1.lt i hi
  have HA1 : Hid (∀ g, (Value.slice A1' r c1').ownBlock = some g → w9.heap.size ≤ g ∧ g < w10.heap.size) := Lib.hid fun g e => ⟨HMA.out.2.2 g e, (HMA.out.1.lt g e).2⟩
  have HA2 : Hid (∀ g, (Value.slice A2' r c2').ownBlock = some g → w10.heap.size ≤ g ∧ g < w11.heap.size) := Lib.hid fun g e => ⟨HMB.out.2.2 g e, (HMB.out.1.lt g e).2⟩
  have hgW9 : gW < w9.heap.size := HB9.out.lt
  have hs910 : w9.heap.size ≤ w10.heap.size := HMA.out.2.1.size
  have hs1011 : w10.heap.size ≤ w11.heap.size := HMB.out.2.1.size
  have hs9 : w.heap.size ≤ w9.heap.size := HO9.out.2.1.size
  obtain ⟨gA, hgA⟩ : ∃ g, g = w11.heap.size := ⟨_, rfl⟩
  rw [← hgA] at HY1 HY2 hgs HSZ HA2 hs1011 ⊢
  have HROW0 : Hid (w12.ownsRow 0 5 1 (.slice A1' r c1') r (vb (flipB 0 Xr)) ∧ Keeps (fun i => (Value.slice A1' r c1').ownBlock = some i) w12 w12) := Lib.hid ⟨HMA2.out.1, Keeps.refl _ _⟩
  clear hgA HX1 HX2 HX3 HBA HKA HBM HML1 HML2 HMI1 HMI2 HMC1 HMC2 HZ0 HMA HMA1 HMA2 HMB HB9 HB11 HO6 HO7 HO8 HO9 HO10 HO11 HK12 HR6 HK7
  have HS12 : Hid (gA + 1 < w12.heap.size) := Lib.hid HY2.out.lt
  have HC1 : Hid (∀ W, Keeps (fun i => (Value.slice A1' r c1').ownBlock = some i) w12 W → W.cell? ⟨gA, 9, none⟩ = some (.slice A1' r c1') ∧ W.frozen? ⟨gA, 9, none⟩ = false ∧ Blk W gA 49 M1) := Lib.hid fun W hW => by
    have hb := hW.blk HY1.out (fun h => by have := HA1.out _ h; omega)
    exact ⟨(hb.cell 9).trans (by rw [HM1e.out]; rfl), hb.frozen 9, hb⟩
  have hc12 := (HC1.out w12 (Keeps.refl _ _)).1
  go_wp2_with fail
  clear hc12
  go_loopw [40] (fun i wr => ∃ j : Nat, j ≤ r ∧ i = .int .i64 j ∧ Hid (wr.ownsRow 0 5 1 (.slice A1' r c1') r (vb (flipB j Xr)) ∧ Keeps (fun i => (Value.slice A1' r c1').ownBlock = some i) w12 wr)) (fun i _ => r - (intOf i).toNat)
  case atStart => exact ⟨0, by omega, rfl, HROW0⟩
  case round =>
    obtain ⟨j, hj, rfl, HRW⟩ := hrel
    by_cases hlt : j < r
    · have hrow := HRW.out.1
      have hform : ∃ g, A1' = some ⟨g, 0, none⟩ := by
        obtain ⟨g, cap, e, _⟩ := hrow.form (by omega)
        injection e with e
        exact ⟨g, e⟩
      obtain ⟨g1, rfl⟩ := hform
      obtain ⟨x, hx⟩ : ∃ x, Xr[j]? = some x := ⟨_, List.getElem?_eq_getElem (by rw [HXL.out]; exact hlt)⟩
      have hcell : wr.cell? ⟨g1, j, none⟩ = some (.int .u8 x) := (own_cell hrow j hlt).trans (vb_at (flipB_at hx (Nat.le_refl _)))
      have hfr := own_frozen hrow j
      have hcA := (HC1.out wr HRW.out.2).1
      have hset := own_set hrow j hlt (.int .u8 (bits .xor .u8 x 255))
      rw [vb_set, flipB_set hx] at hset
      have HNX : Hid ((wr.setCell ⟨g1, j, none⟩ (.int .u8 (bits .xor .u8 x 255))).ownsRow 0 5 1 (.slice (some ⟨g1, 0, none⟩) r c1') r (vb (flipB (j + 1) Xr)) ∧ Keeps (fun i => (Value.slice (some ⟨g1, 0, none⟩) r c1').ownBlock = some i) w12 (wr.setCell ⟨g1, j, none⟩ (.int .u8 (bits .xor .u8 x 255)))) := Lib.hid ⟨hset, HRW.out.2.setCell (p := ⟨g1, j, none⟩) (.inl rfl) _⟩
      clear hrow hset hx
      go_wp2
      go_round
      case rel => exact ⟨j + 1, by omega, by go_num, HNX⟩
      case measure => simp [intOf]; omega
    · obtain rfl : j = r := by omega
      have hcA := (HC1.out wr HRW.out.2).1
      have HB0 := Lib.hid (HC1.out wr HRW.out.2).2.2
      have HY2r := Lib.hid (HRW.out.2.blk HY2.out (fun h => by have := HA1.out _ h; omega))
      have HWr := Lib.hid (HRW.out.2.blk HB12.out (fun h => by have := HA1.out _ h; omega))
      have HOr : Hid (Own w wr p v first 0 bs) := Lib.hid (Own.apart HO12.out HRW.out.2 (fun i hi he => by have := HPL.out i hi; have := HA1.out i he; omega) (fun i hi => by have := HA1.out i hi; omega))
      have HR2r := Lib.hid (HRW.out.2.own HMB2.out.1 (fun g e h => by have := HA1.out _ h; have := HA2.out g e; omega))
      have HR1r := Lib.hid HRW.out.1
      clear HROW0 HMB2 HY1 HB12 HO12
      have hfA := (HC1.out wr HRW.out.2).2.1
      clear HC1
      have hs12 : gA + 1 < w12.heap.size := HS12.out
      have HF1 : Hid (w12.heap.size ≤ wr.heap.size) := Lib.hid HRW.out.2.size
      have hs12r : w12.heap.size ≤ wr.heap.size := HF1.out
      clear HRW
      have HR1a := Lib.hid (HR1r.out.alloc (.cells #[.int .u8 1, .int .u8 2, .int .u8 3, .int .u8 4] 5))
      have HRDa := Lib.hid (Rd.of_blk (Blk.new wr 5 [.int .u8 1, .int .u8 2, .int .u8 3, .int .u8 4]) (n := 4) rfl)
      go_upto_region 14 with (at_builtin; refine wpList_append_rd _ rfl (.tmp 52) (.tmp 53) 26 rfl 5 (.int .u8 0) 1 Tryd.underlying26 info5 rfl (.slice A1' j c1') j (vb (flipB j Xr)) rfl HR1a.out _ 4 4 [.int .u8 1, .int .u8 2, .int .u8 3, .int .u8 4] rfl HRDa.out (vb_one [1, 2, 3, 4]) (by unfold maxLen; omega) (by omega) ?_; intro A5 c5 w5' hown5 hg5 hb5; have hk5 := (((Keeps.refl (fun i => (Value.slice A1' j c1').ownBlock = some i) wr).alloc (.cells #[.int .u8 1, .int .u8 2, .int .u8 3, .int .u8 4] 5)).grown hg5 (fun g e => .inl e)); have HK5 := Lib.hid hk5; have HB0a := Lib.hid (hk5.blk HB0.out (fun h => by have := HA1.out _ h; omega)); obtain ⟨h1, rfl⟩ := own_head hown5 (by omega); have HOW5 := Lib.hid hown5; have hBL5 := own_either hb5 HA1.out (by rw [World.size_alloc]; omega); rw [World.size_alloc] at hBL5; have HBL5 := Lib.hid hBL5; have hfA5 := HB0a.out.frozen 9; have hcA5 := (HB0a.out.cell 9); rw [HM1e.out] at hcA5; clear hown5 hg5 hb5 hcA hfA hk5 hBL5)
      have HBL5' := HBL5.out
      refine gen_code (fun W => W.ownsRow 0 5 1 (.slice (some ⟨h1, 0, none⟩) (j + 4) c5) (j + 4) (vb (flipB j Xr) ++ [.int .u8 1, .int .u8 2, .int .u8 3, .int .u8 4]) ∧ Blk W gA 49 (hcells st k (.slice (some ⟨h1, 0, none⟩) (j + 4) c5)) ∧ Keeps (fun i => (Value.slice A1' j c1').ownBlock = some i ∨ i = gA) wr W) ⟨own_keepN ((Keeps.refl (fun i => i = gA) w5').setCell (p := ⟨gA, 9, none⟩) (.inl rfl) _) HOW5.out (by omega), by have := HB0a.out.set_ 9 (.slice (some ⟨h1, 0, none⟩) (j + 4) c5); rw [HM1e.out, hcells_set9] at this; exact this, (HK5.out.mono (fun i _ h => .inl h)).setCell (p := ⟨gA, 9, none⟩) (.inl (.inr rfl)) _⟩ ?_
      rintro w13 ⟨hr13, hb13, hk13⟩
      have HR1b := Lib.hid hr13
      have HBA3 := Lib.hid hb13
      have HY3 := Lib.hid (hk13.blk HY2r.out (fun h => by rcases h with h | h; exact absurd (HA1.out _ h).2 (by omega); omega))
      have HW3 := Lib.hid (hk13.blk HWr.out (fun h => by rcases h with h | h; exact absurd (HA1.out _ h).1 (by omega); omega))
      have HO3 : Hid (Own w w13 p v first 0 bs) := Lib.hid (Own.apart HOr.out hk13 (fun i hi he => by have h9 := HPL.out i hi; rcases he with h | h; exact absurd (HA1.out _ h).1 (by omega); omega) (fun i hi => by rcases hi with h | h; exact Nat.le_trans hs9 (HA1.out _ h).1; omega))
      have HR2b := Lib.hid (hk13.own HR2r.out (fun g e h => by have := HA2.out g e; rcases h with h | h; exact absurd (HA1.out _ h).2 (by omega); omega))
      have hs13 : wr.heap.size ≤ w13.heap.size := hk13.size
      clear hr13 hb13 hk13 hfA5 hcA5 HR1a HRDa HB0a HK5 HOW5 HB0 HY2r HWr HOr HR2r HR1r
      have HR2c := Lib.hid (HR2b.out.alloc (.cells #[.int .u8 5, .int .u8 6, .int .u8 7, .int .u8 8] 5))
      have HRDb := Lib.hid (Rd.of_blk (Blk.new w13 5 [.int .u8 5, .int .u8 6, .int .u8 7, .int .u8 8]) (n := 4) rfl)
      have hcB : w13.cell? ⟨gA + 1, 9, none⟩ = some (.slice A2' j c2') := (HY3.out.cell 9).trans (by rw [HM2e.out]; rfl)
      have hfB := HY3.out.frozen 9
      go_upto_region 15 with (at_builtin; refine wpList_append_rd _ rfl (.tmp 57) (.tmp 58) 26 rfl 5 (.int .u8 0) 1 Tryd.underlying26 info5 rfl (.slice A2' j c2') j (vb Xr) rfl HR2c.out _ 4 4 [.int .u8 5, .int .u8 6, .int .u8 7, .int .u8 8] rfl HRDb.out (vb_one [5, 6, 7, 8]) (by unfold maxLen; omega) (by omega) ?_; intro A6 c6 w6' hown6 hg6 hb6; have hk6 := (((Keeps.refl (fun i => (Value.slice A2' j c2').ownBlock = some i) w13).alloc (.cells #[.int .u8 5, .int .u8 6, .int .u8 7, .int .u8 8] 5)).grown hg6 (fun g e => .inl e)); have HK6 := Lib.hid hk6; have HY3a := Lib.hid (hk6.blk HY3.out (fun h => by have := HA2.out _ h; omega)); obtain ⟨h2, rfl⟩ := own_head hown6 (by omega); have HOW6 := Lib.hid hown6; have hBL6 := own_either hb6 HA2.out (by rw [World.size_alloc]; omega); rw [World.size_alloc] at hBL6; have HBL6 := Lib.hid hBL6; have hfB6 := HY3a.out.frozen 9; have hcB6 := (HY3a.out.cell 9); rw [HM2e.out] at hcB6; clear hown6 hg6 hb6 hcB hfB hk6 hBL6)
      have HBL6' := HBL6.out
      refine gen_code (fun W => W.ownsRow 0 5 1 (.slice (some ⟨h2, 0, none⟩) (j + 4) c6) (j + 4) (vb Xr ++ [.int .u8 5, .int .u8 6, .int .u8 7, .int .u8 8]) ∧ Blk W (gA + 1) 49 (hcells st k (.slice (some ⟨h2, 0, none⟩) (j + 4) c6)) ∧ Keeps (fun i => (Value.slice A2' j c2').ownBlock = some i ∨ i = gA + 1) w13 W) ⟨own_keepN ((Keeps.refl (fun i => i = gA + 1) w6').setCell (p := ⟨gA + 1, 9, none⟩) (.inl rfl) _) HOW6.out (by omega), by have := HY3a.out.set_ 9 (.slice (some ⟨h2, 0, none⟩) (j + 4) c6); rw [HM2e.out, hcells_set9] at this; exact this, (HK6.out.mono (fun i _ h => .inl h)).setCell (p := ⟨gA + 1, 9, none⟩) (.inl (.inr rfl)) _⟩ ?_
      rintro w15 ⟨hr15, hb15, hk15⟩
      have HR2 := Lib.hid hr15
      have HBB := Lib.hid hb15
      have HR1 := Lib.hid (hk15.own HR1b.out (fun g e h => by have e' : some h1 = some g := e; injection e' with e'; rcases h with h | h; exact absurd (HA2.out _ h) (by omega); omega))
      have HBA := Lib.hid (hk15.blk HBA3.out (fun h => by rcases h with h | h; exact absurd (HA2.out _ h).2 (by omega); omega))
      have HW5 := Lib.hid (hk15.blk HW3.out (fun h => by rcases h with h | h; exact absurd (HA2.out _ h).1 (by omega); omega))
      have HO15 : Hid (Own w w15 p v first 0 bs) := Lib.hid (Own.apart HO3.out hk15 (fun i hi he => by have h9 := HPL.out i hi; rcases he with h | h; exact absurd (HA2.out _ h).1 (by omega); omega) (fun i hi => by rcases hi with h | h; exact Nat.le_trans (by omega) (HA2.out _ h).1; omega))
      clear hr15 hb15 hk15 hfB6 hcB6 HR2c HRDb HY3a HK6 HOW6 HY3 HW3 HO3 HR2b HR1b HBA3 HBL5' HBL6' HBL5 HBL6
      have HCE : Hid (∀ W, Keeps (fun _ => False) w15 W → W.cell? ⟨gA, 9, none⟩ = some (.slice (some ⟨h1, 0, none⟩) (j + 4) c5) ∧ W.cell? ⟨gA + 1, 9, none⟩ = some (.slice (some ⟨h2, 0, none⟩) (j + 4) c6)) := Lib.hid fun W hW => ⟨((hW.blk HBA.out (fun h => h)).cell 9).trans rfl, ((hW.blk HBB.out (fun h => h)).cell 9).trans rfl⟩
      have HSUM := Lib.hid fun W (hW : Keeps (fun _ => False) w15 W) => HSM.out W p v (HO15.out.keep hW)
      have HWR : Hid (∀ W, Keeps (fun _ => False) w15 W → W.rangeAt gW 0 DV) := Lib.hid fun W hW j v hv => by rw [Nat.zero_add, (hW.blk HW5.out (fun h => h)).cell]; exact hv
      refine wp_region_held_drew (S := Keeps (fun _ => False) w15) (by kernel_rfl) (Keeps.refl (fun _ => False) _).drew (fun hHeld => ?_)
      refine wpAnyH_take (i := 0) (oi := ⟨some 61, _, _, _, _, _⟩) (v := ?_) rfl (by kernel_rfl) (by kernel_rfl) (by kernel_rfl) (fun _ _ _ h => h) (Or.inl ⟨by rfl, ?_⟩) hHeld ?_
      rotate_left
      · intro w' hSw
        go_simp
        first | done | rfl
      try simp only [Act.put, List.setIfInBounds_toArray, List.set_cons_zero, List.set_cons_succ]
      refine wpAnyH_take (i := 2) (oi := ⟨some 63, _, _, _, _, _⟩) (v := _) rfl (by kernel_rfl) (by kernel_rfl) (by kernel_rfl) (fun _ _ _ h => h) (yieldsIf_load_mid (by rfl) _ _ rfl _ _ rfl DV _ (fun w' h => HWR.out _ h) Tryd.underlying23 rfl HDI.out) hHeld ?_
      try simp only [Act.put, List.setIfInBounds_toArray, List.set_cons_zero, List.set_cons_succ]
      refine wpAnyH_ready (rs := [1]) (by kernel_rfl) (by simp) ?_
      refine AllReadyH.cons (o := ⟨some 62, _, _, _, _, _⟩) rfl (fun K hK => ?_) AllReadyH.nil
      go_simp
      refine (HSUM.out _ hHeld).mono ?_
      rintro e v1 ⟨rfl, hk1⟩
      have hq1 := hHeld.trans hk1 (fun _ _ h => h)
      refine hK.out _ _ hq1 (fun hHeld => ?_)
      clear hK K
      try simp only [Act.put, List.setIfInBounds_toArray, List.set_cons_zero, List.set_cons_succ]
      refine wpAnyH_take (i := 3) (oi := ⟨some 64, _, _, _, _, _⟩) (v := ?_) rfl (by kernel_rfl) (by kernel_rfl) (by kernel_rfl) (fun _ _ _ h => h) (Or.inl ⟨by rfl, ?_⟩) hHeld ?_
      rotate_left
      · intro w' hSw
        have cv := HEQ.out w'
        go_simp
        first | done | rfl
      try simp only [Act.put, List.setIfInBounds_toArray, List.set_cons_zero, List.set_cons_succ]
      refine wpAnyH_take (i := 4) (oi := ⟨some 65, _, _, _, _, _⟩) (v := ?_) rfl (by kernel_rfl) (by kernel_rfl) (by kernel_rfl) (fun _ _ _ h => h) (Or.inl ⟨by rfl, ?_⟩) hHeld ?_
      rotate_left
      · intro w' hSw
        go_simp
        first | done | rfl
      try simp only [Act.put, List.setIfInBounds_toArray, List.set_cons_zero, List.set_cons_succ]
      refine wpAnyH_take (i := 5) (oi := ⟨some 66, _, _, _, _, _⟩) (v := ?_) rfl (by kernel_rfl) (by kernel_rfl) (by kernel_rfl) (fun _ _ _ h => h) (Or.inl ⟨by rfl, ?_⟩) hHeld ?_
      rotate_left
      · intro w' hSw
        go_simp
        first | done | rfl
      try simp only [Act.put, List.setIfInBounds_toArray, List.set_cons_zero, List.set_cons_succ]
      refine wpAnyH_take (i := 6) (oi := ⟨some 67, _, _, _, _, _⟩) (v := ?_) rfl (by kernel_rfl) (by kernel_rfl) (by kernel_rfl) (fun _ _ _ h => h) (Or.inl ⟨by rfl, ?_⟩) hHeld ?_
      rotate_left
      · intro w' hSw
        have cf := (HCE.out w' hSw).1
        go_simp
        first | done | rfl
      try simp only [Act.put, List.setIfInBounds_toArray, List.set_cons_zero, List.set_cons_succ]
      refine wpAnyH_take (i := 7) (oi := ⟨some 68, _, _, _, _, _⟩) (v := ?_) rfl (by kernel_rfl) (by kernel_rfl) (by kernel_rfl) (fun _ _ _ h => h) (Or.inl ⟨by rfl, ?_⟩) hHeld ?_
      rotate_left
      · intro w' hSw
        go_simp
        first | done | rfl
      try simp only [Act.put, List.setIfInBounds_toArray, List.set_cons_zero, List.set_cons_succ]
      refine wpAnyH_take (i := 8) (oi := ⟨some 69, _, _, _, _, _⟩) (v := ?_) rfl (by kernel_rfl) (by kernel_rfl) (by kernel_rfl) (fun _ _ _ h => h) (Or.inl ⟨by rfl, ?_⟩) hHeld ?_
      rotate_left
      · intro w' hSw
        go_simp
        first | done | rfl
      try simp only [Act.put, List.setIfInBounds_toArray, List.set_cons_zero, List.set_cons_succ]
      refine wpAnyH_take (i := 9) (oi := ⟨some 70, _, _, _, _, _⟩) (v := ?_) rfl (by kernel_rfl) (by kernel_rfl) (by kernel_rfl) (fun _ _ _ h => h) (Or.inl ⟨by rfl, ?_⟩) hHeld ?_
      rotate_left
      · intro w' hSw
        have cf := (HCE.out w' hSw).2
        go_simp
        first | done | rfl
      try simp only [Act.put, List.setIfInBounds_toArray, List.set_cons_zero, List.set_cons_succ]
      refine wpAnyH_take (i := 10) (oi := ⟨some 71, _, _, _, _, _⟩) (v := ?_) rfl (by kernel_rfl) (by kernel_rfl) (by kernel_rfl) (fun _ _ _ h => h) (Or.inl ⟨by rfl, ?_⟩) hHeld ?_
      rotate_left
      · intro w' hSw
        go_simp
        first | done | rfl
      try simp only [Act.put, List.setIfInBounds_toArray, List.set_cons_zero, List.set_cons_succ]
      refine wpAnyH_take (i := 11) (oi := ⟨some 72, _, _, _, _, _⟩) (v := ?_) rfl (by kernel_rfl) (by kernel_rfl) (by kernel_rfl) (fun _ _ _ h => h) (Or.inl ⟨by rfl, ?_⟩) hHeld ?_
      rotate_left
      · intro w' hSw
        go_simp
        first | done | rfl
      try simp only [Act.put, List.setIfInBounds_toArray, List.set_cons_zero, List.set_cons_succ]
      refine wpAnyH_take (i := 12) (oi := ⟨some 73, _, _, _, _, _⟩) (v := ?_) rfl (by kernel_rfl) (by kernel_rfl) (by kernel_rfl) (fun _ _ _ h => h) (Or.inl ⟨by rfl, ?_⟩) hHeld ?_
      rotate_left
      · intro w' hSw
        go_simp
        first | done | rfl
      try simp only [Act.put, List.setIfInBounds_toArray, List.set_cons_zero, List.set_cons_succ]
      refine wpAnyH_done (by kernel_rfl) ?_ _
      have HQ1 := Lib.hid hq1
      obtain ⟨f1, f2⟩ := HCE.out v1 hq1
      have hcap5 : j + 4 ≤ c5 := own_cap HR1.out
      have hj5 : j ≤ c5 := by omega
      clear hq1 hHeld
      go_wp2_with fail
      clear f1 f2
      obtain ⟨wo, hwo⟩ : ∃ wo : World, wo = wr := ⟨_, rfl⟩
      subst hwo
      have HXV := Lib.hid fun (i : Nat) (hi : i < j) => (show ∃ x, Xr[i]? = some x from ⟨_, List.getElem?_eq_getElem (by rw [HXL.out]; exact hi)⟩)
      go_loopw [82] (fun i wl => ∃ q : Nat, q ≤ j ∧ i = .int .i64 q ∧ Hid (Keeps (fun _ => False) v1 wl)) (fun i _ => j - (intOf i).toNat)
      case atStart => exact ⟨0, by omega, rfl, Lib.hid (Keeps.refl _ _)⟩
      case round =>
        obtain ⟨q, hq, rfl, HKL⟩ := hrel
        have hkl := HQ1.out.trans HKL.out (fun _ _ h => h)
        by_cases hlq : q < j
        · obtain ⟨x, hx⟩ := HXV.out q hlq
          have hx2 : (flipB j Xr)[q]? = some (bits .xor .u8 x 255) := by have := flipB_all hx; rwa [HXL.out] at this
          have ha := (own_cell (hkl.own HR1.out (fun _ _ h => h)) q (by omega)).trans (show (vb (flipB j Xr) ++ [.int .u8 1, .int .u8 2, .int .u8 3, .int .u8 4])[q]? = some (.int .u8 (bits .xor .u8 x 255)) by rw [List.getElem?_append_left (by simp [vb, flipB_length, HXL.out, hlq])]; exact vb_at hx2)
          have hbb := (own_cell (hkl.own HR2.out (fun _ _ h => h)) q (by omega)).trans (show (vb Xr ++ [.int .u8 5, .int .u8 6, .int .u8 7, .int .u8 8])[q]? = some (.int .u8 x) by rw [List.getElem?_append_left (by simp [vb, HXL.out, hlq])]; exact vb_at hx)
          obtain ⟨f1, f2⟩ := HCE.out wr hkl
          have hlq4 : q < j + 4 := by omega
          clear hx hx2 hkl
          go_wp2
          go_quiet (fail)
          go_wp2
          go_round
          case rel => exact ⟨q + 1, by omega, by go_num, Lib.hid (HKL.out.drewN _)⟩
          case measure => simp [intOf]; omega
        · obtain rfl : q = j := by omega
          have HKW := Lib.hid (HO15.out.2.1.trans hkl (fun _ _ h => h))
          have HRF := Lib.hid (hkl.own HR1.out (fun _ _ h => h))
          have hpl0 : ((PL : Int) == 0) = false := by simp; omega
          have HCF := Lib.hid (HCE.out wr hkl).1
          have HBF := Lib.hid (hkl.blk HBA.out (fun h => h))
          clear hkl
          go_wp2_with fail
          refine (HPAD.out _).mono ?_
          rintro e wP ⟨rfl, hbP, hkP⟩
          have HBP := Lib.hid hbP
          have HKP := Lib.hid hkP
          clear hbP hkP
          go_wp2_with fail
          refine (HPAD.out _).mono ?_
          rintro e wQ ⟨rfl, hbQ, hkQ⟩
          have HBQ := Lib.hid hbQ
          have HBP2 := Lib.hid (hkQ.blk HBP.out (fun h => h))
          have HKQ := Lib.hid (HKP.out.trans hkQ (fun _ _ h => h))
          have hgPQ : wr.heap.size < wP.heap.size := HBP.out.lt
          obtain ⟨gP, hgP⟩ : ∃ g, g = wr.heap.size := ⟨_, rfl⟩
          obtain ⟨gQ, hgQ⟩ : ∃ g, g = wP.heap.size := ⟨_, rfl⟩
          rw [← hgP] at HBP2 hgPQ ⊢
          rw [← hgQ] at HBQ hgPQ ⊢
          have HGP : Hid (wr.heap.size ≤ gP) := Lib.hid (by omega)
          have hcP : wQ.cell? ⟨gP, 0, none⟩ = some (.int .u8 128) := (HBP2.out.cell 0).trans (by rw [HPT.out]; rfl)
          have hfP := HBP2.out.frozen 0
          clear hbQ hkQ HBP HKP hgP hgQ
          go_upto_region 28 with fail
          clear hcP hfP
          refine gen_code (fun W => Blk W gQ 5 PV ∧ Keeps (fun i => i = gP) wQ W) ⟨HBQ.out.far (by show gQ ≠ gP; omega) _, (Keeps.refl (fun i => i = gP) wQ).setCell (p := ⟨gP, 0, none⟩) (.inl rfl) _⟩ ?_
          rintro wS ⟨hbS, hkS⟩
          have HKS := Lib.hid (HKQ.out.trans hkS (fun i hi e => by have := HGP.out; omega))
          have hcQ : wS.cell? ⟨gQ, 0, none⟩ = some (.int .u8 128) := (hbS.cell 0).trans (by rw [HPT.out]; rfl)
          have hcR : wS.cell? ⟨gA, 9, none⟩ = some (.slice (some ⟨h1, 0, none⟩) (q + 4) c5) := ((HKS.out.blk HBF.out (fun h => h)).cell 9).trans rfl
          have hcL : wS.cell? ⟨h1, q + 3, none⟩ = some (.int .u8 4) := (own_cell (HKS.out.own HRF.out (fun _ _ h => h)) (q + 3) (by omega)).trans (by rw [List.getElem?_append_right (by simp [vb, flipB_length, HXL.out])]; simp [vb, flipB_length, HXL.out])
          clear hbS hkS
          go_wp2_with (go_at_call 15; refine (HWK.out _ (HKW.out.trans HKS.out (fun _ _ h => h))).mono ?_; rintro e wZ ⟨rfl, hkZ⟩; have HKZ := Lib.hid hkZ; clear hkZ)
          go_ret
          exact ⟨rfl, (HKW.out.trans HKS.out (fun _ _ h => h)).trans HKZ.out (fun _ _ h => h)⟩
end Go.Proofs.YtgblndddcbfdiaaDoor
