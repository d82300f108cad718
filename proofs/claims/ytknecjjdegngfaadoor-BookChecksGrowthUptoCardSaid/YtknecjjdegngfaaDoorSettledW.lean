/-
  WALKS: settled: a claim with the roots that it has of a book.
-/
import Derived.Test.YtknecjjdegngfaaDoorEntW
import Derived.Test.YtknecjjdegngfaaDoorLeavesW
import Derived.Test.YtknecjjdegngfaaDoorAskW
set_option linter.unusedSimpArgs false
namespace Go.Proofs.YtknecjjdegngfaaDoor
open Go Go.RowKit Go.Sha Go.Aff Go.Book
/-- A claim's cells. -/
def claimV (ents : Value) (m n : Int) (old root : List Int) (prf : Value) (ofM ofN : Bool) : List Value :=
  ents :: .int .i64 m :: .int .i64 n :: (vb old ++ (vb root ++ [prf, .bool ofM, .bool ofN]))
theorem claimV_length (ents : Value) (m n : Int) {old root : List Int} (prf : Value) (ofM ofN : Bool) (ho : old.length = 32) (hr : root.length = 32) : (claimV ents m n old root prf ofM ofN).length = 70 := by
  simp [claimV, vb, ho, hr]
theorem claimV_0 (ents : Value) (m n : Int) (old root : List Int) (prf : Value) (ofM ofN : Bool) : (claimV ents m n old root prf ofM ofN)[0]? = some ents := rfl
theorem claimV_1 (ents : Value) (m n : Int) (old root : List Int) (prf : Value) (ofM ofN : Bool) : (claimV ents m n old root prf ofM ofN)[1]? = some (.int .i64 m) := rfl
theorem claimV_2 (ents : Value) (m n : Int) (old root : List Int) (prf : Value) (ofM ofN : Bool) : (claimV ents m n old root prf ofM ofN)[2]? = some (.int .i64 n) := rfl
theorem claimV_d67 (ents : Value) (m n : Int) {old root : List Int} (prf : Value) (ofM ofN : Bool) (ho : old.length = 32) (hr : root.length = 32) : (claimV ents m n old root prf ofM ofN).drop 67 = [prf, .bool ofM, .bool ofN] := by
  have e : (claimV ents m n old root prf ofM ofN) = (ents :: .int .i64 m :: .int .i64 n :: (vb old ++ vb root)) ++ [prf, .bool ofM, .bool ofN] := by simp [claimV]
  rw [e, List.drop_left' (by simp [vb, ho, hr])]
theorem claimV_at (ents : Value) (m n : Int) {old root : List Int} (prf : Value) (ofM ofN : Bool) (ho : old.length = 32) (hr : root.length = 32) (j : Nat) : (claimV ents m n old root prf ofM ofN)[67 + j]? = [prf, Value.bool ofM, .bool ofN][j]? := by
  rw [← List.getElem?_drop, claimV_d67 _ _ _ _ _ _ ho hr]
theorem claimV_old (ents : Value) (m n : Int) {old root : List Int} (prf : Value) (ofM ofN : Bool) (ho : old.length = 32) : ((claimV ents m n old root prf ofM ofN).drop 3).take 32 = vb old := by
  show ((vb old ++ (vb root ++ [prf, Value.bool ofM, .bool ofN]))).take 32 = _
  rw [List.take_left' (by simp [vb, ho])]
theorem claimV_root (ents : Value) (m n : Int) {old root : List Int} (prf : Value) (ofM ofN : Bool) (ho : old.length = 32) (hr : root.length = 32) : ((claimV ents m n old root prf ofM ofN).drop 35).take 32 = vb root := by
  have e : (claimV ents m n old root prf ofM ofN) = (ents :: .int .i64 m :: .int .i64 n :: (vb old)) ++ (vb root ++ [prf, .bool ofM, .bool ofN]) := by simp [claimV]
  rw [e, List.drop_left' (by simp [vb, ho]), List.take_left' (by simp [vb, hr])]
theorem claimV_setOld (ents : Value) (m n : Int) {old root : List Int} (prf : Value) (ofM ofN : Bool) (ho : old.length = 32) (d : List Int) (hd : d.length = 32) : Go.Aff.splice (claimV ents m n old root prf ofM ofN) 3 (vb d) = claimV ents m n d root prf ofM ofN := by
  unfold Go.Aff.splice claimV
  have e : (ents :: Value.int .i64 m :: .int .i64 n :: (vb old ++ (vb root ++ [prf, .bool ofM, .bool ofN]))) = (ents :: Value.int .i64 m :: .int .i64 n :: vb old) ++ (vb root ++ [prf, .bool ofM, .bool ofN]) := by simp
  have e2 : (ents :: Value.int .i64 m :: .int .i64 n :: (vb old ++ (vb root ++ [prf, .bool ofM, .bool ofN]))).drop (3 + (vb d).length) = vb root ++ [prf, .bool ofM, .bool ofN] := by rw [e, List.drop_left' (by simp [vb, ho, hd])]
  rw [e2]
  rfl
theorem claimV_setRoot (ents : Value) (m n : Int) {old root : List Int} (prf : Value) (ofM ofN : Bool) (ho : old.length = 32) (hr : root.length = 32) (d : List Int) (hd : d.length = 32) : Go.Aff.splice (claimV ents m n old root prf ofM ofN) 35 (vb d) = claimV ents m n old d prf ofM ofN := by
  unfold Go.Aff.splice claimV
  have e : (ents :: Value.int .i64 m :: .int .i64 n :: (vb old ++ (vb root ++ [prf, .bool ofM, .bool ofN]))) = (ents :: Value.int .i64 m :: .int .i64 n :: (vb old)) ++ (vb root ++ [prf, .bool ofM, .bool ofN]) := by simp
  have e1 : (ents :: Value.int .i64 m :: .int .i64 n :: (vb old ++ (vb root ++ [prf, .bool ofM, .bool ofN]))).take 35 = (ents :: Value.int .i64 m :: .int .i64 n :: (vb old)) := by rw [e, List.take_left' (by simp [vb, ho])]
  have e3 : (ents :: Value.int .i64 m :: .int .i64 n :: (vb old ++ (vb root ++ [prf, .bool ofM, .bool ofN]))) = (ents :: Value.int .i64 m :: .int .i64 n :: (vb old ++ vb root)) ++ [prf, .bool ofM, .bool ofN] := by simp
  have e2 : (ents :: Value.int .i64 m :: .int .i64 n :: (vb old ++ (vb root ++ [prf, .bool ofM, .bool ofN]))).drop (35 + (vb d).length) = [prf, .bool ofM, .bool ofN] := by rw [e3, List.drop_left' (by simp [vb, ho, hr, hd])]
  rw [e1, e2]
  simp
theorem claimV_one (ents : Value) (m n : Int) (old root : List Int) (prf : Value) (ofM ofN : Bool) (h1 : ents.oneCell' = true) (h2 : prf.oneCell' = true) : ∀ u ∈ claimV ents m n old root prf ofM ofN, u.oneCell' = true := by
  intro u hu
  unfold claimV at hu
  rcases List.mem_cons.1 hu with rfl | hu
  · exact h1
  rcases List.mem_cons.1 hu with rfl | hu
  · rfl
  rcases List.mem_cons.1 hu with rfl | hu
  · rfl
  rcases List.mem_append.1 hu with hu | hu
  · exact vb_one _ u hu
  rcases List.mem_append.1 hu with hu | hu
  · exact vb_one _ u hu
  simp only [List.mem_cons, List.not_mem_nil, or_false] at hu
  rcases hu with rfl | rfl | rfl
  · exact h2
  · rfl
  · rfl
theorem claimInfo {cs : List Value} (h : cs.length = 70) : (Tryd.prog.info? 50).map (·.size) = some cs.length := by rw [h]; kernel_rfl
/-- The zero claim. -/
theorem zero_claim : ∃ Z : List Value, Z.toArray = Tryd.zeroCells50 ∧ Z.length = 70 := ⟨(Tryd.zeroCells50).toList, by simp, by kernel_rfl⟩
theorem results_blk_tmp2 {P : Program} {w : World} {g : Nat} {t : TypeId} {cs : List Value} {fn : Func} {p u u' : Tmp} {ty : TypeId} (h : fn.results = #[.cell p ty, .tmp u, .tmp u']) (tmps : Array Value) (d : TypeDesc)
    (hp : tmps.getD p undef = .pointer (some ⟨g, 0, none⟩)) (hg : Blk w g t cs)
    (hu : P.underlying ty = some d) (hd : (match d with | .struct _ | .array _ _ => true | _ => false) = true) (hi : (P.info? ty).map (·.size) = some cs.length) :
    (results fn tmps).run P w = .ok (.tuple #[.agg cs.toArray, tmps.getD u undef, tmps.getD u' undef]) w := by
  have e1 := run_loadVar_row w g t ty cs.toArray (0, 0) d hg hu hd (by simpa using hi)
  have e0 : (results fn tmps).run P w = ((asAddr (tmps.getD p undef)).run P w).andThen fun a w₁ => ((loadVar ty a).run P w₁).andThen fun v w₂ => .ok (.tuple #[v, tmps.getD u undef, tmps.getD u' undef]) w₂ := by
    simp only [results, h]
    simp [Sem.run_bind, Result.andThen]
  rw [e0, hp]
  simp only [asAddr, Sem.run_pure, Result.andThen, e1]
theorem MineD.wide {w w1 wr w' : World} {e : TypeId} {A : Option Addr} {m c : Nat} {ds : List (List Int)} {F : Nat → Prop} (h : MineD w1 wr e A m c ds) (hk : Keeps (fun _ => False) w w1) (hw : Keeps F wr w') (h0 : ∀ g, F g → w.heap.size ≤ g) (h1 : ∀ g, F g → g < w1.heap.size) : MineD w w' e A m c ds := by
  obtain ⟨a1, a2, a3, a4, a5⟩ := h
  refine ⟨hw.own a1 (fun g e hF => by have := a5 g e; have := h1 g hF; omega), a2, a3, ?_, fun g e => Nat.le_trans hk.size (a5 g e)⟩
  exact (hk.trans a4 (fun _ _ h => h)).trans hw (fun i hi hF => by have := h0 i hF; omega)
theorem own_out {w1 wr : World} {e : TypeId} {A : Option Addr} {m c b : Nat} {ds : List (List Int)} (h : MineD w1 wr e A m c ds) (hb : b < w1.heap.size) : Out (fun i => i = b) A m := fun hn ad he hF => by
  subst he
  have hF' : ad.block = b := hF
  have : (Value.slice (some ad) m c).ownBlock = some ad.block := by
    rcases h.1.2 with ⟨hv, hn0⟩ | ⟨g, cap, cur, hv, _, _, hnc, _⟩
    · omega
    · injection hv with e1 e2 e3
      injection e1 with e1
      subst e1
      rfl
  have := h.2.2.2.2 _ this
  omega
theorem RdD.cutN {w : World} {A : Option Addr} {N : Nat} {ds : List (List Int)} (h : RdD w A N ds) (c : Nat) {k : Nat} (hk : k ≤ N) : RdD w (cutD A c 0) k (ds.take k) := by
  by_cases hc : c = 0
  · subst hc
    exact h.take hk
  · have h2 := (h.take hk)
    have e : cutD A c 0 = A := by
      unfold cutD
      rw [if_neg hc]
      cases A with
      | none => rfl
      | some a => obtain ⟨b, o, s⟩ := a; simp [Addr.add]
    rw [e]
    exact h2
set_option maxRecDepth 100000 in
set_option maxHeartbeats 4000000 in
theorem settled_n1t (w : World) (m n : Int) (old root : List Int) (hold : IsDig old) (hroot : IsDig root) (prf : Value) (hprf : prf.oneCell' = true) (A : Option Addr) (N c : Nat) (pss : List (List Int)) (hl : pss.length = N) (hp : RdPartsO (fun _ => False) w A pss) (hN : N ≤ 2000) (hsm : ∀ bs ∈ pss, bs.length ≤ 2147483648) (h : n < 0) :
    Calls Tryd.prog 25 #[.agg (claimV (.slice A N c) m n old root prf true true).toArray] w fun e w' => ∃ B c', e = .returned (.tuple #[.agg (claimV (.slice A N c) m n old root prf true true).toArray, .slice B N c', .bool false]) ∧ MineD w w' 23 B N c' (pss.map leafF) := by
  obtain ⟨C0, hC0⟩ : ∃ C, C = claimV (.slice A N c) m n old root prf true true := ⟨_, rfl⟩
  have hc0 : C0[0]? = some (.slice A N c) := by rw [hC0]; rfl
  have hc1 : C0[1]? = some (.int .i64 m) := by rw [hC0]; rfl
  have hc2 : C0[2]? = some (.int .i64 n) := by rw [hC0]; rfl
  have hc6 : C0[68]? = some (.bool true) := by rw [hC0]; exact claimV_at _ _ _ _ _ _ hold.1 hroot.1 1
  have hc7 : C0[69]? = some (.bool true) := by rw [hC0]; exact claimV_at _ _ _ _ _ _ hold.1 hroot.1 2
  have hcl : C0.length = 70 := by rw [hC0]; exact claimV_length _ _ _ _ _ _ hold.1 hroot.1
  have hco : ∀ u ∈ C0, u.oneCell' = true := by rw [hC0]; exact claimV_one _ _ _ _ _ _ _ _ rfl hprf
  rw [← hC0]
  obtain ⟨ZC, hZA, hZL⟩ := zero_claim
  obtain ⟨W2, hW2⟩ : ∃ W2, W2 = (w.alloc (.cells C0.toArray 50)).alloc (.cells ZC.toArray 50) := ⟨_, rfl⟩
  have hk2 : Keeps (fun _ => False) w W2 := by rw [hW2]; exact ((Keeps.refl _ w).alloc _).alloc _
  have HB1 : Hid (Blk W2 w.heap.size 50 C0) := Lib.hid (by rw [hW2]; exact (Blk.new w _ _).alloc _)
  have HB2 : Hid (Blk W2 (w.heap.size + 1) 50 ZC) := Lib.hid (by rw [hW2]; exact blk_new2 _ _ _ _)
  have HK2 := Lib.hid hk2
  have HLV := Lib.hid (leaves_any W2 A N c pss hl (hp.keep hk2 (fun _ h => h)) hN hsm)
  have HLC : Hid (C0.length = 70) := Lib.hid hcl
  have HIC0 : Hid ((Tryd.prog.info? 50).map (·.size) = some C0.length) := Lib.hid (claimInfo hcl)
  have HCO : Hid (∀ u ∈ C0, u.oneCell' = true) := Lib.hid hco
  have HZL : Hid (ZC.length = 70) := Lib.hid hZL
  have HF : Hid (∀ W, Keeps (fun _ => False) W2 W → W.cell? ⟨w.heap.size, 0, none⟩ = some (.slice A N c) ∧ W.cell? ⟨w.heap.size, 1, none⟩ = some (.int .i64 m) ∧ W.cell? ⟨w.heap.size, 2, none⟩ = some (.int .i64 n) ∧ W.cell? ⟨w.heap.size, 68, none⟩ = some (.bool true) ∧ W.cell? ⟨w.heap.size, 69, none⟩ = some (.bool true)) := Lib.hid fun W hW => by
    have hb := hW.blk HB1.out (fun h => h)
    exact ⟨(hb.cell 0).trans hc0, (hb.cell 1).trans hc1, (hb.cell 2).trans hc2, (hb.cell 68).trans hc6, (hb.cell 69).trans hc7⟩
  obtain ⟨f0, _⟩ := HF.out W2 (Keeps.refl _ _)
  rw [hZA] at hW2
  clear hZA hZL hC0 hc0 hc1 hc2 hc6 hc7 hcl hco hk2 hp hl hsm hold hroot
  go_enter Tryd.func25, Tryd.ntmps25
  go_upto_region 1 with fail
  rw [← hW2]
  clear hW2
  have BN := Lib.hid fun W => @Blk.setRow W (w.heap.size + 1) 50 ZC
  go_wp2_with (first
    | (go_at_call 48; refine HLV.out.mono ?_; rintro e w5 ⟨A5, c5, rfl, hm5⟩; have HM5 := Lib.hid hm5; have HK5 := Lib.hid hm5.2.2.2.1; obtain ⟨_, f1, f2, f6, f7⟩ := HF.out w5 hm5.2.2.2.1; clear hm5)
    | ((with_reducible show wpList _ _ _ (⟨some 39, Op.load 50 (.tmp 1), _, _, _, _⟩ :: _) _ _); refine wpList_load_whole rfl 50 _ rfl _ rfl (HK5.out.blk HB1.out (fun h => h)) Tryd.underlying50 rfl HIC0.out ?_)
    | ((with_reducible show wpList _ _ _ (⟨none, Op.store 50 (.tmp 2) _, _, _, _, _⟩ :: _) _ _); refine wpList_store_whole rfl 50 _ _ rfl C0 rfl rfl (HK5.out.blk HB2.out (fun h => h)) (by rw [HLC.out, HZL.out]) HIC0.out HCO.out ?_))
  refine bodyPost_ret (results_blk_tmp2 rfl _ _ rfl ((HK5.out.blk HB2.out (fun h => h)).setRow C0) Tryd.underlying50 rfl HIC0.out) rfl ⟨A5, c5, rfl, ?_⟩
  exact MineD.wide HM5.out HK2.out ((Keeps.refl (fun i => i = w.heap.size + 1) w5).setRow (.inl rfl) _) (fun g e => by omega) (fun g e => by have := HB2.out.lt; omega)
set_option maxRecDepth 100000 in
set_option maxHeartbeats 4000000 in
theorem settled_n2t (w : World) (m n : Int) (old root : List Int) (hold : IsDig old) (hroot : IsDig root) (prf : Value) (hprf : prf.oneCell' = true) (A : Option Addr) (N c : Nat) (pss : List (List Int)) (hl : pss.length = N) (hp : RdPartsO (fun _ => False) w A pss) (hN : N ≤ 2000) (hsm : ∀ bs ∈ pss, bs.length ≤ 2147483648) (h0 : ¬ n < 0) (h : (N : Int) < n) :
    Calls Tryd.prog 25 #[.agg (claimV (.slice A N c) m n old root prf true true).toArray] w fun e w' => ∃ B c', e = .returned (.tuple #[.agg (claimV (.slice A N c) m n old root prf true true).toArray, .slice B N c', .bool false]) ∧ MineD w w' 23 B N c' (pss.map leafF) := by
  obtain ⟨C0, hC0⟩ : ∃ C, C = claimV (.slice A N c) m n old root prf true true := ⟨_, rfl⟩
  have hc0 : C0[0]? = some (.slice A N c) := by rw [hC0]; rfl
  have hc1 : C0[1]? = some (.int .i64 m) := by rw [hC0]; rfl
  have hc2 : C0[2]? = some (.int .i64 n) := by rw [hC0]; rfl
  have hc6 : C0[68]? = some (.bool true) := by rw [hC0]; exact claimV_at _ _ _ _ _ _ hold.1 hroot.1 1
  have hc7 : C0[69]? = some (.bool true) := by rw [hC0]; exact claimV_at _ _ _ _ _ _ hold.1 hroot.1 2
  have hcl : C0.length = 70 := by rw [hC0]; exact claimV_length _ _ _ _ _ _ hold.1 hroot.1
  have hco : ∀ u ∈ C0, u.oneCell' = true := by rw [hC0]; exact claimV_one _ _ _ _ _ _ _ _ rfl hprf
  rw [← hC0]
  obtain ⟨ZC, hZA, hZL⟩ := zero_claim
  obtain ⟨W2, hW2⟩ : ∃ W2, W2 = (w.alloc (.cells C0.toArray 50)).alloc (.cells ZC.toArray 50) := ⟨_, rfl⟩
  have hk2 : Keeps (fun _ => False) w W2 := by rw [hW2]; exact ((Keeps.refl _ w).alloc _).alloc _
  have HB1 : Hid (Blk W2 w.heap.size 50 C0) := Lib.hid (by rw [hW2]; exact (Blk.new w _ _).alloc _)
  have HB2 : Hid (Blk W2 (w.heap.size + 1) 50 ZC) := Lib.hid (by rw [hW2]; exact blk_new2 _ _ _ _)
  have HK2 := Lib.hid hk2
  have HLV := Lib.hid (leaves_any W2 A N c pss hl (hp.keep hk2 (fun _ h => h)) hN hsm)
  have HLC : Hid (C0.length = 70) := Lib.hid hcl
  have HIC0 : Hid ((Tryd.prog.info? 50).map (·.size) = some C0.length) := Lib.hid (claimInfo hcl)
  have HCO : Hid (∀ u ∈ C0, u.oneCell' = true) := Lib.hid hco
  have HZL : Hid (ZC.length = 70) := Lib.hid hZL
  have HF : Hid (∀ W, Keeps (fun _ => False) W2 W → W.cell? ⟨w.heap.size, 0, none⟩ = some (.slice A N c) ∧ W.cell? ⟨w.heap.size, 1, none⟩ = some (.int .i64 m) ∧ W.cell? ⟨w.heap.size, 2, none⟩ = some (.int .i64 n) ∧ W.cell? ⟨w.heap.size, 68, none⟩ = some (.bool true) ∧ W.cell? ⟨w.heap.size, 69, none⟩ = some (.bool true)) := Lib.hid fun W hW => by
    have hb := hW.blk HB1.out (fun h => h)
    exact ⟨(hb.cell 0).trans hc0, (hb.cell 1).trans hc1, (hb.cell 2).trans hc2, (hb.cell 68).trans hc6, (hb.cell 69).trans hc7⟩
  obtain ⟨f0, _⟩ := HF.out W2 (Keeps.refl _ _)
  rw [hZA] at hW2
  clear hZA hZL hC0 hc0 hc1 hc2 hc6 hc7 hcl hco hk2 hp hl hsm hold hroot
  go_enter Tryd.func25, Tryd.ntmps25
  go_upto_region 1 with fail
  rw [← hW2]
  clear hW2
  have BN := Lib.hid fun W => @Blk.setRow W (w.heap.size + 1) 50 ZC
  go_wp2_with (first
    | (go_at_call 48; refine HLV.out.mono ?_; rintro e w5 ⟨A5, c5, rfl, hm5⟩; have HM5 := Lib.hid hm5; have HK5 := Lib.hid hm5.2.2.2.1; obtain ⟨_, f1, f2, f6, f7⟩ := HF.out w5 hm5.2.2.2.1; clear hm5)
    | ((with_reducible show wpList _ _ _ (⟨some 39, Op.load 50 (.tmp 1), _, _, _, _⟩ :: _) _ _); refine wpList_load_whole rfl 50 _ rfl _ rfl (HK5.out.blk HB1.out (fun h => h)) Tryd.underlying50 rfl HIC0.out ?_)
    | ((with_reducible show wpList _ _ _ (⟨none, Op.store 50 (.tmp 2) _, _, _, _, _⟩ :: _) _ _); refine wpList_store_whole rfl 50 _ _ rfl C0 rfl rfl (HK5.out.blk HB2.out (fun h => h)) (by rw [HLC.out, HZL.out]) HIC0.out HCO.out ?_))
  refine bodyPost_ret (results_blk_tmp2 rfl _ _ rfl ((HK5.out.blk HB2.out (fun h => h)).setRow C0) Tryd.underlying50 rfl HIC0.out) rfl ⟨A5, c5, rfl, ?_⟩
  exact MineD.wide HM5.out HK2.out ((Keeps.refl (fun i => i = w.heap.size + 1) w5).setRow (.inl rfl) _) (fun g e => by omega) (fun g e => by have := HB2.out.lt; omega)
set_option maxRecDepth 100000 in
set_option maxHeartbeats 4000000 in
theorem settled_n1f (w : World) (m n : Int) (old root : List Int) (hold : IsDig old) (hroot : IsDig root) (prf : Value) (hprf : prf.oneCell' = true) (A : Option Addr) (N c : Nat) (pss : List (List Int)) (hl : pss.length = N) (hp : RdPartsO (fun _ => False) w A pss) (hN : N ≤ 2000) (hsm : ∀ bs ∈ pss, bs.length ≤ 2147483648) (h : n < 0) :
    Calls Tryd.prog 25 #[.agg (claimV (.slice A N c) m n old root prf false true).toArray] w fun e w' => ∃ B c', e = .returned (.tuple #[.agg (claimV (.slice A N c) m n old root prf false true).toArray, .slice B N c', .bool false]) ∧ MineD w w' 23 B N c' (pss.map leafF) := by
  obtain ⟨C0, hC0⟩ : ∃ C, C = claimV (.slice A N c) m n old root prf false true := ⟨_, rfl⟩
  have hc0 : C0[0]? = some (.slice A N c) := by rw [hC0]; rfl
  have hc1 : C0[1]? = some (.int .i64 m) := by rw [hC0]; rfl
  have hc2 : C0[2]? = some (.int .i64 n) := by rw [hC0]; rfl
  have hc6 : C0[68]? = some (.bool false) := by rw [hC0]; exact claimV_at _ _ _ _ _ _ hold.1 hroot.1 1
  have hc7 : C0[69]? = some (.bool true) := by rw [hC0]; exact claimV_at _ _ _ _ _ _ hold.1 hroot.1 2
  have hcl : C0.length = 70 := by rw [hC0]; exact claimV_length _ _ _ _ _ _ hold.1 hroot.1
  have hco : ∀ u ∈ C0, u.oneCell' = true := by rw [hC0]; exact claimV_one _ _ _ _ _ _ _ _ rfl hprf
  rw [← hC0]
  obtain ⟨ZC, hZA, hZL⟩ := zero_claim
  obtain ⟨W2, hW2⟩ : ∃ W2, W2 = (w.alloc (.cells C0.toArray 50)).alloc (.cells ZC.toArray 50) := ⟨_, rfl⟩
  have hk2 : Keeps (fun _ => False) w W2 := by rw [hW2]; exact ((Keeps.refl _ w).alloc _).alloc _
  have HB1 : Hid (Blk W2 w.heap.size 50 C0) := Lib.hid (by rw [hW2]; exact (Blk.new w _ _).alloc _)
  have HB2 : Hid (Blk W2 (w.heap.size + 1) 50 ZC) := Lib.hid (by rw [hW2]; exact blk_new2 _ _ _ _)
  have HK2 := Lib.hid hk2
  have HLV := Lib.hid (leaves_any W2 A N c pss hl (hp.keep hk2 (fun _ h => h)) hN hsm)
  have HLC : Hid (C0.length = 70) := Lib.hid hcl
  have HIC0 : Hid ((Tryd.prog.info? 50).map (·.size) = some C0.length) := Lib.hid (claimInfo hcl)
  have HCO : Hid (∀ u ∈ C0, u.oneCell' = true) := Lib.hid hco
  have HZL : Hid (ZC.length = 70) := Lib.hid hZL
  have HF : Hid (∀ W, Keeps (fun _ => False) W2 W → W.cell? ⟨w.heap.size, 0, none⟩ = some (.slice A N c) ∧ W.cell? ⟨w.heap.size, 1, none⟩ = some (.int .i64 m) ∧ W.cell? ⟨w.heap.size, 2, none⟩ = some (.int .i64 n) ∧ W.cell? ⟨w.heap.size, 68, none⟩ = some (.bool false) ∧ W.cell? ⟨w.heap.size, 69, none⟩ = some (.bool true)) := Lib.hid fun W hW => by
    have hb := hW.blk HB1.out (fun h => h)
    exact ⟨(hb.cell 0).trans hc0, (hb.cell 1).trans hc1, (hb.cell 2).trans hc2, (hb.cell 68).trans hc6, (hb.cell 69).trans hc7⟩
  obtain ⟨f0, _⟩ := HF.out W2 (Keeps.refl _ _)
  rw [hZA] at hW2
  clear hZA hZL hC0 hc0 hc1 hc2 hc6 hc7 hcl hco hk2 hp hl hsm hold hroot
  go_enter Tryd.func25, Tryd.ntmps25
  go_upto_region 1 with fail
  rw [← hW2]
  clear hW2
  have BN := Lib.hid fun W => @Blk.setRow W (w.heap.size + 1) 50 ZC
  go_wp2_with (first
    | (go_at_call 48; refine HLV.out.mono ?_; rintro e w5 ⟨A5, c5, rfl, hm5⟩; have HM5 := Lib.hid hm5; have HK5 := Lib.hid hm5.2.2.2.1; obtain ⟨_, f1, f2, f6, f7⟩ := HF.out w5 hm5.2.2.2.1; clear hm5)
    | ((with_reducible show wpList _ _ _ (⟨some 39, Op.load 50 (.tmp 1), _, _, _, _⟩ :: _) _ _); refine wpList_load_whole rfl 50 _ rfl _ rfl (HK5.out.blk HB1.out (fun h => h)) Tryd.underlying50 rfl HIC0.out ?_)
    | ((with_reducible show wpList _ _ _ (⟨none, Op.store 50 (.tmp 2) _, _, _, _, _⟩ :: _) _ _); refine wpList_store_whole rfl 50 _ _ rfl C0 rfl rfl (HK5.out.blk HB2.out (fun h => h)) (by rw [HLC.out, HZL.out]) HIC0.out HCO.out ?_))
  refine bodyPost_ret (results_blk_tmp2 rfl _ _ rfl ((HK5.out.blk HB2.out (fun h => h)).setRow C0) Tryd.underlying50 rfl HIC0.out) rfl ⟨A5, c5, rfl, ?_⟩
  exact MineD.wide HM5.out HK2.out ((Keeps.refl (fun i => i = w.heap.size + 1) w5).setRow (.inl rfl) _) (fun g e => by omega) (fun g e => by have := HB2.out.lt; omega)
set_option maxRecDepth 100000 in
set_option maxHeartbeats 4000000 in
theorem settled_n2f (w : World) (m n : Int) (old root : List Int) (hold : IsDig old) (hroot : IsDig root) (prf : Value) (hprf : prf.oneCell' = true) (A : Option Addr) (N c : Nat) (pss : List (List Int)) (hl : pss.length = N) (hp : RdPartsO (fun _ => False) w A pss) (hN : N ≤ 2000) (hsm : ∀ bs ∈ pss, bs.length ≤ 2147483648) (h0 : ¬ n < 0) (h : (N : Int) < n) :
    Calls Tryd.prog 25 #[.agg (claimV (.slice A N c) m n old root prf false true).toArray] w fun e w' => ∃ B c', e = .returned (.tuple #[.agg (claimV (.slice A N c) m n old root prf false true).toArray, .slice B N c', .bool false]) ∧ MineD w w' 23 B N c' (pss.map leafF) := by
  obtain ⟨C0, hC0⟩ : ∃ C, C = claimV (.slice A N c) m n old root prf false true := ⟨_, rfl⟩
  have hc0 : C0[0]? = some (.slice A N c) := by rw [hC0]; rfl
  have hc1 : C0[1]? = some (.int .i64 m) := by rw [hC0]; rfl
  have hc2 : C0[2]? = some (.int .i64 n) := by rw [hC0]; rfl
  have hc6 : C0[68]? = some (.bool false) := by rw [hC0]; exact claimV_at _ _ _ _ _ _ hold.1 hroot.1 1
  have hc7 : C0[69]? = some (.bool true) := by rw [hC0]; exact claimV_at _ _ _ _ _ _ hold.1 hroot.1 2
  have hcl : C0.length = 70 := by rw [hC0]; exact claimV_length _ _ _ _ _ _ hold.1 hroot.1
  have hco : ∀ u ∈ C0, u.oneCell' = true := by rw [hC0]; exact claimV_one _ _ _ _ _ _ _ _ rfl hprf
  rw [← hC0]
  obtain ⟨ZC, hZA, hZL⟩ := zero_claim
  obtain ⟨W2, hW2⟩ : ∃ W2, W2 = (w.alloc (.cells C0.toArray 50)).alloc (.cells ZC.toArray 50) := ⟨_, rfl⟩
  have hk2 : Keeps (fun _ => False) w W2 := by rw [hW2]; exact ((Keeps.refl _ w).alloc _).alloc _
  have HB1 : Hid (Blk W2 w.heap.size 50 C0) := Lib.hid (by rw [hW2]; exact (Blk.new w _ _).alloc _)
  have HB2 : Hid (Blk W2 (w.heap.size + 1) 50 ZC) := Lib.hid (by rw [hW2]; exact blk_new2 _ _ _ _)
  have HK2 := Lib.hid hk2
  have HLV := Lib.hid (leaves_any W2 A N c pss hl (hp.keep hk2 (fun _ h => h)) hN hsm)
  have HLC : Hid (C0.length = 70) := Lib.hid hcl
  have HIC0 : Hid ((Tryd.prog.info? 50).map (·.size) = some C0.length) := Lib.hid (claimInfo hcl)
  have HCO : Hid (∀ u ∈ C0, u.oneCell' = true) := Lib.hid hco
  have HZL : Hid (ZC.length = 70) := Lib.hid hZL
  have HF : Hid (∀ W, Keeps (fun _ => False) W2 W → W.cell? ⟨w.heap.size, 0, none⟩ = some (.slice A N c) ∧ W.cell? ⟨w.heap.size, 1, none⟩ = some (.int .i64 m) ∧ W.cell? ⟨w.heap.size, 2, none⟩ = some (.int .i64 n) ∧ W.cell? ⟨w.heap.size, 68, none⟩ = some (.bool false) ∧ W.cell? ⟨w.heap.size, 69, none⟩ = some (.bool true)) := Lib.hid fun W hW => by
    have hb := hW.blk HB1.out (fun h => h)
    exact ⟨(hb.cell 0).trans hc0, (hb.cell 1).trans hc1, (hb.cell 2).trans hc2, (hb.cell 68).trans hc6, (hb.cell 69).trans hc7⟩
  obtain ⟨f0, _⟩ := HF.out W2 (Keeps.refl _ _)
  rw [hZA] at hW2
  clear hZA hZL hC0 hc0 hc1 hc2 hc6 hc7 hcl hco hk2 hp hl hsm hold hroot
  go_enter Tryd.func25, Tryd.ntmps25
  go_upto_region 1 with fail
  rw [← hW2]
  clear hW2
  have BN := Lib.hid fun W => @Blk.setRow W (w.heap.size + 1) 50 ZC
  go_wp2_with (first
    | (go_at_call 48; refine HLV.out.mono ?_; rintro e w5 ⟨A5, c5, rfl, hm5⟩; have HM5 := Lib.hid hm5; have HK5 := Lib.hid hm5.2.2.2.1; obtain ⟨_, f1, f2, f6, f7⟩ := HF.out w5 hm5.2.2.2.1; clear hm5)
    | ((with_reducible show wpList _ _ _ (⟨some 39, Op.load 50 (.tmp 1), _, _, _, _⟩ :: _) _ _); refine wpList_load_whole rfl 50 _ rfl _ rfl (HK5.out.blk HB1.out (fun h => h)) Tryd.underlying50 rfl HIC0.out ?_)
    | ((with_reducible show wpList _ _ _ (⟨none, Op.store 50 (.tmp 2) _, _, _, _, _⟩ :: _) _ _); refine wpList_store_whole rfl 50 _ _ rfl C0 rfl rfl (HK5.out.blk HB2.out (fun h => h)) (by rw [HLC.out, HZL.out]) HIC0.out HCO.out ?_))
  refine bodyPost_ret (results_blk_tmp2 rfl _ _ rfl ((HK5.out.blk HB2.out (fun h => h)).setRow C0) Tryd.underlying50 rfl HIC0.out) rfl ⟨A5, c5, rfl, ?_⟩
  exact MineD.wide HM5.out HK2.out ((Keeps.refl (fun i => i = w.heap.size + 1) w5).setRow (.inl rfl) _) (fun g e => by omega) (fun g e => by have := HB2.out.lt; omega)
set_option maxRecDepth 100000 in
set_option maxHeartbeats 4000000 in
theorem settled_m1t (w : World) (m n : Int) (old root : List Int) (hold : IsDig old) (hroot : IsDig root) (prf : Value) (hprf : prf.oneCell' = true) (A : Option Addr) (N c : Nat) (pss : List (List Int)) (hl : pss.length = N) (hp : RdPartsO (fun _ => False) w A pss) (hN : N ≤ 2000) (hsm : ∀ bs ∈ pss, bs.length ≤ 2147483648) (h0 : ¬ n < 0) (h1 : ¬ (N : Int) < n) (h : m < 0) :
    Calls Tryd.prog 25 #[.agg (claimV (.slice A N c) m n old root prf true true).toArray] w fun e w' => ∃ B c', e = .returned (.tuple #[.agg (claimV (.slice A N c) m n old root prf true true).toArray, .slice B N c', .bool false]) ∧ MineD w w' 23 B N c' (pss.map leafF) := by
  obtain ⟨C0, hC0⟩ : ∃ C, C = claimV (.slice A N c) m n old root prf true true := ⟨_, rfl⟩
  have hc0 : C0[0]? = some (.slice A N c) := by rw [hC0]; rfl
  have hc1 : C0[1]? = some (.int .i64 m) := by rw [hC0]; rfl
  have hc2 : C0[2]? = some (.int .i64 n) := by rw [hC0]; rfl
  have hc6 : C0[68]? = some (.bool true) := by rw [hC0]; exact claimV_at _ _ _ _ _ _ hold.1 hroot.1 1
  have hc7 : C0[69]? = some (.bool true) := by rw [hC0]; exact claimV_at _ _ _ _ _ _ hold.1 hroot.1 2
  have hcl : C0.length = 70 := by rw [hC0]; exact claimV_length _ _ _ _ _ _ hold.1 hroot.1
  have hco : ∀ u ∈ C0, u.oneCell' = true := by rw [hC0]; exact claimV_one _ _ _ _ _ _ _ _ rfl hprf
  rw [← hC0]
  obtain ⟨ZC, hZA, hZL⟩ := zero_claim
  obtain ⟨W2, hW2⟩ : ∃ W2, W2 = (w.alloc (.cells C0.toArray 50)).alloc (.cells ZC.toArray 50) := ⟨_, rfl⟩
  have hk2 : Keeps (fun _ => False) w W2 := by rw [hW2]; exact ((Keeps.refl _ w).alloc _).alloc _
  have HB1 : Hid (Blk W2 w.heap.size 50 C0) := Lib.hid (by rw [hW2]; exact (Blk.new w _ _).alloc _)
  have HB2 : Hid (Blk W2 (w.heap.size + 1) 50 ZC) := Lib.hid (by rw [hW2]; exact blk_new2 _ _ _ _)
  have HK2 := Lib.hid hk2
  have HLV := Lib.hid (leaves_any W2 A N c pss hl (hp.keep hk2 (fun _ h => h)) hN hsm)
  have HLC : Hid (C0.length = 70) := Lib.hid hcl
  have HIC0 : Hid ((Tryd.prog.info? 50).map (·.size) = some C0.length) := Lib.hid (claimInfo hcl)
  have HCO : Hid (∀ u ∈ C0, u.oneCell' = true) := Lib.hid hco
  have HZL : Hid (ZC.length = 70) := Lib.hid hZL
  have HF : Hid (∀ W, Keeps (fun _ => False) W2 W → W.cell? ⟨w.heap.size, 0, none⟩ = some (.slice A N c) ∧ W.cell? ⟨w.heap.size, 1, none⟩ = some (.int .i64 m) ∧ W.cell? ⟨w.heap.size, 2, none⟩ = some (.int .i64 n) ∧ W.cell? ⟨w.heap.size, 68, none⟩ = some (.bool true) ∧ W.cell? ⟨w.heap.size, 69, none⟩ = some (.bool true)) := Lib.hid fun W hW => by
    have hb := hW.blk HB1.out (fun h => h)
    exact ⟨(hb.cell 0).trans hc0, (hb.cell 1).trans hc1, (hb.cell 2).trans hc2, (hb.cell 68).trans hc6, (hb.cell 69).trans hc7⟩
  obtain ⟨f0, _⟩ := HF.out W2 (Keeps.refl _ _)
  rw [hZA] at hW2
  clear hZA hZL hC0 hc0 hc1 hc2 hc6 hc7 hcl hco hk2 hp hl hsm hold hroot
  go_enter Tryd.func25, Tryd.ntmps25
  go_upto_region 1 with fail
  rw [← hW2]
  clear hW2
  have BN := Lib.hid fun W => @Blk.setRow W (w.heap.size + 1) 50 ZC
  go_wp2_with (first
    | (go_at_call 48; refine HLV.out.mono ?_; rintro e w5 ⟨A5, c5, rfl, hm5⟩; have HM5 := Lib.hid hm5; have HK5 := Lib.hid hm5.2.2.2.1; obtain ⟨_, f1, f2, f6, f7⟩ := HF.out w5 hm5.2.2.2.1; clear hm5)
    | ((with_reducible show wpList _ _ _ (⟨some 39, Op.load 50 (.tmp 1), _, _, _, _⟩ :: _) _ _); refine wpList_load_whole rfl 50 _ rfl _ rfl (HK5.out.blk HB1.out (fun h => h)) Tryd.underlying50 rfl HIC0.out ?_)
    | ((with_reducible show wpList _ _ _ (⟨none, Op.store 50 (.tmp 2) _, _, _, _, _⟩ :: _) _ _); refine wpList_store_whole rfl 50 _ _ rfl C0 rfl rfl (HK5.out.blk HB2.out (fun h => h)) (by rw [HLC.out, HZL.out]) HIC0.out HCO.out ?_))
  refine bodyPost_ret (results_blk_tmp2 rfl _ _ rfl ((HK5.out.blk HB2.out (fun h => h)).setRow C0) Tryd.underlying50 rfl HIC0.out) rfl ⟨A5, c5, rfl, ?_⟩
  exact MineD.wide HM5.out HK2.out ((Keeps.refl (fun i => i = w.heap.size + 1) w5).setRow (.inl rfl) _) (fun g e => by omega) (fun g e => by have := HB2.out.lt; omega)
set_option maxRecDepth 100000 in
set_option maxHeartbeats 4000000 in
theorem settled_m2t (w : World) (m n : Int) (old root : List Int) (hold : IsDig old) (hroot : IsDig root) (prf : Value) (hprf : prf.oneCell' = true) (A : Option Addr) (N c : Nat) (pss : List (List Int)) (hl : pss.length = N) (hp : RdPartsO (fun _ => False) w A pss) (hN : N ≤ 2000) (hsm : ∀ bs ∈ pss, bs.length ≤ 2147483648) (h0 : ¬ n < 0) (h1 : ¬ (N : Int) < n) (h2 : ¬ m < 0) (h : (N : Int) < m) :
    Calls Tryd.prog 25 #[.agg (claimV (.slice A N c) m n old root prf true true).toArray] w fun e w' => ∃ B c', e = .returned (.tuple #[.agg (claimV (.slice A N c) m n old root prf true true).toArray, .slice B N c', .bool false]) ∧ MineD w w' 23 B N c' (pss.map leafF) := by
  obtain ⟨C0, hC0⟩ : ∃ C, C = claimV (.slice A N c) m n old root prf true true := ⟨_, rfl⟩
  have hc0 : C0[0]? = some (.slice A N c) := by rw [hC0]; rfl
  have hc1 : C0[1]? = some (.int .i64 m) := by rw [hC0]; rfl
  have hc2 : C0[2]? = some (.int .i64 n) := by rw [hC0]; rfl
  have hc6 : C0[68]? = some (.bool true) := by rw [hC0]; exact claimV_at _ _ _ _ _ _ hold.1 hroot.1 1
  have hc7 : C0[69]? = some (.bool true) := by rw [hC0]; exact claimV_at _ _ _ _ _ _ hold.1 hroot.1 2
  have hcl : C0.length = 70 := by rw [hC0]; exact claimV_length _ _ _ _ _ _ hold.1 hroot.1
  have hco : ∀ u ∈ C0, u.oneCell' = true := by rw [hC0]; exact claimV_one _ _ _ _ _ _ _ _ rfl hprf
  rw [← hC0]
  obtain ⟨ZC, hZA, hZL⟩ := zero_claim
  obtain ⟨W2, hW2⟩ : ∃ W2, W2 = (w.alloc (.cells C0.toArray 50)).alloc (.cells ZC.toArray 50) := ⟨_, rfl⟩
  have hk2 : Keeps (fun _ => False) w W2 := by rw [hW2]; exact ((Keeps.refl _ w).alloc _).alloc _
  have HB1 : Hid (Blk W2 w.heap.size 50 C0) := Lib.hid (by rw [hW2]; exact (Blk.new w _ _).alloc _)
  have HB2 : Hid (Blk W2 (w.heap.size + 1) 50 ZC) := Lib.hid (by rw [hW2]; exact blk_new2 _ _ _ _)
  have HK2 := Lib.hid hk2
  have HLV := Lib.hid (leaves_any W2 A N c pss hl (hp.keep hk2 (fun _ h => h)) hN hsm)
  have HLC : Hid (C0.length = 70) := Lib.hid hcl
  have HIC0 : Hid ((Tryd.prog.info? 50).map (·.size) = some C0.length) := Lib.hid (claimInfo hcl)
  have HCO : Hid (∀ u ∈ C0, u.oneCell' = true) := Lib.hid hco
  have HZL : Hid (ZC.length = 70) := Lib.hid hZL
  have HF : Hid (∀ W, Keeps (fun _ => False) W2 W → W.cell? ⟨w.heap.size, 0, none⟩ = some (.slice A N c) ∧ W.cell? ⟨w.heap.size, 1, none⟩ = some (.int .i64 m) ∧ W.cell? ⟨w.heap.size, 2, none⟩ = some (.int .i64 n) ∧ W.cell? ⟨w.heap.size, 68, none⟩ = some (.bool true) ∧ W.cell? ⟨w.heap.size, 69, none⟩ = some (.bool true)) := Lib.hid fun W hW => by
    have hb := hW.blk HB1.out (fun h => h)
    exact ⟨(hb.cell 0).trans hc0, (hb.cell 1).trans hc1, (hb.cell 2).trans hc2, (hb.cell 68).trans hc6, (hb.cell 69).trans hc7⟩
  obtain ⟨f0, _⟩ := HF.out W2 (Keeps.refl _ _)
  rw [hZA] at hW2
  clear hZA hZL hC0 hc0 hc1 hc2 hc6 hc7 hcl hco hk2 hp hl hsm hold hroot
  go_enter Tryd.func25, Tryd.ntmps25
  go_upto_region 1 with fail
  rw [← hW2]
  clear hW2
  have BN := Lib.hid fun W => @Blk.setRow W (w.heap.size + 1) 50 ZC
  go_wp2_with (first
    | (go_at_call 48; refine HLV.out.mono ?_; rintro e w5 ⟨A5, c5, rfl, hm5⟩; have HM5 := Lib.hid hm5; have HK5 := Lib.hid hm5.2.2.2.1; obtain ⟨_, f1, f2, f6, f7⟩ := HF.out w5 hm5.2.2.2.1; clear hm5)
    | ((with_reducible show wpList _ _ _ (⟨some 39, Op.load 50 (.tmp 1), _, _, _, _⟩ :: _) _ _); refine wpList_load_whole rfl 50 _ rfl _ rfl (HK5.out.blk HB1.out (fun h => h)) Tryd.underlying50 rfl HIC0.out ?_)
    | ((with_reducible show wpList _ _ _ (⟨none, Op.store 50 (.tmp 2) _, _, _, _, _⟩ :: _) _ _); refine wpList_store_whole rfl 50 _ _ rfl C0 rfl rfl (HK5.out.blk HB2.out (fun h => h)) (by rw [HLC.out, HZL.out]) HIC0.out HCO.out ?_))
  refine bodyPost_ret (results_blk_tmp2 rfl _ _ rfl ((HK5.out.blk HB2.out (fun h => h)).setRow C0) Tryd.underlying50 rfl HIC0.out) rfl ⟨A5, c5, rfl, ?_⟩
  exact MineD.wide HM5.out HK2.out ((Keeps.refl (fun i => i = w.heap.size + 1) w5).setRow (.inl rfl) _) (fun g e => by omega) (fun g e => by have := HB2.out.lt; omega)
set_option maxRecDepth 100000 in
set_option maxHeartbeats 4000000 in
theorem settled_m1f (w : World) (m n : Int) (old root : List Int) (hold : IsDig old) (hroot : IsDig root) (prf : Value) (hprf : prf.oneCell' = true) (A : Option Addr) (N c : Nat) (pss : List (List Int)) (hl : pss.length = N) (hp : RdPartsO (fun _ => False) w A pss) (hN : N ≤ 2000) (hsm : ∀ bs ∈ pss, bs.length ≤ 2147483648) (h : m < 0) :
    Calls Tryd.prog 25 #[.agg (claimV (.slice A N c) m n old root prf true false).toArray] w fun e w' => ∃ B c', e = .returned (.tuple #[.agg (claimV (.slice A N c) m n old root prf true false).toArray, .slice B N c', .bool false]) ∧ MineD w w' 23 B N c' (pss.map leafF) := by
  obtain ⟨C0, hC0⟩ : ∃ C, C = claimV (.slice A N c) m n old root prf true false := ⟨_, rfl⟩
  have hc0 : C0[0]? = some (.slice A N c) := by rw [hC0]; rfl
  have hc1 : C0[1]? = some (.int .i64 m) := by rw [hC0]; rfl
  have hc2 : C0[2]? = some (.int .i64 n) := by rw [hC0]; rfl
  have hc6 : C0[68]? = some (.bool true) := by rw [hC0]; exact claimV_at _ _ _ _ _ _ hold.1 hroot.1 1
  have hc7 : C0[69]? = some (.bool false) := by rw [hC0]; exact claimV_at _ _ _ _ _ _ hold.1 hroot.1 2
  have hcl : C0.length = 70 := by rw [hC0]; exact claimV_length _ _ _ _ _ _ hold.1 hroot.1
  have hco : ∀ u ∈ C0, u.oneCell' = true := by rw [hC0]; exact claimV_one _ _ _ _ _ _ _ _ rfl hprf
  rw [← hC0]
  obtain ⟨ZC, hZA, hZL⟩ := zero_claim
  obtain ⟨W2, hW2⟩ : ∃ W2, W2 = (w.alloc (.cells C0.toArray 50)).alloc (.cells ZC.toArray 50) := ⟨_, rfl⟩
  have hk2 : Keeps (fun _ => False) w W2 := by rw [hW2]; exact ((Keeps.refl _ w).alloc _).alloc _
  have HB1 : Hid (Blk W2 w.heap.size 50 C0) := Lib.hid (by rw [hW2]; exact (Blk.new w _ _).alloc _)
  have HB2 : Hid (Blk W2 (w.heap.size + 1) 50 ZC) := Lib.hid (by rw [hW2]; exact blk_new2 _ _ _ _)
  have HK2 := Lib.hid hk2
  have HLV := Lib.hid (leaves_any W2 A N c pss hl (hp.keep hk2 (fun _ h => h)) hN hsm)
  have HLC : Hid (C0.length = 70) := Lib.hid hcl
  have HIC0 : Hid ((Tryd.prog.info? 50).map (·.size) = some C0.length) := Lib.hid (claimInfo hcl)
  have HCO : Hid (∀ u ∈ C0, u.oneCell' = true) := Lib.hid hco
  have HZL : Hid (ZC.length = 70) := Lib.hid hZL
  have HF : Hid (∀ W, Keeps (fun _ => False) W2 W → W.cell? ⟨w.heap.size, 0, none⟩ = some (.slice A N c) ∧ W.cell? ⟨w.heap.size, 1, none⟩ = some (.int .i64 m) ∧ W.cell? ⟨w.heap.size, 2, none⟩ = some (.int .i64 n) ∧ W.cell? ⟨w.heap.size, 68, none⟩ = some (.bool true) ∧ W.cell? ⟨w.heap.size, 69, none⟩ = some (.bool false)) := Lib.hid fun W hW => by
    have hb := hW.blk HB1.out (fun h => h)
    exact ⟨(hb.cell 0).trans hc0, (hb.cell 1).trans hc1, (hb.cell 2).trans hc2, (hb.cell 68).trans hc6, (hb.cell 69).trans hc7⟩
  obtain ⟨f0, _⟩ := HF.out W2 (Keeps.refl _ _)
  rw [hZA] at hW2
  clear hZA hZL hC0 hc0 hc1 hc2 hc6 hc7 hcl hco hk2 hp hl hsm hold hroot
  go_enter Tryd.func25, Tryd.ntmps25
  go_upto_region 1 with fail
  rw [← hW2]
  clear hW2
  have BN := Lib.hid fun W => @Blk.setRow W (w.heap.size + 1) 50 ZC
  go_wp2_with (first
    | (go_at_call 48; refine HLV.out.mono ?_; rintro e w5 ⟨A5, c5, rfl, hm5⟩; have HM5 := Lib.hid hm5; have HK5 := Lib.hid hm5.2.2.2.1; obtain ⟨_, f1, f2, f6, f7⟩ := HF.out w5 hm5.2.2.2.1; clear hm5)
    | ((with_reducible show wpList _ _ _ (⟨some 39, Op.load 50 (.tmp 1), _, _, _, _⟩ :: _) _ _); refine wpList_load_whole rfl 50 _ rfl _ rfl (HK5.out.blk HB1.out (fun h => h)) Tryd.underlying50 rfl HIC0.out ?_)
    | ((with_reducible show wpList _ _ _ (⟨none, Op.store 50 (.tmp 2) _, _, _, _, _⟩ :: _) _ _); refine wpList_store_whole rfl 50 _ _ rfl C0 rfl rfl (HK5.out.blk HB2.out (fun h => h)) (by rw [HLC.out, HZL.out]) HIC0.out HCO.out ?_))
  refine bodyPost_ret (results_blk_tmp2 rfl _ _ rfl ((HK5.out.blk HB2.out (fun h => h)).setRow C0) Tryd.underlying50 rfl HIC0.out) rfl ⟨A5, c5, rfl, ?_⟩
  exact MineD.wide HM5.out HK2.out ((Keeps.refl (fun i => i = w.heap.size + 1) w5).setRow (.inl rfl) _) (fun g e => by omega) (fun g e => by have := HB2.out.lt; omega)
set_option maxRecDepth 100000 in
set_option maxHeartbeats 4000000 in
theorem settled_m2f (w : World) (m n : Int) (old root : List Int) (hold : IsDig old) (hroot : IsDig root) (prf : Value) (hprf : prf.oneCell' = true) (A : Option Addr) (N c : Nat) (pss : List (List Int)) (hl : pss.length = N) (hp : RdPartsO (fun _ => False) w A pss) (hN : N ≤ 2000) (hsm : ∀ bs ∈ pss, bs.length ≤ 2147483648) (h2 : ¬ m < 0) (h : (N : Int) < m) :
    Calls Tryd.prog 25 #[.agg (claimV (.slice A N c) m n old root prf true false).toArray] w fun e w' => ∃ B c', e = .returned (.tuple #[.agg (claimV (.slice A N c) m n old root prf true false).toArray, .slice B N c', .bool false]) ∧ MineD w w' 23 B N c' (pss.map leafF) := by
  obtain ⟨C0, hC0⟩ : ∃ C, C = claimV (.slice A N c) m n old root prf true false := ⟨_, rfl⟩
  have hc0 : C0[0]? = some (.slice A N c) := by rw [hC0]; rfl
  have hc1 : C0[1]? = some (.int .i64 m) := by rw [hC0]; rfl
  have hc2 : C0[2]? = some (.int .i64 n) := by rw [hC0]; rfl
  have hc6 : C0[68]? = some (.bool true) := by rw [hC0]; exact claimV_at _ _ _ _ _ _ hold.1 hroot.1 1
  have hc7 : C0[69]? = some (.bool false) := by rw [hC0]; exact claimV_at _ _ _ _ _ _ hold.1 hroot.1 2
  have hcl : C0.length = 70 := by rw [hC0]; exact claimV_length _ _ _ _ _ _ hold.1 hroot.1
  have hco : ∀ u ∈ C0, u.oneCell' = true := by rw [hC0]; exact claimV_one _ _ _ _ _ _ _ _ rfl hprf
  rw [← hC0]
  obtain ⟨ZC, hZA, hZL⟩ := zero_claim
  obtain ⟨W2, hW2⟩ : ∃ W2, W2 = (w.alloc (.cells C0.toArray 50)).alloc (.cells ZC.toArray 50) := ⟨_, rfl⟩
  have hk2 : Keeps (fun _ => False) w W2 := by rw [hW2]; exact ((Keeps.refl _ w).alloc _).alloc _
  have HB1 : Hid (Blk W2 w.heap.size 50 C0) := Lib.hid (by rw [hW2]; exact (Blk.new w _ _).alloc _)
  have HB2 : Hid (Blk W2 (w.heap.size + 1) 50 ZC) := Lib.hid (by rw [hW2]; exact blk_new2 _ _ _ _)
  have HK2 := Lib.hid hk2
  have HLV := Lib.hid (leaves_any W2 A N c pss hl (hp.keep hk2 (fun _ h => h)) hN hsm)
  have HLC : Hid (C0.length = 70) := Lib.hid hcl
  have HIC0 : Hid ((Tryd.prog.info? 50).map (·.size) = some C0.length) := Lib.hid (claimInfo hcl)
  have HCO : Hid (∀ u ∈ C0, u.oneCell' = true) := Lib.hid hco
  have HZL : Hid (ZC.length = 70) := Lib.hid hZL
  have HF : Hid (∀ W, Keeps (fun _ => False) W2 W → W.cell? ⟨w.heap.size, 0, none⟩ = some (.slice A N c) ∧ W.cell? ⟨w.heap.size, 1, none⟩ = some (.int .i64 m) ∧ W.cell? ⟨w.heap.size, 2, none⟩ = some (.int .i64 n) ∧ W.cell? ⟨w.heap.size, 68, none⟩ = some (.bool true) ∧ W.cell? ⟨w.heap.size, 69, none⟩ = some (.bool false)) := Lib.hid fun W hW => by
    have hb := hW.blk HB1.out (fun h => h)
    exact ⟨(hb.cell 0).trans hc0, (hb.cell 1).trans hc1, (hb.cell 2).trans hc2, (hb.cell 68).trans hc6, (hb.cell 69).trans hc7⟩
  obtain ⟨f0, _⟩ := HF.out W2 (Keeps.refl _ _)
  rw [hZA] at hW2
  clear hZA hZL hC0 hc0 hc1 hc2 hc6 hc7 hcl hco hk2 hp hl hsm hold hroot
  go_enter Tryd.func25, Tryd.ntmps25
  go_upto_region 1 with fail
  rw [← hW2]
  clear hW2
  have BN := Lib.hid fun W => @Blk.setRow W (w.heap.size + 1) 50 ZC
  go_wp2_with (first
    | (go_at_call 48; refine HLV.out.mono ?_; rintro e w5 ⟨A5, c5, rfl, hm5⟩; have HM5 := Lib.hid hm5; have HK5 := Lib.hid hm5.2.2.2.1; obtain ⟨_, f1, f2, f6, f7⟩ := HF.out w5 hm5.2.2.2.1; clear hm5)
    | ((with_reducible show wpList _ _ _ (⟨some 39, Op.load 50 (.tmp 1), _, _, _, _⟩ :: _) _ _); refine wpList_load_whole rfl 50 _ rfl _ rfl (HK5.out.blk HB1.out (fun h => h)) Tryd.underlying50 rfl HIC0.out ?_)
    | ((with_reducible show wpList _ _ _ (⟨none, Op.store 50 (.tmp 2) _, _, _, _, _⟩ :: _) _ _); refine wpList_store_whole rfl 50 _ _ rfl C0 rfl rfl (HK5.out.blk HB2.out (fun h => h)) (by rw [HLC.out, HZL.out]) HIC0.out HCO.out ?_))
  refine bodyPost_ret (results_blk_tmp2 rfl _ _ rfl ((HK5.out.blk HB2.out (fun h => h)).setRow C0) Tryd.underlying50 rfl HIC0.out) rfl ⟨A5, c5, rfl, ?_⟩
  exact MineD.wide HM5.out HK2.out ((Keeps.refl (fun i => i = w.heap.size + 1) w5).setRow (.inl rfl) _) (fun g e => by omega) (fun g e => by have := HB2.out.lt; omega)
set_option maxRecDepth 100000 in
set_option maxHeartbeats 4000000 in
theorem settled_tt (w : World) (m n : Int) (old root : List Int) (hold : IsDig old) (hroot : IsDig root) (prf : Value) (hprf : prf.oneCell' = true) (A : Option Addr) (N c : Nat) (pss : List (List Int)) (hl : pss.length = N) (hp : RdPartsO (fun _ => False) w A pss) (hN : N ≤ 2000) (hsm : ∀ bs ∈ pss, bs.length ≤ 2147483648) (h0 : ¬ n < 0) (h1 : ¬ (N : Int) < n) (h2 : ¬ m < 0) (h3 : ¬ (N : Int) < m) :
    Calls Tryd.prog 25 #[.agg (claimV (.slice A N c) m n old root prf true true).toArray] w fun e w' => ∃ B c', e = .returned (.tuple #[.agg (claimV (.slice A N c) m n (brootF ((pss.map leafF).take m.toNat)) (brootF ((pss.map leafF).take n.toNat)) prf true true).toArray, .slice B N c', .bool true]) ∧ MineD w w' 23 B N c' (pss.map leafF) := by
  obtain ⟨C0, hC0⟩ : ∃ C, C = claimV (.slice A N c) m n old root prf true true := ⟨_, rfl⟩
  have hc0 : C0[0]? = some (.slice A N c) := by rw [hC0]; rfl
  have hc1 : C0[1]? = some (.int .i64 m) := by rw [hC0]; rfl
  have hc2 : C0[2]? = some (.int .i64 n) := by rw [hC0]; rfl
  have hc6 : C0[68]? = some (.bool true) := by rw [hC0]; exact claimV_at _ _ _ _ _ _ hold.1 hroot.1 1
  have hc7 : C0[69]? = some (.bool true) := by rw [hC0]; exact claimV_at _ _ _ _ _ _ hold.1 hroot.1 2
  have hcl : C0.length = 70 := by rw [hC0]; exact claimV_length _ _ _ _ _ _ hold.1 hroot.1
  have hco : ∀ u ∈ C0, u.oneCell' = true := by rw [hC0]; exact claimV_one _ _ _ _ _ _ _ _ rfl hprf
  have hbo : IsDig (brootF ((pss.map leafF).take m.toNat)) := dig_root ((digs_leaves pss).take _)
  have hbr : IsDig (brootF ((pss.map leafF).take n.toNat)) := dig_root ((digs_leaves pss).take _)
  obtain ⟨o', ho'⟩ : ∃ o', o' = brootF ((pss.map leafF).take m.toNat) := ⟨_, rfl⟩
  obtain ⟨r', hr'⟩ : ∃ r', r' = brootF ((pss.map leafF).take n.toNat) := ⟨_, rfl⟩
  rw [← ho'] at hbo
  rw [← hr'] at hbr
  rw [← ho']
  rw [← hr']
  obtain ⟨RV, hRV⟩ : ∃ V, V = vb r' := ⟨_, rfl⟩
  have hC1 : Go.Aff.splice C0 35 RV = claimV (.slice A N c) m n old r' prf true true := by rw [hC0, hRV]; exact claimV_setRoot _ _ _ _ _ _ hold.1 hroot.1 r' hbr.1
  obtain ⟨C1, hC1'⟩ : ∃ C, C = Go.Aff.splice C0 35 RV := ⟨_, rfl⟩
  rw [← hC1'] at hC1
  have HRL : Hid (RV.length = 32) := Lib.hid (by rw [hRV, vb_length]; exact hbr.1)
  have HR1 : Hid (∀ u ∈ RV, u.oneCell' = true) := Lib.hid (by rw [hRV]; exact vb_one _)
  have HRI : Hid ((Tryd.prog.info? 24).map (·.size) = some RV.length) := Lib.hid (by rw [HRL.out]; kernel_rfl)
  obtain ⟨OV, hOV⟩ : ∃ V, V = vb o' := ⟨_, rfl⟩
  have hC2 : Go.Aff.splice C1 3 OV = claimV (.slice A N c) m n o' r' prf true true := by rw [hC1, hOV]; exact claimV_setOld _ _ _ _ _ _ hold.1 o' hbo.1
  obtain ⟨C2, hC2'⟩ : ∃ C, C = Go.Aff.splice C1 3 OV := ⟨_, rfl⟩
  rw [← hC2'] at hC2
  have HOL : Hid (OV.length = 32) := Lib.hid (by rw [hOV, vb_length]; exact hbo.1)
  have HO1 : Hid (∀ u ∈ OV, u.oneCell' = true) := Lib.hid (by rw [hOV]; exact vb_one _)
  have HOI : Hid ((Tryd.prog.info? 24).map (·.size) = some OV.length) := Lib.hid (by rw [HOL.out]; kernel_rfl)
  have HL1 : Hid (C1.length = 70) := Lib.hid (by rw [hC1]; exact claimV_length _ _ _ _ _ _ hold.1 hbr.1)
  have HL2 : Hid (C2.length = 70) := Lib.hid (by rw [hC2]; exact claimV_length _ _ _ _ _ _ hbo.1 hbr.1)
  have HCO2 : Hid (∀ u ∈ C2, u.oneCell' = true) := Lib.hid (by rw [hC2]; exact claimV_one _ _ _ _ _ _ _ _ rfl hprf)
  have h11 : C1[1]? = some (.int .i64 m) := by rw [hC1]; rfl
  have h16 : C1[68]? = some (.bool true) := by rw [hC1]; exact claimV_at _ _ _ _ _ _ hold.1 hbr.1 1
  have HIC2 : Hid ((Tryd.prog.info? 50).map (·.size) = some C2.length) := Lib.hid (claimInfo HL2.out)
  rw [← hC2, ← hC0]
  obtain ⟨ZC, hZA, hZL⟩ := zero_claim
  obtain ⟨W2, hW2⟩ : ∃ W2, W2 = (w.alloc (.cells C0.toArray 50)).alloc (.cells ZC.toArray 50) := ⟨_, rfl⟩
  have hk2 : Keeps (fun _ => False) w W2 := by rw [hW2]; exact ((Keeps.refl _ w).alloc _).alloc _
  have HB1 : Hid (Blk W2 w.heap.size 50 C0) := Lib.hid (by rw [hW2]; exact (Blk.new w _ _).alloc _)
  have HB2 : Hid (Blk W2 (w.heap.size + 1) 50 ZC) := Lib.hid (by rw [hW2]; exact blk_new2 _ _ _ _)
  have HK2 := Lib.hid hk2
  have HLV := Lib.hid (leaves_any W2 A N c pss hl (hp.keep hk2 (fun _ h => h)) hN hsm)
  have HLC : Hid (C0.length = 70) := Lib.hid hcl
  have HIC0 : Hid ((Tryd.prog.info? 50).map (·.size) = some C0.length) := Lib.hid (claimInfo hcl)
  have HCO : Hid (∀ u ∈ C0, u.oneCell' = true) := Lib.hid hco
  have HZL : Hid (ZC.length = 70) := Lib.hid hZL
  have HF : Hid (∀ W, Keeps (fun _ => False) W2 W → W.cell? ⟨w.heap.size, 0, none⟩ = some (.slice A N c) ∧ W.cell? ⟨w.heap.size, 1, none⟩ = some (.int .i64 m) ∧ W.cell? ⟨w.heap.size, 2, none⟩ = some (.int .i64 n) ∧ W.cell? ⟨w.heap.size, 68, none⟩ = some (.bool true) ∧ W.cell? ⟨w.heap.size, 69, none⟩ = some (.bool true)) := Lib.hid fun W hW => by
    have hb := hW.blk HB1.out (fun h => h)
    exact ⟨(hb.cell 0).trans hc0, (hb.cell 1).trans hc1, (hb.cell 2).trans hc2, (hb.cell 68).trans hc6, (hb.cell 69).trans hc7⟩
  obtain ⟨f0, _⟩ := HF.out W2 (Keeps.refl _ _)
  have HC1E := Lib.hid hC1'
  have HC2E := Lib.hid hC2'
  have H16 := Lib.hid h16
  have H11 := Lib.hid h11
  have tkN : True := trivial
  have tkM : True := trivial
  have HRX : Hid (vb (brootF ((pss.map leafF).take n.toNat)) = RV) := Lib.hid (by rw [hRV, hr'])
  have HOX : Hid (vb (brootF ((pss.map leafF).take m.toNat)) = OV) := Lib.hid (by rw [hOV, ho'])
  rw [hZA] at hW2
  clear hZA hZL hC0 hc0 hc1 hc2 hc6 hc7 hcl hco hk2 hp hl hsm hold hroot hbo hbr ho' hr' hC1 hC2 h16 h11 hRV hOV hC1' hC2'
  go_enter Tryd.func25, Tryd.ntmps25
  go_upto_region 1 with fail
  rw [← hW2]
  clear hW2
  go_wp2_with (first
    | (go_at_call 48; refine HLV.out.mono ?_; rintro e w5 ⟨A5, c5, rfl, hm5⟩; have HM5 := Lib.hid hm5; have HK5 := Lib.hid hm5.2.2.2.1; obtain ⟨_, f1, f2, f6, f7⟩ := HF.out w5 hm5.2.2.2.1; have hcn := fun W => cutD_h (P := Tryd.prog) Tryd.underlying42 (by kernel_rfl) A5 N c5 n.toNat n (by omega) (by have := HM5.out.le; omega) W; have hcm := fun W => cutD_h (P := Tryd.prog) Tryd.underlying42 (by kernel_rfl) A5 N c5 m.toNat m (by omega) (by have := HM5.out.le; omega) W; clear hm5)
    | (go_at_call 32; have tt := tkN; clear tkN; refine (rroot_any n.toNat _ _ _ _ (RdD.cutN HM5.out.rd _ (by omega)) (by have := HM5.out.le; omega) (by omega)).mono ?_; rintro e w6 ⟨rfl, hk6⟩; rw [HRX.out]; have HK6 := Lib.hid hk6; clear hk6 tt)
    | ((with_reducible show wpList _ _ _ (⟨none, Op.store 24 (.tmp 48) _, _, _, _, _⟩ :: _) _ _); refine wpList_store_at rfl 24 _ _ rfl 35 RV rfl rfl (HK6.out.blk (HK5.out.blk HB1.out (fun h => h)) (fun h => h)) (by rw [HRL.out, HLC.out]; omega) HRI.out HR1.out ?_; rw [← HC1E.out]; refine gen_world (fun W => Blk W w.heap.size 50 C1 ∧ Keeps (fun i => i = w.heap.size) w5 W) ⟨by have := (HK6.out.blk (HK5.out.blk HB1.out (fun h => h)) (fun h => h)).setRow C1; exact this, Keeps.setRow (g := w.heap.size) (HK6.out.mono (G := fun i => i = w.heap.size) (fun _ _ h => h.elim)) (.inl rfl) _⟩ ?_; rintro w7 ⟨hb7, hk7⟩; have HB7 := Lib.hid hb7; have HK7 := Lib.hid hk7; have f16 := (hb7.cell 68).trans H16.out; have f11 := (hb7.cell 1).trans H11.out; have HOU := Lib.hid (own_out HM5.out HB1.out.lt : Out (fun i => i = w.heap.size) A5 N); clear hb7 hk7)
    | (go_at_call 32; have tt := tkM; clear tkM; refine (rroot_any m.toNat _ _ _ _ (RdD.cutN (HM5.out.rd.keep HK7.out HOU.out) _ (by omega)) (by have := HM5.out.le; omega) (by omega)).mono ?_; rintro e w8 ⟨rfl, hk8⟩; rw [HOX.out]; have HK8 := Lib.hid hk8; clear hk8 tt)
    | ((with_reducible show wpList _ _ _ (⟨none, Op.store 24 (.tmp 56) _, _, _, _, _⟩ :: _) _ _); refine wpList_store_at rfl 24 _ _ rfl 3 OV rfl rfl (HK8.out.blk HB7.out (fun h => h)) (by rw [HOL.out, HL1.out]; omega) HOI.out HO1.out ?_; rw [← HC2E.out]; refine gen_world (fun W => Blk W w.heap.size 50 C2 ∧ Keeps (fun i => i = w.heap.size) w5 W) ⟨(HK8.out.blk HB7.out (fun h => h)).setRow C2, (HK7.out.trans HK8.out (fun _ _ h => h.elim)).setRow (.inl rfl) _⟩ ?_; rintro w9 ⟨hb9, hk9⟩; have HB9 := Lib.hid hb9; have HK9 := Lib.hid hk9; clear hb9 hk9)
    | ((with_reducible show wpList _ _ _ (⟨some 57, Op.load 50 (.tmp 1), _, _, _, _⟩ :: _) _ _); refine wpList_load_whole rfl 50 _ rfl _ rfl HB9.out Tryd.underlying50 rfl HIC2.out ?_)
    | ((with_reducible show wpList _ _ _ (⟨none, Op.store 50 (.tmp 2) _, _, _, _, _⟩ :: _) _ _); refine wpList_store_whole rfl 50 _ _ rfl C2 rfl rfl (HK9.out.blk (HK5.out.blk HB2.out (fun h => h)) (by omega)) (by rw [HL2.out, HZL.out]) HIC2.out HCO2.out ?_))
  refine bodyPost_ret (results_blk_tmp2 rfl _ _ rfl ((HK9.out.blk (HK5.out.blk HB2.out (fun h => h)) (by omega)).setRow C2) Tryd.underlying50 rfl HIC2.out) rfl ⟨A5, c5, rfl, ?_⟩
  exact MineD.wide HM5.out HK2.out ((HK9.out.mono (fun i _ h => Or.inl h) : Keeps (fun i => i = w.heap.size ∨ i = w.heap.size + 1) w5 _).setRow (.inl (.inr rfl)) _) (fun g e => by omega) (fun g e => by have := HB2.out.lt; omega)
set_option maxRecDepth 100000 in
set_option maxHeartbeats 4000000 in
theorem settled_tf (w : World) (m n : Int) (old root : List Int) (hold : IsDig old) (hroot : IsDig root) (prf : Value) (hprf : prf.oneCell' = true) (A : Option Addr) (N c : Nat) (pss : List (List Int)) (hl : pss.length = N) (hp : RdPartsO (fun _ => False) w A pss) (hN : N ≤ 2000) (hsm : ∀ bs ∈ pss, bs.length ≤ 2147483648) (h0 : ¬ n < 0) (h1 : ¬ (N : Int) < n) :
    Calls Tryd.prog 25 #[.agg (claimV (.slice A N c) m n old root prf false true).toArray] w fun e w' => ∃ B c', e = .returned (.tuple #[.agg (claimV (.slice A N c) m n old (brootF ((pss.map leafF).take n.toNat)) prf false true).toArray, .slice B N c', .bool true]) ∧ MineD w w' 23 B N c' (pss.map leafF) := by
  obtain ⟨C0, hC0⟩ : ∃ C, C = claimV (.slice A N c) m n old root prf false true := ⟨_, rfl⟩
  have hc0 : C0[0]? = some (.slice A N c) := by rw [hC0]; rfl
  have hc1 : C0[1]? = some (.int .i64 m) := by rw [hC0]; rfl
  have hc2 : C0[2]? = some (.int .i64 n) := by rw [hC0]; rfl
  have hc6 : C0[68]? = some (.bool false) := by rw [hC0]; exact claimV_at _ _ _ _ _ _ hold.1 hroot.1 1
  have hc7 : C0[69]? = some (.bool true) := by rw [hC0]; exact claimV_at _ _ _ _ _ _ hold.1 hroot.1 2
  have hcl : C0.length = 70 := by rw [hC0]; exact claimV_length _ _ _ _ _ _ hold.1 hroot.1
  have hco : ∀ u ∈ C0, u.oneCell' = true := by rw [hC0]; exact claimV_one _ _ _ _ _ _ _ _ rfl hprf
  have hbo : IsDig (brootF ((pss.map leafF).take m.toNat)) := dig_root ((digs_leaves pss).take _)
  have hbr : IsDig (brootF ((pss.map leafF).take n.toNat)) := dig_root ((digs_leaves pss).take _)
  obtain ⟨o', ho'⟩ : ∃ o', o' = brootF ((pss.map leafF).take m.toNat) := ⟨_, rfl⟩
  obtain ⟨r', hr'⟩ : ∃ r', r' = brootF ((pss.map leafF).take n.toNat) := ⟨_, rfl⟩
  rw [← ho'] at hbo
  rw [← hr'] at hbr
  rw [← hr']
  obtain ⟨RV, hRV⟩ : ∃ V, V = vb r' := ⟨_, rfl⟩
  have hC1 : Go.Aff.splice C0 35 RV = claimV (.slice A N c) m n old r' prf false true := by rw [hC0, hRV]; exact claimV_setRoot _ _ _ _ _ _ hold.1 hroot.1 r' hbr.1
  obtain ⟨C1, hC1'⟩ : ∃ C, C = Go.Aff.splice C0 35 RV := ⟨_, rfl⟩
  rw [← hC1'] at hC1
  have HRL : Hid (RV.length = 32) := Lib.hid (by rw [hRV, vb_length]; exact hbr.1)
  have HR1 : Hid (∀ u ∈ RV, u.oneCell' = true) := Lib.hid (by rw [hRV]; exact vb_one _)
  have HRI : Hid ((Tryd.prog.info? 24).map (·.size) = some RV.length) := Lib.hid (by rw [HRL.out]; kernel_rfl)
  have HL1 : Hid (C1.length = 70) := Lib.hid (by rw [hC1]; exact claimV_length _ _ _ _ _ _ hold.1 hbr.1)
  have HL2 : Hid (C1.length = 70) := Lib.hid (by rw [hC1]; exact claimV_length _ _ _ _ _ _ hold.1 hbr.1)
  have HCO2 : Hid (∀ u ∈ C1, u.oneCell' = true) := Lib.hid (by rw [hC1]; exact claimV_one _ _ _ _ _ _ _ _ rfl hprf)
  have h11 : C1[1]? = some (.int .i64 m) := by rw [hC1]; rfl
  have h16 : C1[68]? = some (.bool false) := by rw [hC1]; exact claimV_at _ _ _ _ _ _ hold.1 hbr.1 1
  have HIC1 : Hid ((Tryd.prog.info? 50).map (·.size) = some C1.length) := Lib.hid (claimInfo HL2.out)
  rw [← hC1, ← hC0]
  obtain ⟨ZC, hZA, hZL⟩ := zero_claim
  obtain ⟨W2, hW2⟩ : ∃ W2, W2 = (w.alloc (.cells C0.toArray 50)).alloc (.cells ZC.toArray 50) := ⟨_, rfl⟩
  have hk2 : Keeps (fun _ => False) w W2 := by rw [hW2]; exact ((Keeps.refl _ w).alloc _).alloc _
  have HB1 : Hid (Blk W2 w.heap.size 50 C0) := Lib.hid (by rw [hW2]; exact (Blk.new w _ _).alloc _)
  have HB2 : Hid (Blk W2 (w.heap.size + 1) 50 ZC) := Lib.hid (by rw [hW2]; exact blk_new2 _ _ _ _)
  have HK2 := Lib.hid hk2
  have HLV := Lib.hid (leaves_any W2 A N c pss hl (hp.keep hk2 (fun _ h => h)) hN hsm)
  have HLC : Hid (C0.length = 70) := Lib.hid hcl
  have HIC0 : Hid ((Tryd.prog.info? 50).map (·.size) = some C0.length) := Lib.hid (claimInfo hcl)
  have HCO : Hid (∀ u ∈ C0, u.oneCell' = true) := Lib.hid hco
  have HZL : Hid (ZC.length = 70) := Lib.hid hZL
  have HF : Hid (∀ W, Keeps (fun _ => False) W2 W → W.cell? ⟨w.heap.size, 0, none⟩ = some (.slice A N c) ∧ W.cell? ⟨w.heap.size, 1, none⟩ = some (.int .i64 m) ∧ W.cell? ⟨w.heap.size, 2, none⟩ = some (.int .i64 n) ∧ W.cell? ⟨w.heap.size, 68, none⟩ = some (.bool false) ∧ W.cell? ⟨w.heap.size, 69, none⟩ = some (.bool true)) := Lib.hid fun W hW => by
    have hb := hW.blk HB1.out (fun h => h)
    exact ⟨(hb.cell 0).trans hc0, (hb.cell 1).trans hc1, (hb.cell 2).trans hc2, (hb.cell 68).trans hc6, (hb.cell 69).trans hc7⟩
  obtain ⟨f0, _⟩ := HF.out W2 (Keeps.refl _ _)
  have HC1E := Lib.hid hC1'
  have HC1E := Lib.hid hC1'
  have H16 := Lib.hid h16
  have H11 := Lib.hid h11
  have tkN : True := trivial
  have tkM : True := trivial
  have HRX : Hid (vb (brootF ((pss.map leafF).take n.toNat)) = RV) := Lib.hid (by rw [hRV, hr'])
  rw [hZA] at hW2
  clear hZA hZL hC0 hc0 hc1 hc2 hc6 hc7 hcl hco hk2 hp hl hsm hold hroot hbo hbr ho' hr' hC1 h16 h11 hRV hC1'
  go_enter Tryd.func25, Tryd.ntmps25
  go_upto_region 1 with fail
  rw [← hW2]
  clear hW2
  go_wp2_with (first
    | (go_at_call 48; refine HLV.out.mono ?_; rintro e w5 ⟨A5, c5, rfl, hm5⟩; have HM5 := Lib.hid hm5; have HK5 := Lib.hid hm5.2.2.2.1; obtain ⟨_, f1, f2, f6, f7⟩ := HF.out w5 hm5.2.2.2.1; have hcn := fun W => cutD_h (P := Tryd.prog) Tryd.underlying42 (by kernel_rfl) A5 N c5 n.toNat n (by omega) (by have := HM5.out.le; omega) W; clear hm5)
    | (go_at_call 32; have tt := tkN; clear tkN; refine (rroot_any n.toNat _ _ _ _ (RdD.cutN HM5.out.rd _ (by omega)) (by have := HM5.out.le; omega) (by omega)).mono ?_; rintro e w6 ⟨rfl, hk6⟩; rw [HRX.out]; have HK6 := Lib.hid hk6; clear hk6 tt)
    | ((with_reducible show wpList _ _ _ (⟨none, Op.store 24 (.tmp 48) _, _, _, _, _⟩ :: _) _ _); refine wpList_store_at rfl 24 _ _ rfl 35 RV rfl rfl (HK6.out.blk (HK5.out.blk HB1.out (fun h => h)) (fun h => h)) (by rw [HRL.out, HLC.out]; omega) HRI.out HR1.out ?_; rw [← HC1E.out]; refine gen_world (fun W => Blk W w.heap.size 50 C1 ∧ Keeps (fun i => i = w.heap.size) w5 W) ⟨by have := (HK6.out.blk (HK5.out.blk HB1.out (fun h => h)) (fun h => h)).setRow C1; exact this, Keeps.setRow (g := w.heap.size) (HK6.out.mono (G := fun i => i = w.heap.size) (fun _ _ h => h.elim)) (.inl rfl) _⟩ ?_; rintro w7 ⟨hb7, hk7⟩; have HB7 := Lib.hid hb7; have HK7 := Lib.hid hk7; have f16 := (hb7.cell 68).trans H16.out; have f11 := (hb7.cell 1).trans H11.out; clear hb7 hk7)
    | ((with_reducible show wpList _ _ _ (⟨some 57, Op.load 50 (.tmp 1), _, _, _, _⟩ :: _) _ _); refine wpList_load_whole rfl 50 _ rfl _ rfl HB7.out Tryd.underlying50 rfl HIC1.out ?_)
    | ((with_reducible show wpList _ _ _ (⟨none, Op.store 50 (.tmp 2) _, _, _, _, _⟩ :: _) _ _); refine wpList_store_whole rfl 50 _ _ rfl C1 rfl rfl (HK7.out.blk (HK5.out.blk HB2.out (fun h => h)) (by omega)) (by rw [HL2.out, HZL.out]) HIC1.out HCO2.out ?_))
  refine bodyPost_ret (results_blk_tmp2 rfl _ _ rfl ((HK7.out.blk (HK5.out.blk HB2.out (fun h => h)) (by omega)).setRow C1) Tryd.underlying50 rfl HIC1.out) rfl ⟨A5, c5, rfl, ?_⟩
  exact MineD.wide HM5.out HK2.out ((HK7.out.mono (fun i _ h => Or.inl h) : Keeps (fun i => i = w.heap.size ∨ i = w.heap.size + 1) w5 _).setRow (.inl (.inr rfl)) _) (fun g e => by omega) (fun g e => by have := HB2.out.lt; omega)
set_option maxRecDepth 100000 in
set_option maxHeartbeats 4000000 in
theorem settled_ft (w : World) (m n : Int) (old root : List Int) (hold : IsDig old) (hroot : IsDig root) (prf : Value) (hprf : prf.oneCell' = true) (A : Option Addr) (N c : Nat) (pss : List (List Int)) (hl : pss.length = N) (hp : RdPartsO (fun _ => False) w A pss) (hN : N ≤ 2000) (hsm : ∀ bs ∈ pss, bs.length ≤ 2147483648) (h2 : ¬ m < 0) (h3 : ¬ (N : Int) < m) :
    Calls Tryd.prog 25 #[.agg (claimV (.slice A N c) m n old root prf true false).toArray] w fun e w' => ∃ B c', e = .returned (.tuple #[.agg (claimV (.slice A N c) m n (brootF ((pss.map leafF).take m.toNat)) root prf true false).toArray, .slice B N c', .bool true]) ∧ MineD w w' 23 B N c' (pss.map leafF) := by
  obtain ⟨C0, hC0⟩ : ∃ C, C = claimV (.slice A N c) m n old root prf true false := ⟨_, rfl⟩
  have hc0 : C0[0]? = some (.slice A N c) := by rw [hC0]; rfl
  have hc1 : C0[1]? = some (.int .i64 m) := by rw [hC0]; rfl
  have hc2 : C0[2]? = some (.int .i64 n) := by rw [hC0]; rfl
  have hc6 : C0[68]? = some (.bool true) := by rw [hC0]; exact claimV_at _ _ _ _ _ _ hold.1 hroot.1 1
  have hc7 : C0[69]? = some (.bool false) := by rw [hC0]; exact claimV_at _ _ _ _ _ _ hold.1 hroot.1 2
  have hcl : C0.length = 70 := by rw [hC0]; exact claimV_length _ _ _ _ _ _ hold.1 hroot.1
  have hco : ∀ u ∈ C0, u.oneCell' = true := by rw [hC0]; exact claimV_one _ _ _ _ _ _ _ _ rfl hprf
  have hbo : IsDig (brootF ((pss.map leafF).take m.toNat)) := dig_root ((digs_leaves pss).take _)
  have hbr : IsDig (brootF ((pss.map leafF).take n.toNat)) := dig_root ((digs_leaves pss).take _)
  obtain ⟨o', ho'⟩ : ∃ o', o' = brootF ((pss.map leafF).take m.toNat) := ⟨_, rfl⟩
  obtain ⟨r', hr'⟩ : ∃ r', r' = brootF ((pss.map leafF).take n.toNat) := ⟨_, rfl⟩
  rw [← ho'] at hbo
  rw [← hr'] at hbr
  rw [← ho']
  obtain ⟨OV, hOV⟩ : ∃ V, V = vb o' := ⟨_, rfl⟩
  have hC2 : Go.Aff.splice C0 3 OV = claimV (.slice A N c) m n o' root prf true false := by rw [hC0, hOV]; exact claimV_setOld _ _ _ _ _ _ hold.1 o' hbo.1
  obtain ⟨C2, hC2'⟩ : ∃ C, C = Go.Aff.splice C0 3 OV := ⟨_, rfl⟩
  rw [← hC2'] at hC2
  have HOL : Hid (OV.length = 32) := Lib.hid (by rw [hOV, vb_length]; exact hbo.1)
  have HO1 : Hid (∀ u ∈ OV, u.oneCell' = true) := Lib.hid (by rw [hOV]; exact vb_one _)
  have HOI : Hid ((Tryd.prog.info? 24).map (·.size) = some OV.length) := Lib.hid (by rw [HOL.out]; kernel_rfl)
  have HL1 : Hid (C0.length = 70) := Lib.hid (by rw [hC0]; exact claimV_length _ _ _ _ _ _ hold.1 hroot.1)
  have HL2 : Hid (C2.length = 70) := Lib.hid (by rw [hC2]; exact claimV_length _ _ _ _ _ _ hbo.1 hroot.1)
  have HCO2 : Hid (∀ u ∈ C2, u.oneCell' = true) := Lib.hid (by rw [hC2]; exact claimV_one _ _ _ _ _ _ _ _ rfl hprf)
  have h11 : C0[1]? = some (.int .i64 m) := by rw [hC0]; rfl
  have h16 : C0[68]? = some (.bool true) := by rw [hC0]; exact claimV_at _ _ _ _ _ _ hold.1 hroot.1 1
  have HIC2 : Hid ((Tryd.prog.info? 50).map (·.size) = some C2.length) := Lib.hid (claimInfo HL2.out)
  rw [← hC2, ← hC0]
  obtain ⟨ZC, hZA, hZL⟩ := zero_claim
  obtain ⟨W2, hW2⟩ : ∃ W2, W2 = (w.alloc (.cells C0.toArray 50)).alloc (.cells ZC.toArray 50) := ⟨_, rfl⟩
  have hk2 : Keeps (fun _ => False) w W2 := by rw [hW2]; exact ((Keeps.refl _ w).alloc _).alloc _
  have HB1 : Hid (Blk W2 w.heap.size 50 C0) := Lib.hid (by rw [hW2]; exact (Blk.new w _ _).alloc _)
  have HB2 : Hid (Blk W2 (w.heap.size + 1) 50 ZC) := Lib.hid (by rw [hW2]; exact blk_new2 _ _ _ _)
  have HK2 := Lib.hid hk2
  have HLV := Lib.hid (leaves_any W2 A N c pss hl (hp.keep hk2 (fun _ h => h)) hN hsm)
  have HLC : Hid (C0.length = 70) := Lib.hid hcl
  have HIC0 : Hid ((Tryd.prog.info? 50).map (·.size) = some C0.length) := Lib.hid (claimInfo hcl)
  have HCO : Hid (∀ u ∈ C0, u.oneCell' = true) := Lib.hid hco
  have HZL : Hid (ZC.length = 70) := Lib.hid hZL
  have HF : Hid (∀ W, Keeps (fun _ => False) W2 W → W.cell? ⟨w.heap.size, 0, none⟩ = some (.slice A N c) ∧ W.cell? ⟨w.heap.size, 1, none⟩ = some (.int .i64 m) ∧ W.cell? ⟨w.heap.size, 2, none⟩ = some (.int .i64 n) ∧ W.cell? ⟨w.heap.size, 68, none⟩ = some (.bool true) ∧ W.cell? ⟨w.heap.size, 69, none⟩ = some (.bool false)) := Lib.hid fun W hW => by
    have hb := hW.blk HB1.out (fun h => h)
    exact ⟨(hb.cell 0).trans hc0, (hb.cell 1).trans hc1, (hb.cell 2).trans hc2, (hb.cell 68).trans hc6, (hb.cell 69).trans hc7⟩
  obtain ⟨f0, _⟩ := HF.out W2 (Keeps.refl _ _)
  have HC2E := Lib.hid hC2'
  have H16 := Lib.hid h16
  have H11 := Lib.hid h11
  have tkN : True := trivial
  have tkM : True := trivial
  have HOX : Hid (vb (brootF ((pss.map leafF).take m.toNat)) = OV) := Lib.hid (by rw [hOV, ho'])
  rw [hZA] at hW2
  clear hZA hZL hC0 hc0 hc1 hc2 hc6 hc7 hcl hco hk2 hp hl hsm hold hroot hbo hbr ho' hr' hC2 h16 h11 hOV hC2'
  go_enter Tryd.func25, Tryd.ntmps25
  go_upto_region 1 with fail
  rw [← hW2]
  clear hW2
  go_wp2_with (first
    | (go_at_call 48; refine HLV.out.mono ?_; rintro e w5 ⟨A5, c5, rfl, hm5⟩; have HM5 := Lib.hid hm5; have HK5 := Lib.hid hm5.2.2.2.1; obtain ⟨_, f1, f2, f6, f7⟩ := HF.out w5 hm5.2.2.2.1; have hcm := fun W => cutD_h (P := Tryd.prog) Tryd.underlying42 (by kernel_rfl) A5 N c5 m.toNat m (by omega) (by have := HM5.out.le; omega) W; clear hm5)
    | (go_at_call 32; have tt := tkM; clear tkM; refine (rroot_any m.toNat _ _ _ _ (RdD.cutN HM5.out.rd _ (by omega)) (by have := HM5.out.le; omega) (by omega)).mono ?_; rintro e w8 ⟨rfl, hk8⟩; rw [HOX.out]; have HK8 := Lib.hid hk8; clear hk8 tt)
    | ((with_reducible show wpList _ _ _ (⟨none, Op.store 24 (.tmp 56) _, _, _, _, _⟩ :: _) _ _); refine wpList_store_at rfl 24 _ _ rfl 3 OV rfl rfl (HK8.out.blk (HK5.out.blk HB1.out (fun h => h)) (fun h => h)) (by rw [HOL.out, HLC.out]; omega) HOI.out HO1.out ?_; rw [← HC2E.out]; refine gen_world (fun W => Blk W w.heap.size 50 C2 ∧ Keeps (fun i => i = w.heap.size) w5 W) ⟨(HK8.out.blk (HK5.out.blk HB1.out (fun h => h)) (fun h => h)).setRow C2, (HK8.out.mono (G := fun i => i = w.heap.size) (fun _ _ h => h.elim)).setRow (.inl rfl) _⟩ ?_; rintro w9 ⟨hb9, hk9⟩; have HB9 := Lib.hid hb9; have HK9 := Lib.hid hk9; clear hb9 hk9)
    | ((with_reducible show wpList _ _ _ (⟨some 57, Op.load 50 (.tmp 1), _, _, _, _⟩ :: _) _ _); refine wpList_load_whole rfl 50 _ rfl _ rfl HB9.out Tryd.underlying50 rfl HIC2.out ?_)
    | ((with_reducible show wpList _ _ _ (⟨none, Op.store 50 (.tmp 2) _, _, _, _, _⟩ :: _) _ _); refine wpList_store_whole rfl 50 _ _ rfl C2 rfl rfl (HK9.out.blk (HK5.out.blk HB2.out (fun h => h)) (by omega)) (by rw [HL2.out, HZL.out]) HIC2.out HCO2.out ?_))
  refine bodyPost_ret (results_blk_tmp2 rfl _ _ rfl ((HK9.out.blk (HK5.out.blk HB2.out (fun h => h)) (by omega)).setRow C2) Tryd.underlying50 rfl HIC2.out) rfl ⟨A5, c5, rfl, ?_⟩
  exact MineD.wide HM5.out HK2.out ((HK9.out.mono (fun i _ h => Or.inl h) : Keeps (fun i => i = w.heap.size ∨ i = w.heap.size + 1) w5 _).setRow (.inl (.inr rfl)) _) (fun g e => by omega) (fun g e => by have := HB2.out.lt; omega)
set_option maxRecDepth 100000 in
set_option maxHeartbeats 4000000 in
theorem settled_ff (w : World) (m n : Int) (old root : List Int) (hold : IsDig old) (hroot : IsDig root) (prf : Value) (hprf : prf.oneCell' = true) (A : Option Addr) (N c : Nat) (pss : List (List Int)) (hl : pss.length = N) (hp : RdPartsO (fun _ => False) w A pss) (hN : N ≤ 2000) (hsm : ∀ bs ∈ pss, bs.length ≤ 2147483648)  :
    Calls Tryd.prog 25 #[.agg (claimV (.slice A N c) m n old root prf false false).toArray] w fun e w' => ∃ B c', e = .returned (.tuple #[.agg (claimV (.slice A N c) m n old root prf false false).toArray, .slice B N c', .bool true]) ∧ MineD w w' 23 B N c' (pss.map leafF) := by
  obtain ⟨C0, hC0⟩ : ∃ C, C = claimV (.slice A N c) m n old root prf false false := ⟨_, rfl⟩
  have hc0 : C0[0]? = some (.slice A N c) := by rw [hC0]; rfl
  have hc1 : C0[1]? = some (.int .i64 m) := by rw [hC0]; rfl
  have hc2 : C0[2]? = some (.int .i64 n) := by rw [hC0]; rfl
  have hc6 : C0[68]? = some (.bool false) := by rw [hC0]; exact claimV_at _ _ _ _ _ _ hold.1 hroot.1 1
  have hc7 : C0[69]? = some (.bool false) := by rw [hC0]; exact claimV_at _ _ _ _ _ _ hold.1 hroot.1 2
  have hcl : C0.length = 70 := by rw [hC0]; exact claimV_length _ _ _ _ _ _ hold.1 hroot.1
  have hco : ∀ u ∈ C0, u.oneCell' = true := by rw [hC0]; exact claimV_one _ _ _ _ _ _ _ _ rfl hprf
  have hbo : IsDig (brootF ((pss.map leafF).take m.toNat)) := dig_root ((digs_leaves pss).take _)
  have hbr : IsDig (brootF ((pss.map leafF).take n.toNat)) := dig_root ((digs_leaves pss).take _)
  obtain ⟨o', ho'⟩ : ∃ o', o' = brootF ((pss.map leafF).take m.toNat) := ⟨_, rfl⟩
  obtain ⟨r', hr'⟩ : ∃ r', r' = brootF ((pss.map leafF).take n.toNat) := ⟨_, rfl⟩
  rw [← ho'] at hbo
  rw [← hr'] at hbr
  obtain ⟨C1, hC1'⟩ : ∃ C, C = C0 := ⟨_, rfl⟩
  have hC1 : C1 = claimV (.slice A N c) m n old root prf false false := hC1'.trans hC0
  have HL1 : Hid (C0.length = 70) := Lib.hid (by rw [hC0]; exact claimV_length _ _ _ _ _ _ hold.1 hroot.1)
  have HL2 : Hid (C0.length = 70) := Lib.hid (by rw [hC0]; exact claimV_length _ _ _ _ _ _ hold.1 hroot.1)
  have HCO2 : Hid (∀ u ∈ C0, u.oneCell' = true) := Lib.hid (by rw [hC0]; exact claimV_one _ _ _ _ _ _ _ _ rfl hprf)
  have h11 : C0[1]? = some (.int .i64 m) := by rw [hC0]; rfl
  have h16 : C0[68]? = some (.bool false) := by rw [hC0]; exact claimV_at _ _ _ _ _ _ hold.1 hroot.1 1
  have HIC0 : Hid ((Tryd.prog.info? 50).map (·.size) = some C0.length) := Lib.hid (claimInfo HL2.out)
  rw [← hC0]
  obtain ⟨ZC, hZA, hZL⟩ := zero_claim
  obtain ⟨W2, hW2⟩ : ∃ W2, W2 = (w.alloc (.cells C0.toArray 50)).alloc (.cells ZC.toArray 50) := ⟨_, rfl⟩
  have hk2 : Keeps (fun _ => False) w W2 := by rw [hW2]; exact ((Keeps.refl _ w).alloc _).alloc _
  have HB1 : Hid (Blk W2 w.heap.size 50 C0) := Lib.hid (by rw [hW2]; exact (Blk.new w _ _).alloc _)
  have HB2 : Hid (Blk W2 (w.heap.size + 1) 50 ZC) := Lib.hid (by rw [hW2]; exact blk_new2 _ _ _ _)
  have HK2 := Lib.hid hk2
  have HLV := Lib.hid (leaves_any W2 A N c pss hl (hp.keep hk2 (fun _ h => h)) hN hsm)
  have HLC : Hid (C0.length = 70) := Lib.hid hcl
  have HIC0 : Hid ((Tryd.prog.info? 50).map (·.size) = some C0.length) := Lib.hid (claimInfo hcl)
  have HCO : Hid (∀ u ∈ C0, u.oneCell' = true) := Lib.hid hco
  have HZL : Hid (ZC.length = 70) := Lib.hid hZL
  have HF : Hid (∀ W, Keeps (fun _ => False) W2 W → W.cell? ⟨w.heap.size, 0, none⟩ = some (.slice A N c) ∧ W.cell? ⟨w.heap.size, 1, none⟩ = some (.int .i64 m) ∧ W.cell? ⟨w.heap.size, 2, none⟩ = some (.int .i64 n) ∧ W.cell? ⟨w.heap.size, 68, none⟩ = some (.bool false) ∧ W.cell? ⟨w.heap.size, 69, none⟩ = some (.bool false)) := Lib.hid fun W hW => by
    have hb := hW.blk HB1.out (fun h => h)
    exact ⟨(hb.cell 0).trans hc0, (hb.cell 1).trans hc1, (hb.cell 2).trans hc2, (hb.cell 68).trans hc6, (hb.cell 69).trans hc7⟩
  obtain ⟨f0, _⟩ := HF.out W2 (Keeps.refl _ _)
  have H16 := Lib.hid h16
  have H11 := Lib.hid h11
  have tkN : True := trivial
  have tkM : True := trivial
  rw [hZA] at hW2
  clear hZA hZL hC0 hc0 hc1 hc2 hc6 hc7 hcl hco hk2 hp hl hsm hold hroot hbo hbr ho' hr' h16 h11 hC1'
  go_enter Tryd.func25, Tryd.ntmps25
  go_upto_region 1 with fail
  rw [← hW2]
  clear hW2
  go_wp2_with (first
    | (go_at_call 48; refine HLV.out.mono ?_; rintro e w5 ⟨A5, c5, rfl, hm5⟩; have HM5 := Lib.hid hm5; have HK5 := Lib.hid hm5.2.2.2.1; obtain ⟨_, f1, f2, f6, f7⟩ := HF.out w5 hm5.2.2.2.1; clear hm5)
    | ((with_reducible show wpList _ _ _ (⟨some 57, Op.load 50 (.tmp 1), _, _, _, _⟩ :: _) _ _); refine wpList_load_whole rfl 50 _ rfl _ rfl (HK5.out.blk HB1.out (fun h => h)) Tryd.underlying50 rfl HIC0.out ?_)
    | ((with_reducible show wpList _ _ _ (⟨none, Op.store 50 (.tmp 2) _, _, _, _, _⟩ :: _) _ _); refine wpList_store_whole rfl 50 _ _ rfl C0 rfl rfl ((Keeps.refl (fun i => i = w.heap.size) w5).blk (HK5.out.blk HB2.out (fun h => h)) (by omega)) (by rw [HL2.out, HZL.out]) HIC0.out HCO2.out ?_))
  refine bodyPost_ret (results_blk_tmp2 rfl _ _ rfl (((Keeps.refl (fun i => i = w.heap.size) w5).blk (HK5.out.blk HB2.out (fun h => h)) (by omega)).setRow C0) Tryd.underlying50 rfl HIC0.out) rfl ⟨A5, c5, rfl, ?_⟩
  exact MineD.wide HM5.out HK2.out (((Keeps.refl (fun i => i = w.heap.size) w5).mono (fun i _ h => Or.inl h) : Keeps (fun i => i = w.heap.size ∨ i = w.heap.size + 1) w5 _).setRow (.inl (.inr rfl)) _) (fun g e => by omega) (fun g e => by have := HB2.out.lt; omega)
end Go.Proofs.YtknecjjdegngfaaDoor
