/-
  WALKS: the closures of CheckGrowth.
-/
import Derived.Test.YtknecjjdegngfaaDoorCEntryW
set_option linter.unusedSimpArgs false
namespace Go.Aff
open Go Go.RowKit Go.Sha
/-- What a struct's building writes of an array's cells. -/
theorem build_list2 (o : Nat) (l : List Value) : ∀ (k : Nat) (z : Array Value), o + k + l.length ≤ z.size → List.foldl (fun (cs : Array Value) (x : Value × Nat) => cs.setIfInBounds (o + x.2) x.1) z (l.zipIdx k) = (splice z.toList (o + k) l).toArray := by
  induction l with
  | nil => intro k z h; simp [splice]
  | cons v l ih =>
    intro k z h
    simp only [List.length_cons] at h
    rw [List.zipIdx_cons, List.foldl_cons, ih (k + 1) _ (by simp; omega)]
    have hk : o + k < z.toList.length := by simp; omega
    simp only [Array.toList_setIfInBounds]
    congr 1
    unfold splice
    have e1 : (z.toList.set (o + k) v).take (o + (k + 1)) = z.toList.take (o + k) ++ [v] := by
      rw [← Nat.add_assoc, List.take_add_one, List.getElem?_set_self hk, List.take_set_of_le (Nat.le_refl _)]
      rfl
    have e2 : (z.toList.set (o + k) v).drop (o + (k + 1) + l.length) = z.toList.drop (o + k + (v :: l).length) := by
      rw [List.drop_set_of_lt (by omega), List.length_cons]
      congr 1
      omega
    rw [e1, e2]
    simp
theorem build_array2 (o : Nat) (l : List Value) (z : Array Value) (h : o + l.length ≤ z.size) : Array.foldl (fun (cs : Array Value) x => cs.setIfInBounds (o + x.2) x.1) z l.toArray.zipIdx 0 l.toArray.size = (splice z.toList o l).toArray := by
  have := build_list2 o l 0 z (by omega)
  rw [Nat.add_zero] at this
  rw [← this]
  simp
theorem splice_lo {a b l : List Value} (h : l.length = a.length) : splice (a ++ b) 0 l = l ++ b := by
  unfold splice
  simp [h]
theorem splice_hi {a b l : List Value} (h : l.length = b.length) : splice (a ++ b) a.length l = a ++ l := by
  unfold splice
  simp [h]
end Go.Aff
namespace Go.Book
open Go Go.Aff Go.Sha
def joinT2 (s d : List Int) : List Int := s.take 32 ++ pairF (s.drop 32) (d.drop 32)
def ofT2 (d : List Int) : List Int := List.replicate 32 0 ++ d
def aheadT2 (s d : List Int) : List Int := pairF d (s.take 32) ++ pairF d (s.drop 32)
end Go.Book
namespace Go.Proofs.YtknecjjdegngfaaDoor
open Go Go.RowKit Go.Sha Go.Aff Go.Book
theorem vb_app (a b : List Int) : vb (a ++ b) = vb a ++ vb b := List.map_append
theorem build_of (d : List Int) (hd : d.length = 32) : List.foldl (fun (cs : Array Value) (x : Value × Nat) => cs.setIfInBounds (32 + x.2) x.1) #[Value.int .u8 0, Value.int .u8 0, Value.int .u8 0, Value.int .u8 0, Value.int .u8 0, Value.int .u8 0, Value.int .u8 0, Value.int .u8 0, Value.int .u8 0, Value.int .u8 0, Value.int .u8 0, Value.int .u8 0, Value.int .u8 0, Value.int .u8 0, Value.int .u8 0, Value.int .u8 0, Value.int .u8 0, Value.int .u8 0, Value.int .u8 0, Value.int .u8 0, Value.int .u8 0, Value.int .u8 0, Value.int .u8 0, Value.int .u8 0, Value.int .u8 0, Value.int .u8 0, Value.int .u8 0, Value.int .u8 0, Value.int .u8 0, Value.int .u8 0, Value.int .u8 0, Value.int .u8 0, Value.int .u8 0, Value.int .u8 0, Value.int .u8 0, Value.int .u8 0, Value.int .u8 0, Value.int .u8 0, Value.int .u8 0, Value.int .u8 0, Value.int .u8 0, Value.int .u8 0, Value.int .u8 0, Value.int .u8 0, Value.int .u8 0, Value.int .u8 0, Value.int .u8 0, Value.int .u8 0, Value.int .u8 0, Value.int .u8 0, Value.int .u8 0, Value.int .u8 0, Value.int .u8 0, Value.int .u8 0, Value.int .u8 0, Value.int .u8 0, Value.int .u8 0, Value.int .u8 0, Value.int .u8 0, Value.int .u8 0, Value.int .u8 0, Value.int .u8 0, Value.int .u8 0, Value.int .u8 0] (vb d).zipIdx = (vb (ofT2 d)).toArray := by
  have h9 := build_list2 32 (vb d) 0 #[Value.int .u8 0, Value.int .u8 0, Value.int .u8 0, Value.int .u8 0, Value.int .u8 0, Value.int .u8 0, Value.int .u8 0, Value.int .u8 0, Value.int .u8 0, Value.int .u8 0, Value.int .u8 0, Value.int .u8 0, Value.int .u8 0, Value.int .u8 0, Value.int .u8 0, Value.int .u8 0, Value.int .u8 0, Value.int .u8 0, Value.int .u8 0, Value.int .u8 0, Value.int .u8 0, Value.int .u8 0, Value.int .u8 0, Value.int .u8 0, Value.int .u8 0, Value.int .u8 0, Value.int .u8 0, Value.int .u8 0, Value.int .u8 0, Value.int .u8 0, Value.int .u8 0, Value.int .u8 0, Value.int .u8 0, Value.int .u8 0, Value.int .u8 0, Value.int .u8 0, Value.int .u8 0, Value.int .u8 0, Value.int .u8 0, Value.int .u8 0, Value.int .u8 0, Value.int .u8 0, Value.int .u8 0, Value.int .u8 0, Value.int .u8 0, Value.int .u8 0, Value.int .u8 0, Value.int .u8 0, Value.int .u8 0, Value.int .u8 0, Value.int .u8 0, Value.int .u8 0, Value.int .u8 0, Value.int .u8 0, Value.int .u8 0, Value.int .u8 0, Value.int .u8 0, Value.int .u8 0, Value.int .u8 0, Value.int .u8 0, Value.int .u8 0, Value.int .u8 0, Value.int .u8 0, Value.int .u8 0] (by rw [vb_length, hd]; decide)
  rw [Nat.add_zero] at h9
  rw [h9]
  have h8 := splice_hi (a := vb (List.replicate 32 0)) (b := vb (List.replicate 32 0)) (l := vb d) (by rw [vb_length, vb_length, hd]; rfl)
  rw [show (vb (List.replicate 32 0)).length = 32 from rfl] at h8
  rw [ofT2, vb_app, ← h8]
  rfl
theorem build_lo (a : List Int) (ha : a.length = 32) : List.foldl (fun (cs : Array Value) (x : Value × Nat) => cs.setIfInBounds x.2 x.1) #[Value.int .u8 0, Value.int .u8 0, Value.int .u8 0, Value.int .u8 0, Value.int .u8 0, Value.int .u8 0, Value.int .u8 0, Value.int .u8 0, Value.int .u8 0, Value.int .u8 0, Value.int .u8 0, Value.int .u8 0, Value.int .u8 0, Value.int .u8 0, Value.int .u8 0, Value.int .u8 0, Value.int .u8 0, Value.int .u8 0, Value.int .u8 0, Value.int .u8 0, Value.int .u8 0, Value.int .u8 0, Value.int .u8 0, Value.int .u8 0, Value.int .u8 0, Value.int .u8 0, Value.int .u8 0, Value.int .u8 0, Value.int .u8 0, Value.int .u8 0, Value.int .u8 0, Value.int .u8 0, Value.int .u8 0, Value.int .u8 0, Value.int .u8 0, Value.int .u8 0, Value.int .u8 0, Value.int .u8 0, Value.int .u8 0, Value.int .u8 0, Value.int .u8 0, Value.int .u8 0, Value.int .u8 0, Value.int .u8 0, Value.int .u8 0, Value.int .u8 0, Value.int .u8 0, Value.int .u8 0, Value.int .u8 0, Value.int .u8 0, Value.int .u8 0, Value.int .u8 0, Value.int .u8 0, Value.int .u8 0, Value.int .u8 0, Value.int .u8 0, Value.int .u8 0, Value.int .u8 0, Value.int .u8 0, Value.int .u8 0, Value.int .u8 0, Value.int .u8 0, Value.int .u8 0, Value.int .u8 0] (vb a).zipIdx = (vb a ++ vb (List.replicate 32 0)).toArray := by
  have h9 := build_list2 0 (vb a) 0 #[Value.int .u8 0, Value.int .u8 0, Value.int .u8 0, Value.int .u8 0, Value.int .u8 0, Value.int .u8 0, Value.int .u8 0, Value.int .u8 0, Value.int .u8 0, Value.int .u8 0, Value.int .u8 0, Value.int .u8 0, Value.int .u8 0, Value.int .u8 0, Value.int .u8 0, Value.int .u8 0, Value.int .u8 0, Value.int .u8 0, Value.int .u8 0, Value.int .u8 0, Value.int .u8 0, Value.int .u8 0, Value.int .u8 0, Value.int .u8 0, Value.int .u8 0, Value.int .u8 0, Value.int .u8 0, Value.int .u8 0, Value.int .u8 0, Value.int .u8 0, Value.int .u8 0, Value.int .u8 0, Value.int .u8 0, Value.int .u8 0, Value.int .u8 0, Value.int .u8 0, Value.int .u8 0, Value.int .u8 0, Value.int .u8 0, Value.int .u8 0, Value.int .u8 0, Value.int .u8 0, Value.int .u8 0, Value.int .u8 0, Value.int .u8 0, Value.int .u8 0, Value.int .u8 0, Value.int .u8 0, Value.int .u8 0, Value.int .u8 0, Value.int .u8 0, Value.int .u8 0, Value.int .u8 0, Value.int .u8 0, Value.int .u8 0, Value.int .u8 0, Value.int .u8 0, Value.int .u8 0, Value.int .u8 0, Value.int .u8 0, Value.int .u8 0, Value.int .u8 0, Value.int .u8 0, Value.int .u8 0] (by rw [vb_length, ha]; decide)
  simp only [Nat.zero_add] at h9
  rw [h9]
  rw [← splice_lo (a := vb (List.replicate 32 0)) (b := vb (List.replicate 32 0)) (l := vb a) (by rw [vb_length, vb_length, ha]; rfl)]
  rfl
theorem build_hi (a b : List Int) (ha : a.length = 32) (hb : b.length = 32) : List.foldl (fun (cs : Array Value) (x : Value × Nat) => cs.setIfInBounds (32 + x.2) x.1) (vb a ++ vb (List.replicate 32 0)).toArray (vb b).zipIdx = (vb (a ++ b)).toArray := by
  have h9 := build_list2 32 (vb b) 0 (vb a ++ vb (List.replicate 32 0)).toArray (by rw [vb_length, hb]; simp [vb, ha])
  rw [Nat.add_zero] at h9
  rw [h9]
  have h8 := splice_hi (a := vb a) (b := vb (List.replicate 32 0)) (l := vb b) (by rw [vb_length, vb_length, hb]; rfl)
  rw [vb_length, ha] at h8
  simp only [h8, vb_app]
set_option maxRecDepth 100000 in
set_option maxHeartbeats 1000000 in
theorem ofT_any (W : World) (d : List Int) (hd : IsDig d) : Calls Tryd.prog 58 #[.agg (vb d).toArray] W fun e w' => e = .returned (.agg (vb (ofT2 d)).toArray) ∧ Keeps (fun _ => False) W w' := by
  have hb := build_of d hd.1
  obtain ⟨DV, hDV⟩ : ∃ V, V = vb (d) := ⟨_, rfl⟩
  obtain ⟨RV, hRV⟩ : ∃ V, V = vb (ofT2 d) := ⟨_, rfl⟩
  have HR1 : Hid (∀ u ∈ RV, u.oneCell' = true) := Lib.hid (by rw [hRV]; exact vb_one _)
  have HDL : Hid (DV.length = 32) := Lib.hid (by rw [hDV, vb_length]; exact hd.1)
  have HDI : Hid ((Tryd.prog.info? 24).map (·.size) = some DV.length) := Lib.hid (by rw [HDL.out]; kernel_rfl)
  have HRL : Hid (RV.length = 64) := Lib.hid (by rw [hRV, vb_length]; exact (by unfold ofT2; rw [List.length_append, hd.1]; rfl))
  have HRI : Hid ((Tryd.prog.info? 95).map (·.size) = some RV.length) := Lib.hid (by rw [HRL.out]; kernel_rfl)
  have HB1 : Hid (Blk ((W.alloc (.cells DV.toArray 24)).alloc (.cells (List.replicate 64 (Value.int .u8 0)).toArray 95)) W.heap.size 24 DV) := Lib.hid ((Blk.new W _ _).alloc _)
  have HB2 : Hid (Blk ((W.alloc (.cells DV.toArray 24)).alloc (.cells (List.replicate 64 (Value.int .u8 0)).toArray 95)) (W.heap.size + 1) 95 (List.replicate 64 (Value.int .u8 0))) := Lib.hid (by
    have h5 := Blk.new (W.alloc (.cells DV.toArray 24)) 95 (List.replicate 64 (Value.int .u8 0))
    rwa [World.size_alloc] at h5)
  rw [← hDV, ← hRV] at hb
  have hDl : DV.length = 32 := HDL.out
  rw [← hDV, ← hRV]
  clear hDV hRV hd
  go_enter Tryd.func58, Tryd.ntmps58
  go_wp2_with (first
    | ((with_reducible show wpList _ _ _ (⟨_, Op.load 24 _, _, _, _, _⟩ :: _) _ _); refine wpList_load_whole rfl 24 _ rfl _ rfl HB1.out Tryd.underlying24 rfl HDI.out ?_)
    | ((with_reducible show wpList _ _ _ (⟨none, Op.store 95 _ _, _, _, _, _⟩ :: _) _ _); refine wpList_store_whole rfl 95 _ _ rfl RV rfl rfl HB2.out (by rw [HRL.out]; simp) HRI.out HR1.out ?_))
  refine bodyPost_ret (results_blk rfl _ _ rfl (HB2.out.setRow RV) Tryd.underlying95 rfl HRI.out) rfl ⟨rfl, (((Keeps.refl _ W).alloc _).alloc _).setRow (.inr (by omega)) _⟩
set_option maxRecDepth 100000 in
set_option maxHeartbeats 2000000 in
theorem aheadT_any (W : World) (hG : Glob W) (s d : List Int) (hs : s.length = 64 ∧ IsBytes s) (hd : IsDig d) : Calls Tryd.prog 59 #[.agg (vb s).toArray, .agg (vb d).toArray] W fun e w' => e = .returned (.agg (vb (aheadT2 s d)).toArray) ∧ Keeps (fun _ => False) W w' := by
  have dlo : IsDig (s.take 32) := ⟨by rw [List.length_take, hs.1]; rfl, fun x hx => hs.2 x (List.mem_of_mem_take hx)⟩
  have dhi : IsDig (s.drop 32) := ⟨by rw [List.length_drop, hs.1], fun x hx => hs.2 x (List.mem_of_mem_drop hx)⟩
  obtain ⟨SV, hSV⟩ : ∃ V, V = vb (s) := ⟨_, rfl⟩
  obtain ⟨SLO, hSLO⟩ : ∃ V, V = vb (s.take 32) := ⟨_, rfl⟩
  obtain ⟨SHI, hSHI⟩ : ∃ V, V = vb (s.drop 32) := ⟨_, rfl⟩
  obtain ⟨EV, hEV⟩ : ∃ V, V = vb (d) := ⟨_, rfl⟩
  obtain ⟨DV, hDV⟩ : ∃ V, V = vb (d) := ⟨_, rfl⟩
  obtain ⟨PA, hPA⟩ : ∃ V, V = vb (pairF d (s.take 32)) := ⟨_, rfl⟩
  obtain ⟨PB, hPB⟩ : ∃ V, V = vb (pairF d (s.drop 32)) := ⟨_, rfl⟩
  obtain ⟨RV, hRV⟩ : ∃ V, V = vb ((aheadT2 s d)) := ⟨_, rfl⟩
  have HR1 : Hid (∀ u ∈ RV, u.oneCell' = true) := Lib.hid (by rw [hRV]; exact vb_one _)
  have HLOL : Hid (SLO.length = 32) := Lib.hid (by rw [hSLO, vb_length]; exact dlo.1)
  have HLOI : Hid ((Tryd.prog.info? 24).map (·.size) = some SLO.length) := Lib.hid (by rw [HLOL.out]; kernel_rfl)
  have HHIL : Hid (SHI.length = 32) := Lib.hid (by rw [hSHI, vb_length]; exact dhi.1)
  have HHII : Hid ((Tryd.prog.info? 24).map (·.size) = some SHI.length) := Lib.hid (by rw [HHIL.out]; kernel_rfl)
  have HDL : Hid (DV.length = 32) := Lib.hid (by rw [hDV, vb_length]; exact hd.1)
  have HDI : Hid ((Tryd.prog.info? 24).map (·.size) = some DV.length) := Lib.hid (by rw [HDL.out]; kernel_rfl)
  have HRL : Hid (RV.length = 64) := Lib.hid (by rw [hRV, vb_length]; exact (by unfold aheadT2; rw [List.length_append, (dig_pair _ _).1, (dig_pair _ _).1]))
  have HRI : Hid ((Tryd.prog.info? 95).map (·.size) = some RV.length) := Lib.hid (by rw [HRL.out]; kernel_rfl)
  obtain ⟨W3, hW3⟩ : ∃ W3, W3 = ((W.alloc (.cells SV.toArray 95)).alloc (.cells EV.toArray 24)).alloc (.cells (List.replicate 64 (Value.int .u8 0)).toArray 95) := ⟨_, rfl⟩
  have hk3 : Keeps (fun _ => False) W W3 := by rw [hW3]; exact (((Keeps.refl _ W).alloc _).alloc _).alloc _
  have HB1 : Hid (Blk W3 W.heap.size 95 SV) := Lib.hid (by rw [hW3]; exact ((Blk.new W _ _).alloc _).alloc _)
  have HB2 : Hid (Blk W3 (W.heap.size + 1) 24 EV) := Lib.hid (by
    have h5 := Blk.new (W.alloc (.cells SV.toArray 95)) 24 EV
    rw [World.size_alloc] at h5
    rw [hW3]; exact h5.alloc _)
  have HB3 : Hid (Blk W3 (W.heap.size + 1 + 1) 95 (List.replicate 64 (Value.int .u8 0))) := Lib.hid (by
    have h5 := Blk.new ((W.alloc (.cells SV.toArray 95)).alloc (.cells EV.toArray 24)) 95 (List.replicate 64 (Value.int .u8 0))
    rw [World.size_alloc, World.size_alloc] at h5
    rw [hW3]; exact h5)
  have hsv : ∀ j, SLO[j]? = if j < 32 then SV[j]? else none := fun j => by rw [hSLO, hSV, vb, vb, List.map_take, List.getElem?_take]
  have hsh : ∀ j, SHI[j]? = SV[32 + j]? := fun j => by rw [hSHI, hSV, vb, vb, List.map_drop, List.getElem?_drop]
  have HRlo : Hid (∀ X, Keeps (fun _ => False) W3 X → X.rangeAt W.heap.size 0 SLO) := Lib.hid fun X hX j v hv => by
    rw [Nat.zero_add, (hX.blk HB1.out (fun h => h)).cell]
    rw [hsv] at hv
    split at hv
    · exact hv
    · cases hv
  have HRhi : Hid (∀ X, Keeps (fun _ => False) W3 X → X.rangeAt W.heap.size 32 SHI) := Lib.hid fun X hX j v hv => by rw [(hX.blk HB1.out (fun h => h)).cell, ← hsh, hv]
  have HRd : Hid (∀ X, Keeps (fun _ => False) W3 X → X.rangeAt (W.heap.size + 1) 0 DV) := Lib.hid fun X hX j v hv => by rw [Nat.zero_add, (hX.blk HB2.out (fun h => h)).cell, hEV, ← hDV, hv]
  have HPa : Hid (∀ X, Keeps (fun _ => False) W3 X → Calls Tryd.prog 13 #[.agg DV.toArray, .agg SLO.toArray] X fun e w' => e = .returned (.agg PA.toArray) ∧ Keeps (fun _ => False) X w') := Lib.hid fun X hX => by
    rw [hPA, hDV, hSLO]
    exact pair_any X (hG.keep (hk3.trans hX (fun _ _ h => h)) (fun _ h => h.elim)) _ _ hd.1 dlo.1 hd.2 dlo.2
  have HPb : Hid (∀ X, Keeps (fun _ => False) W3 X → Calls Tryd.prog 13 #[.agg DV.toArray, .agg SHI.toArray] X fun e w' => e = .returned (.agg PB.toArray) ∧ Keeps (fun _ => False) X w') := Lib.hid fun X hX => by
    rw [hPB, hDV, hSHI]
    exact pair_any X (hG.keep (hk3.trans hX (fun _ _ h => h)) (fun _ h => h.elim)) _ _ hd.1 dhi.1 hd.2 dhi.2
  have HK3 := Lib.hid hk3
  have hbl1 := build_lo (pairF d (s.take 32)) (dig_pair _ _).1
  have hbl2 := build_hi (pairF d (s.take 32)) (pairF d (s.drop 32)) (dig_pair _ _).1 (dig_pair _ _).1
  rw [← hPA] at hbl1 hbl2
  rw [← hPB, show pairF d (s.take 32) ++ pairF d (s.drop 32) = aheadT2 s d from rfl, ← hRV] at hbl2
  have hPAl : PA.length = 32 := by rw [hPA, vb_length]; exact (dig_pair _ _).1
  have hPBl : PB.length = 32 := by rw [hPB, vb_length]; exact (dig_pair _ _).1
  obtain ⟨M1, hM1⟩ : ∃ M, M = (PA ++ vb (List.replicate 32 0)).toArray := ⟨_, rfl⟩
  have hM1s : M1.size = 64 := by rw [hM1]; simp [hPAl, vb]
  rw [← hM1] at hbl1 hbl2
  have HB1L := Lib.hid hbl1
  have HB2L := Lib.hid hbl2
  have HPAL := Lib.hid hPAl
  have HPBL := Lib.hid hPBl
  have HM1S := Lib.hid hM1s
  rw [← hSV, ← hEV, ← hRV]
  clear hsv hsh dlo dhi hs hd hG hSV hSLO hSHI hEV hDV hRV hPA hPB hbl1 hbl2 hM1 hM1s hPAl hPBl hk3
  go_enter Tryd.func59, Tryd.ntmps59
  go_wp2
  refine wp_region_last (S := Keeps (fun _ => False) W3) 9 (by kernel_rfl) (by rw [hW3]; exact (Keeps.refl (fun _ => False) _).drew) (fun hHeld => ?_)
  refine wpAnyZ_take (i := 0) (oi := ⟨some 5, _, _, _, _, _⟩) (v := _) rfl (by kernel_rfl) (by kernel_rfl) (by kernel_rfl) (by kernel_rfl) (fun _ _ _ h => h) (yieldsIf_load_mid (by rfl) _ _ rfl _ _ rfl DV _ (fun w' h => HRd.out _ h) Tryd.underlying24 rfl HDI.out) hHeld ?_
  try simp only [Act.put, List.setIfInBounds_toArray, List.set_cons_zero, List.set_cons_succ]
  refine wpAnyZ_take (i := 1) (oi := ⟨some 6, _, _, _, _, _⟩) (v := ?_) rfl (by kernel_rfl) (by kernel_rfl) (by kernel_rfl) (by kernel_rfl) (fun _ _ _ h => h) (Or.inl ⟨by rfl, ?_⟩) hHeld ?_
  rotate_left
  · intro w' hSw
    go_simp
    first | done | rfl
  try simp only [Act.put, List.setIfInBounds_toArray, List.set_cons_zero, List.set_cons_succ]
  refine wpAnyZ_take (i := 2) (oi := ⟨some 7, _, _, _, _, _⟩) (v := _) rfl (by kernel_rfl) (by kernel_rfl) (by kernel_rfl) (by kernel_rfl) (fun _ _ _ h => h) (yieldsIf_load_mid (by rfl) _ _ rfl _ _ rfl SLO _ (fun w' h => HRlo.out _ h) Tryd.underlying24 rfl HLOI.out) hHeld ?_
  try simp only [Act.put, List.setIfInBounds_toArray, List.set_cons_zero, List.set_cons_succ]
  refine wpAnyZ_take (i := 4) (oi := ⟨some 9, _, _, _, _, _⟩) (v := _) rfl (by kernel_rfl) (by kernel_rfl) (by kernel_rfl) (by kernel_rfl) (fun _ _ _ h => h) (yieldsIf_load_mid (by rfl) _ _ rfl _ _ rfl DV _ (fun w' h => HRd.out _ h) Tryd.underlying24 rfl HDI.out) hHeld ?_
  try simp only [Act.put, List.setIfInBounds_toArray, List.set_cons_zero, List.set_cons_succ]
  refine wpAnyZ_take (i := 5) (oi := ⟨some 10, _, _, _, _, _⟩) (v := ?_) rfl (by kernel_rfl) (by kernel_rfl) (by kernel_rfl) (by kernel_rfl) (fun _ _ _ h => h) (Or.inl ⟨by rfl, ?_⟩) hHeld ?_
  rotate_left
  · intro w' hSw
    go_simp
    first | done | rfl
  try simp only [Act.put, List.setIfInBounds_toArray, List.set_cons_zero, List.set_cons_succ]
  refine wpAnyZ_take (i := 6) (oi := ⟨some 11, _, _, _, _, _⟩) (v := _) rfl (by kernel_rfl) (by kernel_rfl) (by kernel_rfl) (by kernel_rfl) (fun _ _ _ h => h) (yieldsIf_load_mid (by rfl) _ _ rfl _ _ rfl SHI _ (fun w' h => HRhi.out _ h) Tryd.underlying24 rfl HHII.out) hHeld ?_
  try simp only [Act.put, List.setIfInBounds_toArray, List.set_cons_zero, List.set_cons_succ]
  refine wpAnyZ_step (i := 3) (o := ⟨some 8, _, _, _, _, _⟩) (by kernel_rfl) rfl (fun K hK => ?_)
  go_simp
  refine (HPa.out _ hHeld).mono ?_
  rintro e v3 ⟨rfl, hk3'⟩
  have hq3 := hHeld.trans hk3' (fun _ _ h => h)
  refine hK.out _ _ hq3 (fun hHeld => ?_)
  clear hK K
  try simp only [Act.put, List.setIfInBounds_toArray, List.set_cons_zero, List.set_cons_succ]
  refine wpAnyZ_step (i := 7) (o := ⟨some 12, _, _, _, _, _⟩) (by kernel_rfl) rfl (fun K hK => ?_)
  go_simp
  refine (HPb.out _ hHeld).mono ?_
  rintro e v7 ⟨rfl, hk7⟩
  have hq7 := hHeld.trans hk7 (fun _ _ h => h)
  refine hK.out _ _ hq7 (fun hHeld => ?_)
  clear hK K
  try simp only [Act.put, List.setIfInBounds_toArray, List.set_cons_zero, List.set_cons_succ]
  refine wpAnyZ_take (i := 8) (oi := ⟨some 13, _, _, _, _, _⟩) (v := ?_) rfl (by kernel_rfl) (by kernel_rfl) (by kernel_rfl) (by kernel_rfl) (fun _ _ _ h => h) (Or.inl ⟨by rfl, ?_⟩) hHeld ?_
  rotate_left
  · intro w' hSw
    have cv1 := HB1L.out; have cv2 := HB2L.out; have cv3 := HPAL.out; have cv4 := HPBL.out; have cv5 := HM1S.out
    go_simp
    first | done | rfl
  try simp only [Act.put, List.setIfInBounds_toArray, List.set_cons_zero, List.set_cons_succ]
  refine wpAnyZ_last (o := ⟨none, _, _, _, _, _⟩) (by kernel_rfl) (by kernel_rfl) rfl (fun K hK => ?_)
  refine stepH_store rfl 95 _ _ rfl RV rfl rfl (hHeld.blk HB3.out (fun h => h)) (by rw [HRL.out]; simp) HRI.out HR1.out ?_
  refine hK.out _ _ ?_
  clear hK K
  try simp only [Act.put, List.setIfInBounds_toArray, List.set_cons_zero, List.set_cons_succ]
  go_wp2
  refine bodyPost_ret (results_blk rfl _ _ rfl ((hq7.blk HB3.out (fun h => h)).setRow RV) Tryd.underlying95 rfl HRI.out) rfl ⟨rfl, (HK3.out.trans hq7 (fun _ _ h => h)).setRow (.inr (by omega)) _⟩
theorem of_drop (d : List Int) : (ofT2 d).drop 32 = d := by unfold ofT2; rw [List.drop_left' (by simp)]
set_option maxRecDepth 100000 in
set_option maxHeartbeats 2000000 in
theorem joinT_any (W : World) (hG : Glob W) (s d : List Int) (hs : s.length = 64 ∧ IsBytes s) (hd : IsDig d) : Calls Tryd.prog 57 #[.agg (vb s).toArray, .agg (vb (ofT2 d)).toArray] W fun e w' => e = .returned (.agg (vb (joinT2 s (ofT2 d))).toArray) ∧ Keeps (fun _ => False) W w' := by
  have dlo : IsDig (s.take 32) := ⟨by rw [List.length_take, hs.1]; rfl, fun x hx => hs.2 x (List.mem_of_mem_take hx)⟩
  have dhi : IsDig (s.drop 32) := ⟨by rw [List.length_drop, hs.1], fun x hx => hs.2 x (List.mem_of_mem_drop hx)⟩
  obtain ⟨SV, hSV⟩ : ∃ V, V = vb (s) := ⟨_, rfl⟩
  obtain ⟨SLO, hSLO⟩ : ∃ V, V = vb (s.take 32) := ⟨_, rfl⟩
  obtain ⟨SHI, hSHI⟩ : ∃ V, V = vb (s.drop 32) := ⟨_, rfl⟩
  obtain ⟨EV, hEV⟩ : ∃ V, V = vb ((ofT2 d)) := ⟨_, rfl⟩
  obtain ⟨DV, hDV⟩ : ∃ V, V = vb (d) := ⟨_, rfl⟩
  obtain ⟨PB, hPB⟩ : ∃ V, V = vb (pairF (s.drop 32) d) := ⟨_, rfl⟩
  obtain ⟨RV, hRV⟩ : ∃ V, V = vb ((joinT2 s (ofT2 d))) := ⟨_, rfl⟩
  have HR1 : Hid (∀ u ∈ RV, u.oneCell' = true) := Lib.hid (by rw [hRV]; exact vb_one _)
  have HLOL : Hid (SLO.length = 32) := Lib.hid (by rw [hSLO, vb_length]; exact dlo.1)
  have HLOI : Hid ((Tryd.prog.info? 24).map (·.size) = some SLO.length) := Lib.hid (by rw [HLOL.out]; kernel_rfl)
  have HHIL : Hid (SHI.length = 32) := Lib.hid (by rw [hSHI, vb_length]; exact dhi.1)
  have HHII : Hid ((Tryd.prog.info? 24).map (·.size) = some SHI.length) := Lib.hid (by rw [HHIL.out]; kernel_rfl)
  have HDL : Hid (DV.length = 32) := Lib.hid (by rw [hDV, vb_length]; exact hd.1)
  have HDI : Hid ((Tryd.prog.info? 24).map (·.size) = some DV.length) := Lib.hid (by rw [HDL.out]; kernel_rfl)
  have HRL : Hid (RV.length = 64) := Lib.hid (by rw [hRV, vb_length]; exact (by unfold joinT2; rw [List.length_append, dlo.1, (dig_pair _ _).1]))
  have HRI : Hid ((Tryd.prog.info? 95).map (·.size) = some RV.length) := Lib.hid (by rw [HRL.out]; kernel_rfl)
  obtain ⟨W3, hW3⟩ : ∃ W3, W3 = ((W.alloc (.cells SV.toArray 95)).alloc (.cells EV.toArray 95)).alloc (.cells (List.replicate 64 (Value.int .u8 0)).toArray 95) := ⟨_, rfl⟩
  have hk3 : Keeps (fun _ => False) W W3 := by rw [hW3]; exact (((Keeps.refl _ W).alloc _).alloc _).alloc _
  have HB1 : Hid (Blk W3 W.heap.size 95 SV) := Lib.hid (by rw [hW3]; exact ((Blk.new W _ _).alloc _).alloc _)
  have HB2 : Hid (Blk W3 (W.heap.size + 1) 95 EV) := Lib.hid (by
    have h5 := Blk.new (W.alloc (.cells SV.toArray 95)) 95 EV
    rw [World.size_alloc] at h5
    rw [hW3]; exact h5.alloc _)
  have HB3 : Hid (Blk W3 (W.heap.size + 1 + 1) 95 (List.replicate 64 (Value.int .u8 0))) := Lib.hid (by
    have h5 := Blk.new ((W.alloc (.cells SV.toArray 95)).alloc (.cells EV.toArray 95)) 95 (List.replicate 64 (Value.int .u8 0))
    rw [World.size_alloc, World.size_alloc] at h5
    rw [hW3]; exact h5)
  have hsv : ∀ j, SLO[j]? = if j < 32 then SV[j]? else none := fun j => by rw [hSLO, hSV, vb, vb, List.map_take, List.getElem?_take]
  have hsh : ∀ j, SHI[j]? = SV[32 + j]? := fun j => by rw [hSHI, hSV, vb, vb, List.map_drop, List.getElem?_drop]
  have HRlo : Hid (∀ X, Keeps (fun _ => False) W3 X → X.rangeAt W.heap.size 0 SLO) := Lib.hid fun X hX j v hv => by
    rw [Nat.zero_add, (hX.blk HB1.out (fun h => h)).cell]
    rw [hsv] at hv
    split at hv
    · exact hv
    · cases hv
  have HRhi : Hid (∀ X, Keeps (fun _ => False) W3 X → X.rangeAt W.heap.size 32 SHI) := Lib.hid fun X hX j v hv => by rw [(hX.blk HB1.out (fun h => h)).cell, ← hsh, hv]
  have HRd : Hid (∀ X, Keeps (fun _ => False) W3 X → X.rangeAt (W.heap.size + 1) 32 DV) := Lib.hid fun X hX j v hv => by
    rw [(hX.blk HB2.out (fun h => h)).cell, hEV, ofT2, vb_app, List.getElem?_append_right (by rw [vb_length]; simp), vb_length, List.length_replicate, Nat.add_sub_cancel_left, ← hDV, hv]
  have HPb : Hid (∀ X, Keeps (fun _ => False) W3 X → Calls Tryd.prog 13 #[.agg SHI.toArray, .agg DV.toArray] X fun e w' => e = .returned (.agg PB.toArray) ∧ Keeps (fun _ => False) X w') := Lib.hid fun X hX => by
    rw [hPB, hSHI, hDV]
    exact pair_any X (hG.keep (hk3.trans hX (fun _ _ h => h)) (fun _ h => h.elim)) _ _ dhi.1 hd.1 dhi.2 hd.2
  have HK3 := Lib.hid hk3
  have hbl1 := build_lo (s.take 32) dlo.1
  have hbl2 := build_hi (s.take 32) (pairF (s.drop 32) d) dlo.1 (dig_pair _ _).1
  rw [← hSLO] at hbl1 hbl2
  rw [← hPB, show s.take 32 ++ pairF (s.drop 32) d = joinT2 s (ofT2 d) by (unfold joinT2; rw [of_drop]), ← hRV] at hbl2
  have hPAl : SLO.length = 32 := by rw [hSLO, vb_length]; exact dlo.1
  have hPBl : PB.length = 32 := by rw [hPB, vb_length]; exact (dig_pair _ _).1
  obtain ⟨M1, hM1⟩ : ∃ M, M = (SLO ++ vb (List.replicate 32 0)).toArray := ⟨_, rfl⟩
  have hM1s : M1.size = 64 := by rw [hM1]; simp [hPAl, vb]
  rw [← hM1] at hbl1 hbl2
  have HB1L := Lib.hid hbl1
  have HB2L := Lib.hid hbl2
  have HPAL := Lib.hid hPAl
  have HPBL := Lib.hid hPBl
  have HM1S := Lib.hid hM1s
  rw [← hSV, ← hEV, ← hRV]
  clear hsv hsh dlo dhi hs hd hG hSV hSLO hSHI hEV hDV hRV hPB hbl1 hbl2 hM1 hM1s hPAl hPBl hk3
  go_enter Tryd.func57, Tryd.ntmps57
  go_wp2
  refine wp_region_last (S := Keeps (fun _ => False) W3) 8 (by kernel_rfl) (by rw [hW3]; exact (Keeps.refl (fun _ => False) _).drew) (fun hHeld => ?_)
  refine wpAnyZ_take (i := 0) (oi := ⟨some 5, _, _, _, _, _⟩) (v := ?_) rfl (by kernel_rfl) (by kernel_rfl) (by kernel_rfl) (by kernel_rfl) (fun _ _ _ h => h) (Or.inl ⟨by rfl, ?_⟩) hHeld ?_
  rotate_left
  · intro w' hSw
    go_simp
    first | done | rfl
  try simp only [Act.put, List.setIfInBounds_toArray, List.set_cons_zero, List.set_cons_succ]
  refine wpAnyZ_take (i := 1) (oi := ⟨some 6, _, _, _, _, _⟩) (v := _) rfl (by kernel_rfl) (by kernel_rfl) (by kernel_rfl) (by kernel_rfl) (fun _ _ _ h => h) (yieldsIf_load_mid (by rfl) _ _ rfl _ _ rfl SLO _ (fun w' h => HRlo.out _ h) Tryd.underlying24 rfl HLOI.out) hHeld ?_
  try simp only [Act.put, List.setIfInBounds_toArray, List.set_cons_zero, List.set_cons_succ]
  refine wpAnyZ_take (i := 2) (oi := ⟨some 7, _, _, _, _, _⟩) (v := ?_) rfl (by kernel_rfl) (by kernel_rfl) (by kernel_rfl) (by kernel_rfl) (fun _ _ _ h => h) (Or.inl ⟨by rfl, ?_⟩) hHeld ?_
  rotate_left
  · intro w' hSw
    go_simp
    first | done | rfl
  try simp only [Act.put, List.setIfInBounds_toArray, List.set_cons_zero, List.set_cons_succ]
  refine wpAnyZ_take (i := 3) (oi := ⟨some 8, _, _, _, _, _⟩) (v := _) rfl (by kernel_rfl) (by kernel_rfl) (by kernel_rfl) (by kernel_rfl) (fun _ _ _ h => h) (yieldsIf_load_mid (by rfl) _ _ rfl _ _ rfl SHI _ (fun w' h => HRhi.out _ h) Tryd.underlying24 rfl HHII.out) hHeld ?_
  try simp only [Act.put, List.setIfInBounds_toArray, List.set_cons_zero, List.set_cons_succ]
  refine wpAnyZ_take (i := 4) (oi := ⟨some 9, _, _, _, _, _⟩) (v := ?_) rfl (by kernel_rfl) (by kernel_rfl) (by kernel_rfl) (by kernel_rfl) (fun _ _ _ h => h) (Or.inl ⟨by rfl, ?_⟩) hHeld ?_
  rotate_left
  · intro w' hSw
    go_simp
    first | done | rfl
  try simp only [Act.put, List.setIfInBounds_toArray, List.set_cons_zero, List.set_cons_succ]
  refine wpAnyZ_take (i := 5) (oi := ⟨some 10, _, _, _, _, _⟩) (v := _) rfl (by kernel_rfl) (by kernel_rfl) (by kernel_rfl) (by kernel_rfl) (fun _ _ _ h => h) (yieldsIf_load_mid (by rfl) _ _ rfl _ _ rfl DV _ (fun w' h => HRd.out _ h) Tryd.underlying24 rfl HDI.out) hHeld ?_
  try simp only [Act.put, List.setIfInBounds_toArray, List.set_cons_zero, List.set_cons_succ]
  refine wpAnyZ_step (i := 6) (o := ⟨some 11, _, _, _, _, _⟩) (by kernel_rfl) rfl (fun K hK => ?_)
  go_simp
  refine (HPb.out _ hHeld).mono ?_
  rintro e v6 ⟨rfl, hk6⟩
  have hq6 := hHeld.trans hk6 (fun _ _ h => h)
  refine hK.out _ _ hq6 (fun hHeld => ?_)
  clear hK K
  try simp only [Act.put, List.setIfInBounds_toArray, List.set_cons_zero, List.set_cons_succ]
  refine wpAnyZ_take (i := 7) (oi := ⟨some 12, _, _, _, _, _⟩) (v := ?_) rfl (by kernel_rfl) (by kernel_rfl) (by kernel_rfl) (by kernel_rfl) (fun _ _ _ h => h) (Or.inl ⟨by rfl, ?_⟩) hHeld ?_
  rotate_left
  · intro w' hSw
    have cv1 := HB1L.out; have cv2 := HB2L.out; have cv3 := HPAL.out; have cv4 := HPBL.out; have cv5 := HM1S.out
    go_simp
    first | done | rfl
  try simp only [Act.put, List.setIfInBounds_toArray, List.set_cons_zero, List.set_cons_succ]
  refine wpAnyZ_last (o := ⟨none, _, _, _, _, _⟩) (by kernel_rfl) (by kernel_rfl) rfl (fun K hK => ?_)
  refine stepH_store rfl 95 _ _ rfl RV rfl rfl (hHeld.blk HB3.out (fun h => h)) (by rw [HRL.out]; simp) HRI.out HR1.out ?_
  refine hK.out _ _ ?_
  clear hK K
  try simp only [Act.put, List.setIfInBounds_toArray, List.set_cons_zero, List.set_cons_succ]
  go_wp2
  refine bodyPost_ret (results_blk rfl _ _ rfl ((hq6.blk HB3.out (fun h => h)).setRow RV) Tryd.underlying95 rfl HRI.out) rfl ⟨rfl, (HK3.out.trans hq6 (fun _ _ h => h)).setRow (.inr (by omega)) _⟩
end Go.Proofs.YtknecjjdegngfaaDoor
