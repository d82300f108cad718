/-
  WALKS: pairs of roots: of, join, ahead; the climb over them; their ==.
-/
import Derived.Test.YtknecjjdegngfaaDoorCEntryW
set_option linter.unusedSimpArgs false
namespace Go.Aff
open Go Go.RowKit Go.Sha
/-- What a struct's building writes of an array's cells. -/
theorem build_list2 (o : Nat) (l : List Value) : ∀ (k : Nat) (z : Array Value), o + k + l.length ≤ z.size → List.foldl (fun (cs : Array Value) (x : Value × Nat) => cs.setIfInBounds (o + x.2) x.1) z (l.zipIdx k) = (splice z.toList (o + k) l).toArray := by
  induction l with
  | nil => intro k z h; simp [splice]
  | cons v l ih =>
    intro k z h
    simp only [List.length_cons] at h
    rw [List.zipIdx_cons, List.foldl_cons, ih (k + 1) _ (by simp; omega)]
    have hk : o + k < z.toList.length := by simp; omega
    simp only [Array.toList_setIfInBounds]
    congr 1
    unfold splice
    have e1 : (z.toList.set (o + k) v).take (o + (k + 1)) = z.toList.take (o + k) ++ [v] := by
      rw [← Nat.add_assoc, List.take_add_one, List.getElem?_set_self hk, List.take_set_of_le (Nat.le_refl _)]
      rfl
    have e2 : (z.toList.set (o + k) v).drop (o + (k + 1) + l.length) = z.toList.drop (o + k + (v :: l).length) := by
      rw [List.drop_set_of_lt (by omega), List.length_cons]
      congr 1
      omega
    rw [e1, e2]
    simp
theorem build_array2 (o : Nat) (l : List Value) (z : Array Value) (h : o + l.length ≤ z.size) : Array.foldl (fun (cs : Array Value) x => cs.setIfInBounds (o + x.2) x.1) z l.toArray.zipIdx 0 l.toArray.size = (splice z.toList o l).toArray := by
  have := build_list2 o l 0 z (by omega)
  rw [Nat.add_zero] at this
  rw [← this]
  simp
theorem splice_lo {a b l : List Value} (h : l.length = a.length) : splice (a ++ b) 0 l = l ++ b := by
  unfold splice
  simp [h]
theorem splice_hi {a b l : List Value} (h : l.length = b.length) : splice (a ++ b) a.length l = a ++ l := by
  unfold splice
  simp [h]
end Go.Aff
namespace Go.Book
open Go Go.Aff Go.Sha
def joinT2 (s d : List Int) : List Int := s.take 32 ++ pairF (s.drop 32) (d.drop 32)
def ofT2 (d : List Int) : List Int := List.replicate 32 0 ++ d
def aheadT2 (s d : List Int) : List Int := pairF d (s.take 32) ++ pairF d (s.drop 32)
end Go.Book
namespace Go.Proofs.YtknecjjdegngfaaDoor
open Go Go.RowKit Go.Sha Go.Aff Go.Book
theorem vb_app (a b : List Int) : vb (a ++ b) = vb a ++ vb b := List.map_append
theorem build_of (d : List Int) (hd : d.length = 32) : List.foldl (fun (cs : Array Value) (x : Value × Nat) => cs.setIfInBounds (32 + x.2) x.1) #[Value.int .u8 0, Value.int .u8 0, Value.int .u8 0, Value.int .u8 0, Value.int .u8 0, Value.int .u8 0, Value.int .u8 0, Value.int .u8 0, Value.int .u8 0, Value.int .u8 0, Value.int .u8 0, Value.int .u8 0, Value.int .u8 0, Value.int .u8 0, Value.int .u8 0, Value.int .u8 0, Value.int .u8 0, Value.int .u8 0, Value.int .u8 0, Value.int .u8 0, Value.int .u8 0, Value.int .u8 0, Value.int .u8 0, Value.int .u8 0, Value.int .u8 0, Value.int .u8 0, Value.int .u8 0, Value.int .u8 0, Value.int .u8 0, Value.int .u8 0, Value.int .u8 0, Value.int .u8 0, Value.int .u8 0, Value.int .u8 0, Value.int .u8 0, Value.int .u8 0, Value.int .u8 0, Value.int .u8 0, Value.int .u8 0, Value.int .u8 0, Value.int .u8 0, Value.int .u8 0, Value.int .u8 0, Value.int .u8 0, Value.int .u8 0, Value.int .u8 0, Value.int .u8 0, Value.int .u8 0, Value.int .u8 0, Value.int .u8 0, Value.int .u8 0, Value.int .u8 0, Value.int .u8 0, Value.int .u8 0, Value.int .u8 0, Value.int .u8 0, Value.int .u8 0, Value.int .u8 0, Value.int .u8 0, Value.int .u8 0, Value.int .u8 0, Value.int .u8 0, Value.int .u8 0, Value.int .u8 0] (vb d).zipIdx = (vb (ofT2 d)).toArray := by
  have h9 := build_list2 32 (vb d) 0 #[Value.int .u8 0, Value.int .u8 0, Value.int .u8 0, Value.int .u8 0, Value.int .u8 0, Value.int .u8 0, Value.int .u8 0, Value.int .u8 0, Value.int .u8 0, Value.int .u8 0, Value.int .u8 0, Value.int .u8 0, Value.int .u8 0, Value.int .u8 0, Value.int .u8 0, Value.int .u8 0, Value.int .u8 0, Value.int .u8 0, Value.int .u8 0, Value.int .u8 0, Value.int .u8 0, Value.int .u8 0, Value.int .u8 0, Value.int .u8 0, Value.int .u8 0, Value.int .u8 0, Value.int .u8 0, Value.int .u8 0, Value.int .u8 0, Value.int .u8 0, Value.int .u8 0, Value.int .u8 0, Value.int .u8 0, Value.int .u8 0, Value.int .u8 0, Value.int .u8 0, Value.int .u8 0, Value.int .u8 0, Value.int .u8 0, Value.int .u8 0, Value.int .u8 0, Value.int .u8 0, Value.int .u8 0, Value.int .u8 0, Value.int .u8 0, Value.int .u8 0, Value.int .u8 0, Value.int .u8 0, Value.int .u8 0, Value.int .u8 0, Value.int .u8 0, Value.int .u8 0, Value.int .u8 0, Value.int .u8 0, Value.int .u8 0, Value.int .u8 0, Value.int .u8 0, Value.int .u8 0, Value.int .u8 0, Value.int .u8 0, Value.int .u8 0, Value.int .u8 0, Value.int .u8 0, Value.int .u8 0] (by rw [vb_length, hd]; decide)
  rw [Nat.add_zero] at h9
  rw [h9]
  have h8 := splice_hi (a := vb (List.replicate 32 0)) (b := vb (List.replicate 32 0)) (l := vb d) (by rw [vb_length, vb_length, hd]; rfl)
  rw [show (vb (List.replicate 32 0)).length = 32 from rfl] at h8
  rw [ofT2, vb_app, ← h8]
  rfl
theorem build_lo (a : List Int) (ha : a.length = 32) : List.foldl (fun (cs : Array Value) (x : Value × Nat) => cs.setIfInBounds x.2 x.1) #[Value.int .u8 0, Value.int .u8 0, Value.int .u8 0, Value.int .u8 0, Value.int .u8 0, Value.int .u8 0, Value.int .u8 0, Value.int .u8 0, Value.int .u8 0, Value.int .u8 0, Value.int .u8 0, Value.int .u8 0, Value.int .u8 0, Value.int .u8 0, Value.int .u8 0, Value.int .u8 0, Value.int .u8 0, Value.int .u8 0, Value.int .u8 0, Value.int .u8 0, Value.int .u8 0, Value.int .u8 0, Value.int .u8 0, Value.int .u8 0, Value.int .u8 0, Value.int .u8 0, Value.int .u8 0, Value.int .u8 0, Value.int .u8 0, Value.int .u8 0, Value.int .u8 0, Value.int .u8 0, Value.int .u8 0, Value.int .u8 0, Value.int .u8 0, Value.int .u8 0, Value.int .u8 0, Value.int .u8 0, Value.int .u8 0, Value.int .u8 0, Value.int .u8 0, Value.int .u8 0, Value.int .u8 0, Value.int .u8 0, Value.int .u8 0, Value.int .u8 0, Value.int .u8 0, Value.int .u8 0, Value.int .u8 0, Value.int .u8 0, Value.int .u8 0, Value.int .u8 0, Value.int .u8 0, Value.int .u8 0, Value.int .u8 0, Value.int .u8 0, Value.int .u8 0, Value.int .u8 0, Value.int .u8 0, Value.int .u8 0, Value.int .u8 0, Value.int .u8 0, Value.int .u8 0, Value.int .u8 0] (vb a).zipIdx = (vb a ++ vb (List.replicate 32 0)).toArray := by
  have h9 := build_list2 0 (vb a) 0 #[Value.int .u8 0, Value.int .u8 0, Value.int .u8 0, Value.int .u8 0, Value.int .u8 0, Value.int .u8 0, Value.int .u8 0, Value.int .u8 0, Value.int .u8 0, Value.int .u8 0, Value.int .u8 0, Value.int .u8 0, Value.int .u8 0, Value.int .u8 0, Value.int .u8 0, Value.int .u8 0, Value.int .u8 0, Value.int .u8 0, Value.int .u8 0, Value.int .u8 0, Value.int .u8 0, Value.int .u8 0, Value.int .u8 0, Value.int .u8 0, Value.int .u8 0, Value.int .u8 0, Value.int .u8 0, Value.int .u8 0, Value.int .u8 0, Value.int .u8 0, Value.int .u8 0, Value.int .u8 0, Value.int .u8 0, Value.int .u8 0, Value.int .u8 0, Value.int .u8 0, Value.int .u8 0, Value.int .u8 0, Value.int .u8 0, Value.int .u8 0, Value.int .u8 0, Value.int .u8 0, Value.int .u8 0, Value.int .u8 0, Value.int .u8 0, Value.int .u8 0, Value.int .u8 0, Value.int .u8 0, Value.int .u8 0, Value.int .u8 0, Value.int .u8 0, Value.int .u8 0, Value.int .u8 0, Value.int .u8 0, Value.int .u8 0, Value.int .u8 0, Value.int .u8 0, Value.int .u8 0, Value.int .u8 0, Value.int .u8 0, Value.int .u8 0, Value.int .u8 0, Value.int .u8 0, Value.int .u8 0] (by rw [vb_length, ha]; decide)
  simp only [Nat.zero_add] at h9
  rw [h9]
  rw [← splice_lo (a := vb (List.replicate 32 0)) (b := vb (List.replicate 32 0)) (l := vb a) (by rw [vb_length, vb_length, ha]; rfl)]
  rfl
theorem build_hi (a b : List Int) (ha : a.length = 32) (hb : b.length = 32) : List.foldl (fun (cs : Array Value) (x : Value × Nat) => cs.setIfInBounds (32 + x.2) x.1) (vb a ++ vb (List.replicate 32 0)).toArray (vb b).zipIdx = (vb (a ++ b)).toArray := by
  have h9 := build_list2 32 (vb b) 0 (vb a ++ vb (List.replicate 32 0)).toArray (by rw [vb_length, hb]; simp [vb, ha])
  rw [Nat.add_zero] at h9
  rw [h9]
  have h8 := splice_hi (a := vb a) (b := vb (List.replicate 32 0)) (l := vb b) (by rw [vb_length, vb_length, hb]; rfl)
  rw [vb_length, ha] at h8
  simp only [h8, vb_app]
set_option maxRecDepth 100000 in
set_option maxHeartbeats 1000000 in
theorem ofT_any (W : World) (d : List Int) (hd : IsDig d) : Calls Tryd.prog 58 #[.agg (vb d).toArray] W fun e w' => e = .returned (.agg (vb (ofT2 d)).toArray) ∧ Keeps (fun _ => False) W w' := by
  have hb := build_of d hd.1
  obtain ⟨DV, hDV⟩ : ∃ V, V = vb (d) := ⟨_, rfl⟩
  obtain ⟨RV, hRV⟩ : ∃ V, V = vb (ofT2 d) := ⟨_, rfl⟩
  have HR1 : Hid (∀ u ∈ RV, u.oneCell' = true) := Lib.hid (by rw [hRV]; exact vb_one _)
  have HDL : Hid (DV.length = 32) := Lib.hid (by rw [hDV, vb_length]; exact hd.1)
  have HDI : Hid ((Tryd.prog.info? 24).map (·.size) = some DV.length) := Lib.hid (by rw [HDL.out]; kernel_rfl)
  have HRL : Hid (RV.length = 64) := Lib.hid (by rw [hRV, vb_length]; exact (by unfold ofT2; rw [List.length_append, hd.1]; rfl))
  have HRI : Hid ((Tryd.prog.info? 95).map (·.size) = some RV.length) := Lib.hid (by rw [HRL.out]; kernel_rfl)
  have HB1 : Hid (Blk ((W.alloc (.cells DV.toArray 24)).alloc (.cells (List.replicate 64 (Value.int .u8 0)).toArray 95)) W.heap.size 24 DV) := Lib.hid ((Blk.new W _ _).alloc _)
  have HB2 : Hid (Blk ((W.alloc (.cells DV.toArray 24)).alloc (.cells (List.replicate 64 (Value.int .u8 0)).toArray 95)) (W.heap.size + 1) 95 (List.replicate 64 (Value.int .u8 0))) := Lib.hid (by
    have h5 := Blk.new (W.alloc (.cells DV.toArray 24)) 95 (List.replicate 64 (Value.int .u8 0))
    rwa [World.size_alloc] at h5)
  rw [← hDV, ← hRV] at hb
  have hDl : DV.length = 32 := HDL.out
  rw [← hDV, ← hRV]
  clear hDV hRV hd
  go_enter Tryd.func58, Tryd.ntmps58
  go_wp2_with (first
    | ((with_reducible show wpList _ _ _ (⟨_, Op.load 24 _, _, _, _, _⟩ :: _) _ _); refine wpList_load_whole rfl 24 _ rfl _ rfl HB1.out Tryd.underlying24 rfl HDI.out ?_)
    | ((with_reducible show wpList _ _ _ (⟨none, Op.store 95 _ _, _, _, _, _⟩ :: _) _ _); refine wpList_store_whole rfl 95 _ _ rfl RV rfl rfl HB2.out (by rw [HRL.out]; simp) HRI.out HR1.out ?_))
  refine bodyPost_ret (results_blk rfl _ _ rfl (HB2.out.setRow RV) Tryd.underlying95 rfl HRI.out) rfl ⟨rfl, (((Keeps.refl _ W).alloc _).alloc _).setRow (.inr (by omega)) _⟩
set_option maxRecDepth 100000 in
set_option maxHeartbeats 2000000 in
theorem aheadT_any (W : World) (hG : Glob W) (s d : List Int) (hs : s.length = 64 ∧ IsBytes s) (hd : IsDig d) : Calls Tryd.prog 59 #[.agg (vb s).toArray, .agg (vb d).toArray] W fun e w' => e = .returned (.agg (vb (aheadT2 s d)).toArray) ∧ Keeps (fun _ => False) W w' := by
  have dlo : IsDig (s.take 32) := ⟨by rw [List.length_take, hs.1]; rfl, fun x hx => hs.2 x (List.mem_of_mem_take hx)⟩
  have dhi : IsDig (s.drop 32) := ⟨by rw [List.length_drop, hs.1], fun x hx => hs.2 x (List.mem_of_mem_drop hx)⟩
  obtain ⟨SV, hSV⟩ : ∃ V, V = vb (s) := ⟨_, rfl⟩
  obtain ⟨SLO, hSLO⟩ : ∃ V, V = vb (s.take 32) := ⟨_, rfl⟩
  obtain ⟨SHI, hSHI⟩ : ∃ V, V = vb (s.drop 32) := ⟨_, rfl⟩
  obtain ⟨EV, hEV⟩ : ∃ V, V = vb (d) := ⟨_, rfl⟩
  obtain ⟨DV, hDV⟩ : ∃ V, V = vb (d) := ⟨_, rfl⟩
  obtain ⟨PA, hPA⟩ : ∃ V, V = vb (pairF d (s.take 32)) := ⟨_, rfl⟩
  obtain ⟨PB, hPB⟩ : ∃ V, V = vb (pairF d (s.drop 32)) := ⟨_, rfl⟩
  obtain ⟨RV, hRV⟩ : ∃ V, V = vb ((aheadT2 s d)) := ⟨_, rfl⟩
  have HR1 : Hid (∀ u ∈ RV, u.oneCell' = true) := Lib.hid (by rw [hRV]; exact vb_one _)
  have HLOL : Hid (SLO.length = 32) := Lib.hid (by rw [hSLO, vb_length]; exact dlo.1)
  have HLOI : Hid ((Tryd.prog.info? 24).map (·.size) = some SLO.length) := Lib.hid (by rw [HLOL.out]; kernel_rfl)
  have HHIL : Hid (SHI.length = 32) := Lib.hid (by rw [hSHI, vb_length]; exact dhi.1)
  have HHII : Hid ((Tryd.prog.info? 24).map (·.size) = some SHI.length) := Lib.hid (by rw [HHIL.out]; kernel_rfl)
  have HDL : Hid (DV.length = 32) := Lib.hid (by rw [hDV, vb_length]; exact hd.1)
  have HDI : Hid ((Tryd.prog.info? 24).map (·.size) = some DV.length) := Lib.hid (by rw [HDL.out]; kernel_rfl)
  have HRL : Hid (RV.length = 64) := Lib.hid (by rw [hRV, vb_length]; exact (by unfold aheadT2; rw [List.length_append, (dig_pair _ _).1, (dig_pair _ _).1]))
  have HRI : Hid ((Tryd.prog.info? 95).map (·.size) = some RV.length) := Lib.hid (by rw [HRL.out]; kernel_rfl)
  obtain ⟨W3, hW3⟩ : ∃ W3, W3 = ((W.alloc (.cells SV.toArray 95)).alloc (.cells EV.toArray 24)).alloc (.cells (List.replicate 64 (Value.int .u8 0)).toArray 95) := ⟨_, rfl⟩
  have hk3 : Keeps (fun _ => False) W W3 := by rw [hW3]; exact (((Keeps.refl _ W).alloc _).alloc _).alloc _
  have HB1 : Hid (Blk W3 W.heap.size 95 SV) := Lib.hid (by rw [hW3]; exact ((Blk.new W _ _).alloc _).alloc _)
  have HB2 : Hid (Blk W3 (W.heap.size + 1) 24 EV) := Lib.hid (by
    have h5 := Blk.new (W.alloc (.cells SV.toArray 95)) 24 EV
    rw [World.size_alloc] at h5
    rw [hW3]; exact h5.alloc _)
  have HB3 : Hid (Blk W3 (W.heap.size + 1 + 1) 95 (List.replicate 64 (Value.int .u8 0))) := Lib.hid (by
    have h5 := Blk.new ((W.alloc (.cells SV.toArray 95)).alloc (.cells EV.toArray 24)) 95 (List.replicate 64 (Value.int .u8 0))
    rw [World.size_alloc, World.size_alloc] at h5
    rw [hW3]; exact h5)
  have hsv : ∀ j, SLO[j]? = if j < 32 then SV[j]? else none := fun j => by rw [hSLO, hSV, vb, vb, List.map_take, List.getElem?_take]
  have hsh : ∀ j, SHI[j]? = SV[32 + j]? := fun j => by rw [hSHI, hSV, vb, vb, List.map_drop, List.getElem?_drop]
  have HRlo : Hid (∀ X, Keeps (fun _ => False) W3 X → X.rangeAt W.heap.size 0 SLO) := Lib.hid fun X hX j v hv => by
    rw [Nat.zero_add, (hX.blk HB1.out (fun h => h)).cell]
    rw [hsv] at hv
    split at hv
    · exact hv
    · cases hv
  have HRhi : Hid (∀ X, Keeps (fun _ => False) W3 X → X.rangeAt W.heap.size 32 SHI) := Lib.hid fun X hX j v hv => by rw [(hX.blk HB1.out (fun h => h)).cell, ← hsh, hv]
  have HRd : Hid (∀ X, Keeps (fun _ => False) W3 X → X.rangeAt (W.heap.size + 1) 0 DV) := Lib.hid fun X hX j v hv => by rw [Nat.zero_add, (hX.blk HB2.out (fun h => h)).cell, hEV, ← hDV, hv]
  have HPa : Hid (∀ X, Keeps (fun _ => False) W3 X → Calls Tryd.prog 13 #[.agg DV.toArray, .agg SLO.toArray] X fun e w' => e = .returned (.agg PA.toArray) ∧ Keeps (fun _ => False) X w') := Lib.hid fun X hX => by
    rw [hPA, hDV, hSLO]
    exact pair_any X (hG.keep (hk3.trans hX (fun _ _ h => h)) (fun _ h => h.elim)) _ _ hd.1 dlo.1 hd.2 dlo.2
  have HPb : Hid (∀ X, Keeps (fun _ => False) W3 X → Calls Tryd.prog 13 #[.agg DV.toArray, .agg SHI.toArray] X fun e w' => e = .returned (.agg PB.toArray) ∧ Keeps (fun _ => False) X w') := Lib.hid fun X hX => by
    rw [hPB, hDV, hSHI]
    exact pair_any X (hG.keep (hk3.trans hX (fun _ _ h => h)) (fun _ h => h.elim)) _ _ hd.1 dhi.1 hd.2 dhi.2
  have HK3 := Lib.hid hk3
  have hbl1 := build_lo (pairF d (s.take 32)) (dig_pair _ _).1
  have hbl2 := build_hi (pairF d (s.take 32)) (pairF d (s.drop 32)) (dig_pair _ _).1 (dig_pair _ _).1
  rw [← hPA] at hbl1 hbl2
  rw [← hPB, show pairF d (s.take 32) ++ pairF d (s.drop 32) = aheadT2 s d from rfl, ← hRV] at hbl2
  have hPAl : PA.length = 32 := by rw [hPA, vb_length]; exact (dig_pair _ _).1
  have hPBl : PB.length = 32 := by rw [hPB, vb_length]; exact (dig_pair _ _).1
  obtain ⟨M1, hM1⟩ : ∃ M, M = (PA ++ vb (List.replicate 32 0)).toArray := ⟨_, rfl⟩
  have hM1s : M1.size = 64 := by rw [hM1]; simp [hPAl, vb]
  rw [← hM1] at hbl1 hbl2
  have HB1L := Lib.hid hbl1
  have HB2L := Lib.hid hbl2
  have HPAL := Lib.hid hPAl
  have HPBL := Lib.hid hPBl
  have HM1S := Lib.hid hM1s
  rw [← hSV, ← hEV, ← hRV]
  clear hsv hsh dlo dhi hs hd hG hSV hSLO hSHI hEV hDV hRV hPA hPB hbl1 hbl2 hM1 hM1s hPAl hPBl hk3
  go_enter Tryd.func59, Tryd.ntmps59
  go_wp2
  refine wp_region_last (S := Keeps (fun _ => False) W3) 9 (by kernel_rfl) (by rw [hW3]; exact (Keeps.refl (fun _ => False) _).drew) (fun hHeld => ?_)
  refine wpAnyZ_take (i := 0) (oi := ⟨some 5, _, _, _, _, _⟩) (v := _) rfl (by kernel_rfl) (by kernel_rfl) (by kernel_rfl) (by kernel_rfl) (fun _ _ _ h => h) (yieldsIf_load_mid (by rfl) _ _ rfl _ _ rfl DV _ (fun w' h => HRd.out _ h) Tryd.underlying24 rfl HDI.out) hHeld ?_
  try simp only [Act.put, List.setIfInBounds_toArray, List.set_cons_zero, List.set_cons_succ]
  refine wpAnyZ_take (i := 1) (oi := ⟨some 6, _, _, _, _, _⟩) (v := ?_) rfl (by kernel_rfl) (by kernel_rfl) (by kernel_rfl) (by kernel_rfl) (fun _ _ _ h => h) (Or.inl ⟨by rfl, ?_⟩) hHeld ?_
  rotate_left
  · intro w' hSw
    go_simp
    first | done | rfl
  try simp only [Act.put, List.setIfInBounds_toArray, List.set_cons_zero, List.set_cons_succ]
  refine wpAnyZ_take (i := 2) (oi := ⟨some 7, _, _, _, _, _⟩) (v := _) rfl (by kernel_rfl) (by kernel_rfl) (by kernel_rfl) (by kernel_rfl) (fun _ _ _ h => h) (yieldsIf_load_mid (by rfl) _ _ rfl _ _ rfl SLO _ (fun w' h => HRlo.out _ h) Tryd.underlying24 rfl HLOI.out) hHeld ?_
  try simp only [Act.put, List.setIfInBounds_toArray, List.set_cons_zero, List.set_cons_succ]
  refine wpAnyZ_take (i := 4) (oi := ⟨some 9, _, _, _, _, _⟩) (v := _) rfl (by kernel_rfl) (by kernel_rfl) (by kernel_rfl) (by kernel_rfl) (fun _ _ _ h => h) (yieldsIf_load_mid (by rfl) _ _ rfl _ _ rfl DV _ (fun w' h => HRd.out _ h) Tryd.underlying24 rfl HDI.out) hHeld ?_
  try simp only [Act.put, List.setIfInBounds_toArray, List.set_cons_zero, List.set_cons_succ]
  refine wpAnyZ_take (i := 5) (oi := ⟨some 10, _, _, _, _, _⟩) (v := ?_) rfl (by kernel_rfl) (by kernel_rfl) (by kernel_rfl) (by kernel_rfl) (fun _ _ _ h => h) (Or.inl ⟨by rfl, ?_⟩) hHeld ?_
  rotate_left
  · intro w' hSw
    go_simp
    first | done | rfl
  try simp only [Act.put, List.setIfInBounds_toArray, List.set_cons_zero, List.set_cons_succ]
  refine wpAnyZ_take (i := 6) (oi := ⟨some 11, _, _, _, _, _⟩) (v := _) rfl (by kernel_rfl) (by kernel_rfl) (by kernel_rfl) (by kernel_rfl) (fun _ _ _ h => h) (yieldsIf_load_mid (by rfl) _ _ rfl _ _ rfl SHI _ (fun w' h => HRhi.out _ h) Tryd.underlying24 rfl HHII.out) hHeld ?_
  try simp only [Act.put, List.setIfInBounds_toArray, List.set_cons_zero, List.set_cons_succ]
  refine wpAnyZ_step (i := 3) (o := ⟨some 8, _, _, _, _, _⟩) (by kernel_rfl) rfl (fun K hK => ?_)
  go_simp
  refine (HPa.out _ hHeld).mono ?_
  rintro e v3 ⟨rfl, hk3'⟩
  have hq3 := hHeld.trans hk3' (fun _ _ h => h)
  refine hK.out _ _ hq3 (fun hHeld => ?_)
  clear hK K
  try simp only [Act.put, List.setIfInBounds_toArray, List.set_cons_zero, List.set_cons_succ]
  refine wpAnyZ_step (i := 7) (o := ⟨some 12, _, _, _, _, _⟩) (by kernel_rfl) rfl (fun K hK => ?_)
  go_simp
  refine (HPb.out _ hHeld).mono ?_
  rintro e v7 ⟨rfl, hk7⟩
  have hq7 := hHeld.trans hk7 (fun _ _ h => h)
  refine hK.out _ _ hq7 (fun hHeld => ?_)
  clear hK K
  try simp only [Act.put, List.setIfInBounds_toArray, List.set_cons_zero, List.set_cons_succ]
  refine wpAnyZ_take (i := 8) (oi := ⟨some 13, _, _, _, _, _⟩) (v := ?_) rfl (by kernel_rfl) (by kernel_rfl) (by kernel_rfl) (by kernel_rfl) (fun _ _ _ h => h) (Or.inl ⟨by rfl, ?_⟩) hHeld ?_
  rotate_left
  · intro w' hSw
    have cv1 := HB1L.out; have cv2 := HB2L.out; have cv3 := HPAL.out; have cv4 := HPBL.out; have cv5 := HM1S.out
    go_simp
    first | done | rfl
  try simp only [Act.put, List.setIfInBounds_toArray, List.set_cons_zero, List.set_cons_succ]
  refine wpAnyZ_last (o := ⟨none, _, _, _, _, _⟩) (by kernel_rfl) (by kernel_rfl) rfl (fun K hK => ?_)
  refine stepH_store rfl 95 _ _ rfl RV rfl rfl (hHeld.blk HB3.out (fun h => h)) (by rw [HRL.out]; simp) HRI.out HR1.out ?_
  refine hK.out _ _ ?_
  clear hK K
  try simp only [Act.put, List.setIfInBounds_toArray, List.set_cons_zero, List.set_cons_succ]
  go_wp2
  refine bodyPost_ret (results_blk rfl _ _ rfl ((hq7.blk HB3.out (fun h => h)).setRow RV) Tryd.underlying95 rfl HRI.out) rfl ⟨rfl, (HK3.out.trans hq7 (fun _ _ h => h)).setRow (.inr (by omega)) _⟩
theorem of_drop (d : List Int) : (ofT2 d).drop 32 = d := by unfold ofT2; rw [List.drop_left' (by simp)]
set_option maxRecDepth 100000 in
set_option maxHeartbeats 2000000 in
theorem joinT_any (W : World) (hG : Glob W) (s d : List Int) (hs : s.length = 64 ∧ IsBytes s) (hd : IsDig d) : Calls Tryd.prog 57 #[.agg (vb s).toArray, .agg (vb (ofT2 d)).toArray] W fun e w' => e = .returned (.agg (vb (joinT2 s (ofT2 d))).toArray) ∧ Keeps (fun _ => False) W w' := by
  have dlo : IsDig (s.take 32) := ⟨by rw [List.length_take, hs.1]; rfl, fun x hx => hs.2 x (List.mem_of_mem_take hx)⟩
  have dhi : IsDig (s.drop 32) := ⟨by rw [List.length_drop, hs.1], fun x hx => hs.2 x (List.mem_of_mem_drop hx)⟩
  obtain ⟨SV, hSV⟩ : ∃ V, V = vb (s) := ⟨_, rfl⟩
  obtain ⟨SLO, hSLO⟩ : ∃ V, V = vb (s.take 32) := ⟨_, rfl⟩
  obtain ⟨SHI, hSHI⟩ : ∃ V, V = vb (s.drop 32) := ⟨_, rfl⟩
  obtain ⟨EV, hEV⟩ : ∃ V, V = vb ((ofT2 d)) := ⟨_, rfl⟩
  obtain ⟨DV, hDV⟩ : ∃ V, V = vb (d) := ⟨_, rfl⟩
  obtain ⟨PB, hPB⟩ : ∃ V, V = vb (pairF (s.drop 32) d) := ⟨_, rfl⟩
  obtain ⟨RV, hRV⟩ : ∃ V, V = vb ((joinT2 s (ofT2 d))) := ⟨_, rfl⟩
  have HR1 : Hid (∀ u ∈ RV, u.oneCell' = true) := Lib.hid (by rw [hRV]; exact vb_one _)
  have HLOL : Hid (SLO.length = 32) := Lib.hid (by rw [hSLO, vb_length]; exact dlo.1)
  have HLOI : Hid ((Tryd.prog.info? 24).map (·.size) = some SLO.length) := Lib.hid (by rw [HLOL.out]; kernel_rfl)
  have HHIL : Hid (SHI.length = 32) := Lib.hid (by rw [hSHI, vb_length]; exact dhi.1)
  have HHII : Hid ((Tryd.prog.info? 24).map (·.size) = some SHI.length) := Lib.hid (by rw [HHIL.out]; kernel_rfl)
  have HDL : Hid (DV.length = 32) := Lib.hid (by rw [hDV, vb_length]; exact hd.1)
  have HDI : Hid ((Tryd.prog.info? 24).map (·.size) = some DV.length) := Lib.hid (by rw [HDL.out]; kernel_rfl)
  have HRL : Hid (RV.length = 64) := Lib.hid (by rw [hRV, vb_length]; exact (by unfold joinT2; rw [List.length_append, dlo.1, (dig_pair _ _).1]))
  have HRI : Hid ((Tryd.prog.info? 95).map (·.size) = some RV.length) := Lib.hid (by rw [HRL.out]; kernel_rfl)
  obtain ⟨W3, hW3⟩ : ∃ W3, W3 = ((W.alloc (.cells SV.toArray 95)).alloc (.cells EV.toArray 95)).alloc (.cells (List.replicate 64 (Value.int .u8 0)).toArray 95) := ⟨_, rfl⟩
  have hk3 : Keeps (fun _ => False) W W3 := by rw [hW3]; exact (((Keeps.refl _ W).alloc _).alloc _).alloc _
  have HB1 : Hid (Blk W3 W.heap.size 95 SV) := Lib.hid (by rw [hW3]; exact ((Blk.new W _ _).alloc _).alloc _)
  have HB2 : Hid (Blk W3 (W.heap.size + 1) 95 EV) := Lib.hid (by
    have h5 := Blk.new (W.alloc (.cells SV.toArray 95)) 95 EV
    rw [World.size_alloc] at h5
    rw [hW3]; exact h5.alloc _)
  have HB3 : Hid (Blk W3 (W.heap.size + 1 + 1) 95 (List.replicate 64 (Value.int .u8 0))) := Lib.hid (by
    have h5 := Blk.new ((W.alloc (.cells SV.toArray 95)).alloc (.cells EV.toArray 95)) 95 (List.replicate 64 (Value.int .u8 0))
    rw [World.size_alloc, World.size_alloc] at h5
    rw [hW3]; exact h5)
  have hsv : ∀ j, SLO[j]? = if j < 32 then SV[j]? else none := fun j => by rw [hSLO, hSV, vb, vb, List.map_take, List.getElem?_take]
  have hsh : ∀ j, SHI[j]? = SV[32 + j]? := fun j => by rw [hSHI, hSV, vb, vb, List.map_drop, List.getElem?_drop]
  have HRlo : Hid (∀ X, Keeps (fun _ => False) W3 X → X.rangeAt W.heap.size 0 SLO) := Lib.hid fun X hX j v hv => by
    rw [Nat.zero_add, (hX.blk HB1.out (fun h => h)).cell]
    rw [hsv] at hv
    split at hv
    · exact hv
    · cases hv
  have HRhi : Hid (∀ X, Keeps (fun _ => False) W3 X → X.rangeAt W.heap.size 32 SHI) := Lib.hid fun X hX j v hv => by rw [(hX.blk HB1.out (fun h => h)).cell, ← hsh, hv]
  have HRd : Hid (∀ X, Keeps (fun _ => False) W3 X → X.rangeAt (W.heap.size + 1) 32 DV) := Lib.hid fun X hX j v hv => by
    rw [(hX.blk HB2.out (fun h => h)).cell, hEV, ofT2, vb_app, List.getElem?_append_right (by rw [vb_length]; simp), vb_length, List.length_replicate, Nat.add_sub_cancel_left, ← hDV, hv]
  have HPb : Hid (∀ X, Keeps (fun _ => False) W3 X → Calls Tryd.prog 13 #[.agg SHI.toArray, .agg DV.toArray] X fun e w' => e = .returned (.agg PB.toArray) ∧ Keeps (fun _ => False) X w') := Lib.hid fun X hX => by
    rw [hPB, hSHI, hDV]
    exact pair_any X (hG.keep (hk3.trans hX (fun _ _ h => h)) (fun _ h => h.elim)) _ _ dhi.1 hd.1 dhi.2 hd.2
  have HK3 := Lib.hid hk3
  have hbl1 := build_lo (s.take 32) dlo.1
  have hbl2 := build_hi (s.take 32) (pairF (s.drop 32) d) dlo.1 (dig_pair _ _).1
  rw [← hSLO] at hbl1 hbl2
  rw [← hPB, show s.take 32 ++ pairF (s.drop 32) d = joinT2 s (ofT2 d) by (unfold joinT2; rw [of_drop]), ← hRV] at hbl2
  have hPAl : SLO.length = 32 := by rw [hSLO, vb_length]; exact dlo.1
  have hPBl : PB.length = 32 := by rw [hPB, vb_length]; exact (dig_pair _ _).1
  obtain ⟨M1, hM1⟩ : ∃ M, M = (SLO ++ vb (List.replicate 32 0)).toArray := ⟨_, rfl⟩
  have hM1s : M1.size = 64 := by rw [hM1]; simp [hPAl, vb]
  rw [← hM1] at hbl1 hbl2
  have HB1L := Lib.hid hbl1
  have HB2L := Lib.hid hbl2
  have HPAL := Lib.hid hPAl
  have HPBL := Lib.hid hPBl
  have HM1S := Lib.hid hM1s
  rw [← hSV, ← hEV, ← hRV]
  clear hsv hsh dlo dhi hs hd hG hSV hSLO hSHI hEV hDV hRV hPB hbl1 hbl2 hM1 hM1s hPAl hPBl hk3
  go_enter Tryd.func57, Tryd.ntmps57
  go_wp2
  refine wp_region_last (S := Keeps (fun _ => False) W3) 8 (by kernel_rfl) (by rw [hW3]; exact (Keeps.refl (fun _ => False) _).drew) (fun hHeld => ?_)
  refine wpAnyZ_take (i := 0) (oi := ⟨some 5, _, _, _, _, _⟩) (v := ?_) rfl (by kernel_rfl) (by kernel_rfl) (by kernel_rfl) (by kernel_rfl) (fun _ _ _ h => h) (Or.inl ⟨by rfl, ?_⟩) hHeld ?_
  rotate_left
  · intro w' hSw
    go_simp
    first | done | rfl
  try simp only [Act.put, List.setIfInBounds_toArray, List.set_cons_zero, List.set_cons_succ]
  refine wpAnyZ_take (i := 1) (oi := ⟨some 6, _, _, _, _, _⟩) (v := _) rfl (by kernel_rfl) (by kernel_rfl) (by kernel_rfl) (by kernel_rfl) (fun _ _ _ h => h) (yieldsIf_load_mid (by rfl) _ _ rfl _ _ rfl SLO _ (fun w' h => HRlo.out _ h) Tryd.underlying24 rfl HLOI.out) hHeld ?_
  try simp only [Act.put, List.setIfInBounds_toArray, List.set_cons_zero, List.set_cons_succ]
  refine wpAnyZ_take (i := 2) (oi := ⟨some 7, _, _, _, _, _⟩) (v := ?_) rfl (by kernel_rfl) (by kernel_rfl) (by kernel_rfl) (by kernel_rfl) (fun _ _ _ h => h) (Or.inl ⟨by rfl, ?_⟩) hHeld ?_
  rotate_left
  · intro w' hSw
    go_simp
    first | done | rfl
  try simp only [Act.put, List.setIfInBounds_toArray, List.set_cons_zero, List.set_cons_succ]
  refine wpAnyZ_take (i := 3) (oi := ⟨some 8, _, _, _, _, _⟩) (v := _) rfl (by kernel_rfl) (by kernel_rfl) (by kernel_rfl) (by kernel_rfl) (fun _ _ _ h => h) (yieldsIf_load_mid (by rfl) _ _ rfl _ _ rfl SHI _ (fun w' h => HRhi.out _ h) Tryd.underlying24 rfl HHII.out) hHeld ?_
  try simp only [Act.put, List.setIfInBounds_toArray, List.set_cons_zero, List.set_cons_succ]
  refine wpAnyZ_take (i := 4) (oi := ⟨some 9, _, _, _, _, _⟩) (v := ?_) rfl (by kernel_rfl) (by kernel_rfl) (by kernel_rfl) (by kernel_rfl) (fun _ _ _ h => h) (Or.inl ⟨by rfl, ?_⟩) hHeld ?_
  rotate_left
  · intro w' hSw
    go_simp
    first | done | rfl
  try simp only [Act.put, List.setIfInBounds_toArray, List.set_cons_zero, List.set_cons_succ]
  refine wpAnyZ_take (i := 5) (oi := ⟨some 10, _, _, _, _, _⟩) (v := _) rfl (by kernel_rfl) (by kernel_rfl) (by kernel_rfl) (by kernel_rfl) (fun _ _ _ h => h) (yieldsIf_load_mid (by rfl) _ _ rfl _ _ rfl DV _ (fun w' h => HRd.out _ h) Tryd.underlying24 rfl HDI.out) hHeld ?_
  try simp only [Act.put, List.setIfInBounds_toArray, List.set_cons_zero, List.set_cons_succ]
  refine wpAnyZ_step (i := 6) (o := ⟨some 11, _, _, _, _, _⟩) (by kernel_rfl) rfl (fun K hK => ?_)
  go_simp
  refine (HPb.out _ hHeld).mono ?_
  rintro e v6 ⟨rfl, hk6⟩
  have hq6 := hHeld.trans hk6 (fun _ _ h => h)
  refine hK.out _ _ hq6 (fun hHeld => ?_)
  clear hK K
  try simp only [Act.put, List.setIfInBounds_toArray, List.set_cons_zero, List.set_cons_succ]
  refine wpAnyZ_take (i := 7) (oi := ⟨some 12, _, _, _, _, _⟩) (v := ?_) rfl (by kernel_rfl) (by kernel_rfl) (by kernel_rfl) (by kernel_rfl) (fun _ _ _ h => h) (Or.inl ⟨by rfl, ?_⟩) hHeld ?_
  rotate_left
  · intro w' hSw
    have cv1 := HB1L.out; have cv2 := HB2L.out; have cv3 := HPAL.out; have cv4 := HPBL.out; have cv5 := HM1S.out
    go_simp
    first | done | rfl
  try simp only [Act.put, List.setIfInBounds_toArray, List.set_cons_zero, List.set_cons_succ]
  refine wpAnyZ_last (o := ⟨none, _, _, _, _, _⟩) (by kernel_rfl) (by kernel_rfl) rfl (fun K hK => ?_)
  refine stepH_store rfl 95 _ _ rfl RV rfl rfl (hHeld.blk HB3.out (fun h => h)) (by rw [HRL.out]; simp) HRI.out HR1.out ?_
  refine hK.out _ _ ?_
  clear hK K
  try simp only [Act.put, List.setIfInBounds_toArray, List.set_cons_zero, List.set_cons_succ]
  go_wp2
  refine bodyPost_ret (results_blk rfl _ _ rfl ((hq6.blk HB3.out (fun h => h)).setRow RV) Tryd.underlying95 rfl HRI.out) rfl ⟨rfl, (HK3.out.trans hq6 (fun _ _ h => h)).setRow (.inr (by omega)) _⟩
end Go.Proofs.YtknecjjdegngfaaDoor

namespace Go.Proofs.YtknecjjdegngfaaDoor
open Go Go.RowKit Go.Sha Go.Aff Go.Book
def stclimbT (s : List Int) (b : Bool) (d : List Int) : List Int := if b then joinT2 s (ofT2 d) else aheadT2 s d
theorem ok_climbT (s : List Int) (b : Bool) (d : List Int) (hs : s.length = 64 ∧ IsBytes s) (_ : IsDig d) : (stclimbT s b d).length = 64 ∧ IsBytes (stclimbT s b d) := by
  have b1 : IsBytes (s.take 32) := fun x hx => hs.2 x (List.mem_of_mem_take hx)
  have app : ∀ a b : List Int, IsBytes a → IsBytes b → IsBytes (a ++ b) := fun a b ha hb x hx => by
    rcases List.mem_append.1 hx with h | h
    · exact ha x h
    · exact hb x h
  unfold stclimbT
  split
  · unfold joinT2
    exact ⟨by rw [List.length_append, List.length_take, (dig_pair _ _).1, hs.1]; rfl, app _ _ b1 (dig_pair _ _).2⟩
  · unfold aheadT2
    exact ⟨by rw [List.length_append, (dig_pair _ _).1, (dig_pair _ _).1], app _ _ (dig_pair _ _).2 (dig_pair _ _).2⟩
theorem snocclimbT (s : List Int) (way : List Bool) (ps : List (List Int)) (k : Nat) (b : Bool) (d : List Int) (hw : way[k]? = some b) (hp : ps[k]? = some d) :
    climbF joinT2 ofT2 aheadT2 s (way.take (k + 1)) (ps.take (k + 1)) = stclimbT (climbF joinT2 ofT2 aheadT2 s (way.take k) (ps.take k)) b d := by
  have h1 := (List.getElem?_eq_some_iff.1 hw).1
  have h2 := (List.getElem?_eq_some_iff.1 hp).1
  rw [List.take_add_one, List.take_add_one, hw, hp, climb_app _ _ _ _ _ _ _ _ (by rw [List.length_take, List.length_take]; omega)]
  rfl
set_option maxRecDepth 100000 in
set_option maxHeartbeats 8000000 in
theorem climbT (w : World) (hG : Glob w) (s : List Int) (hs : s.length = 64 ∧ IsBytes s) (Aw : Option Addr) (K cw : Nat) (way : List Bool) (hway : way.length = K) (hrw : Rd w Aw K (vbool way)) (Ap : Option Addr) (cp : Nat) (ps : List (List Int)) (hrp : RdD w Ap K ps) (hK : K ≤ 65536) :
    Calls Tryd.prog 60 #[.agg (vb s).toArray, .slice Aw K cw, .slice Ap K cp, (Value.func (.func 57) #[] #[]), (Value.func (.func 58) #[] #[]), (Value.func (.func 59) #[] #[])] w fun e w' => e = .returned (.agg (vb (climbF joinT2 ofT2 aheadT2 s way ps)).toArray) ∧ Keeps (fun _ => False) w w' := by
  have hok : ∀ k, k ≤ K → (climbF joinT2 ofT2 aheadT2 s (way.take k) (ps.take k)).length = 64 ∧ IsBytes (climbF joinT2 ofT2 aheadT2 s (way.take k) (ps.take k)) := by
    intro k
    induction k with
    | zero => intro _; simpa [climbF] using hs
    | succ k ih =>
      intro hk
      obtain ⟨b, hb⟩ : ∃ b, way[k]? = some b := ⟨_, List.getElem?_eq_getElem (by omega)⟩
      obtain ⟨d, hd⟩ : ∃ d, ps[k]? = some d := ⟨_, List.getElem?_eq_getElem (by have := hrp.1; omega)⟩
      rw [snocclimbT s way ps k b d hb hd]
      exact ok_climbT _ b d (ih (by omega)) (hrp.2.1.at_ hd)
  have hfin : climbF joinT2 ofT2 aheadT2 s way ps = climbF joinT2 ofT2 aheadT2 s (way.take K) (ps.take K) := by rw [List.take_of_length_le (by omega), List.take_of_length_le (by have := hrp.1; omega)]
  rw [hfin]
  obtain ⟨C, hC⟩ : ∃ C : Nat → List Int, C = fun k => climbF joinT2 ofT2 aheadT2 s (way.take k) (ps.take k) := ⟨_, rfl⟩
  have hC0 : C 0 = s := by rw [hC]; simp [climbF]
  have hCk : ∀ k b d, way[k]? = some b → ps[k]? = some d → C (k + 1) = stclimbT (C k) b d := fun k b d h1 h2 => by rw [hC]; exact snocclimbT s way ps k b d h1 h2
  have hCok : ∀ k, k ≤ K → (C k).length = 64 ∧ IsBytes (C k) := by rw [hC]; exact hok
  have hCe : climbF joinT2 ofT2 aheadT2 s (way.take K) (ps.take K) = C K := by rw [hC]
  rw [hCe]
  obtain ⟨SV, hSV⟩ : ∃ SV, SV = vb s := ⟨_, rfl⟩
  have HSV := Lib.hid hSV
  rw [← hSV]
  have HC0 := Lib.hid hC0
  have HCK := Lib.hid hCk
  have HCO := Lib.hid hCok
  have HG := Lib.hid hG
  have HRW := Lib.hid hrw
  have HRPP := Lib.hid hrp
  have HWL := Lib.hid hway
  have HBS : Hid (Blk ((w.alloc (.cells SV.toArray 95)).alloc (.cells (List.replicate 64 (Value.int .u8 0)).toArray 95)) w.heap.size 95 SV) := Lib.hid ((Blk.new w _ _).alloc _)
  have HBZ : Hid (Blk ((w.alloc (.cells SV.toArray 95)).alloc (.cells (List.replicate 64 (Value.int .u8 0)).toArray 95)) (w.heap.size + 1) 95 (List.replicate 64 (Value.int .u8 0))) := Lib.hid (by
    have h5 := Blk.new (w.alloc (.cells SV.toArray 95)) 95 (List.replicate 64 (Value.int .u8 0))
    rwa [World.size_alloc] at h5)
  clear hok hfin hC hC0 hCk hCok hCe hs hway hrw hrp hG hSV
  go_enter Tryd.func60, Tryd.ntmps60
  go_wp2
  go_loopw [13, 17] (fun _ i wr => ∃ k : Nat, k ≤ K ∧ i = .int .i64 k ∧ Hid (Blk wr w.heap.size 95 (vb (C k)) ∧ Blk wr (w.heap.size + 1) 95 (List.replicate 64 (Value.int .u8 0)) ∧ Keeps (fun _ => False) w wr)) (fun _ i _ => K - (intOf i).toNat)
  case atStart =>
    refine ⟨0, by omega, rfl, Lib.hid ⟨?_, HBZ.out, ((Keeps.refl _ w).alloc _).alloc _⟩⟩
    rw [HC0.out, ← HSV.out]
    exact HBS.out
  case round =>
    obtain ⟨k, hk, rfl, HT⟩ := hrel
    have hcl : (vb (C k)).length = 64 := by rw [vb_length]; exact (HCO.out k hk).1
    by_cases hlt : k < K
    · obtain ⟨b, hb⟩ : ∃ b, way[k]? = some b := ⟨_, List.getElem?_eq_getElem (by have := HWL.out; omega)⟩
      obtain ⟨g, o, d, rfl, hd, hl⟩ := (HRPP.out.keep HT.out.2.2 (no_out _ _)).lies hlt
      have hdd := HRPP.out.2.1.at_ hd
      obtain ⟨g2, o2, rfl, hcw⟩ := HRW.out.2 (by omega)
      have hlt2 : g2 < w.heap.size := World.block_lt_of_cell? _ _ ((hcw k hlt).trans (by rw [vbool, List.getElem?_map, hb]; rfl))
      have hcwb : ∀ W, Keeps (fun _ => False) wr W → W.cell? ⟨g2, o2 + k, none⟩ = some (.bool b) := fun W hW => by
        have h9 : w.cell? ⟨g2, o2 + k, none⟩ = some (.bool b) := (hcw k hlt).trans (by rw [vbool, List.getElem?_map, hb]; rfl)
        rw [← h9]
        exact (HT.out.2.2.trans hW (fun _ _ h => h)).cell (p := ⟨g2, o2 + k, none⟩) hlt2 (fun h => h)
      have hnx := HCK.out k b d hb hd
      have hcok := HCO.out k hk
      have hnok := HCO.out (k + 1) (by omega)
      obtain ⟨cur, hcur⟩ : ∃ c, c = C k := ⟨_, rfl⟩
      rw [← hcur] at hnx hcok hcl
      obtain ⟨CV, hCV⟩ : ∃ CV, CV = vb cur := ⟨_, rfl⟩
      obtain ⟨PV, hPV⟩ : ∃ PV, PV = vb d := ⟨_, rfl⟩
      obtain ⟨NV, hNV⟩ : ∃ NV, NV = vb (C (k + 1)) := ⟨_, rfl⟩
      have HNVV := Lib.hid hNV
      have HCL : Hid (CV.length = 64) := Lib.hid (by rw [hCV]; exact hcl)
      have HNL : Hid (NV.length = 64) := Lib.hid (by rw [hNV, vb_length]; exact hnok.1)
      have HN1 : Hid (∀ u ∈ NV, u.oneCell' = true) := Lib.hid (by rw [hNV]; exact vb_one _)
      have HP1 : Hid (∀ u ∈ PV, u.oneCell' = true) := Lib.hid (by rw [hPV]; exact vb_one _)
      have HPL : Hid (PV.length = 32) := Lib.hid (by rw [hPV, vb_length]; exact hdd.1)
      have HCI : Hid ((Tryd.prog.info? 95).map (·.size) = some CV.length) := Lib.hid (by rw [HCL.out]; kernel_rfl)
      have HNI : Hid ((Tryd.prog.info? 95).map (·.size) = some NV.length) := Lib.hid (by rw [HNL.out]; kernel_rfl)
      have HPI : Hid ((Tryd.prog.info? 24).map (·.size) = some PV.length) := Lib.hid (by rw [HPL.out]; kernel_rfl)
      have HLp : Hid (Lies wr g (o + k * 32) PV) := Lib.hid (by rw [hPV]; exact hl)
      have HZP := Lib.hid (Blk.new wr 24 (List.replicate 32 (Value.int .u8 0)))
      have HBK : Hid (Blk wr w.heap.size 95 CV) := Lib.hid (by rw [hCV, hcur]; exact HT.out.1)
      have HCWB := Lib.hid hcwb
      have HDD := Lib.hid hdd
      have HCOK := Lib.hid hcok
      have HCVV := Lib.hid hCV
      have HPVV := Lib.hid hPV
      have HNX := Lib.hid hnx
      have HKW := Lib.hid HT.out.2.2
      have HBZZ := Lib.hid HT.out.2.1
      have hlw : Hid (w.heap.size + 2 ≤ wr.heap.size) := Lib.hid (by have := HT.out.2.1.lt; omega)
      clear hcl hb hd hl hdd hcw hcwb hnx hcok hnok hCV hPV hNV hcur
      cases b with
      | true =>
        go_wp2_with (first
          | ((with_reducible show wpList _ _ _ (⟨some 21, Op.load 24 _, _, _, _, _⟩ :: _) _ _); refine wpList_load_lies rfl 24 _ rfl _ _ _ rfl HLp.out Tryd.underlying24 rfl HPI.out ?_)
          | ((with_reducible show wpList _ _ _ (⟨none, Op.store 24 _ _, _, _, _, _⟩ :: _) _ _); refine wpList_store_whole rfl 24 _ _ rfl PV rfl rfl HZP.out (by rw [HPL.out]; simp) HPI.out HP1.out ?_; refine gen_world (fun W => Blk W wr.heap.size 24 PV ∧ Keeps (fun _ => False) wr W) ⟨HZP.out.setRow PV, ((Keeps.refl _ wr).alloc _).setRow (.inr (Nat.le_refl _)) _⟩ ?_; rintro w3 ⟨hbp3, hk3⟩; have cw3 := HCWB.out w3 hk3; have HBP3 := Lib.hid hbp3; have HK3 := Lib.hid hk3; clear hbp3 hk3))
        have HBC : Hid (Blk w3 w.heap.size 95 CV) := Lib.hid (HK3.out.blk HBK.out (fun h => h))
        have HRC : Hid (∀ W, Keeps (fun _ => False) w3 W → W.rangeAt w.heap.size 0 CV) := Lib.hid fun W hW j v hv => by rw [Nat.zero_add, (hW.blk HBC.out (fun h => h)).cell, hv]
        have HRP : Hid (∀ W, Keeps (fun _ => False) w3 W → W.rangeAt wr.heap.size 0 PV) := Lib.hid fun W hW j v hv => by rw [Nat.zero_add, (hW.blk HBP3.out (fun h => h)).cell, hv]
        obtain ⟨OV, hOV⟩ : ∃ OV, OV = vb (ofT2 d) := ⟨_, rfl⟩
        have HOF : Hid (∀ W, Keeps (fun _ => False) w3 W → Calls Tryd.prog 58 #[.agg PV.toArray] W fun e w' => e = .returned (.agg OV.toArray) ∧ Keeps (fun _ => False) W w') := Lib.hid fun W hW => by
          rw [hOV, HPVV.out]
          exact ofT_any W d HDD.out
        have HJN : Hid (∀ W, Keeps (fun _ => False) w3 W → Calls Tryd.prog 57 #[.agg CV.toArray, .agg OV.toArray] W fun e w' => e = .returned (.agg NV.toArray) ∧ Keeps (fun _ => False) W w') := Lib.hid fun W hW => by
          rw [hOV, HCVV.out, HNVV.out, HNX.out]
          exact joinT_any W (HG.out.keep ((HKW.out.trans HK3.out (fun _ _ h => h)).trans hW (fun _ _ h => h)) (fun _ h => h.elim)) cur d HCOK.out HDD.out
        clear hOV
        go_wp2
        refine wp_region_last (S := Keeps (fun _ => False) w3) 6 (by kernel_rfl) (Keeps.refl (fun _ => False) _).drew (fun hHeld => ?_)
        refine wpAnyZ_take (i := 0) (oi := ⟨some 26, _, _, _, _, _⟩) (v := ?_) rfl (by kernel_rfl) (by kernel_rfl) (by kernel_rfl) (by kernel_rfl) (fun _ _ _ h => h) (Or.inl ⟨by rfl, ?_⟩) hHeld ?_
        rotate_left
        · intro w' hSw
          go_simp
          first | done | rfl
        try simp only [Act.put, List.setIfInBounds_toArray, List.set_cons_zero, List.set_cons_succ]
        refine wpAnyZ_take (i := 1) (oi := ⟨some 27, _, _, _, _, _⟩) (v := _) rfl (by kernel_rfl) (by kernel_rfl) (by kernel_rfl) (by kernel_rfl) (fun _ _ _ h => h) (yieldsIf_load_mid (by rfl) _ _ rfl _ _ rfl CV _ (fun w' h => HRC.out _ h) Tryd.underlying95 rfl HCI.out) hHeld ?_
        try simp only [Act.put, List.setIfInBounds_toArray, List.set_cons_zero, List.set_cons_succ]
        refine wpAnyZ_take (i := 2) (oi := ⟨some 28, _, _, _, _, _⟩) (v := ?_) rfl (by kernel_rfl) (by kernel_rfl) (by kernel_rfl) (by kernel_rfl) (fun _ _ _ h => h) (Or.inl ⟨by rfl, ?_⟩) hHeld ?_
        rotate_left
        · intro w' hSw
          go_simp
          first | done | rfl
        try simp only [Act.put, List.setIfInBounds_toArray, List.set_cons_zero, List.set_cons_succ]
        refine wpAnyZ_take (i := 3) (oi := ⟨some 29, _, _, _, _, _⟩) (v := _) rfl (by kernel_rfl) (by kernel_rfl) (by kernel_rfl) (by kernel_rfl) (fun _ _ _ h => h) (yieldsIf_load_mid (by rfl) _ _ rfl _ _ rfl PV _ (fun w' h => HRP.out _ h) Tryd.underlying24 rfl HPI.out) hHeld ?_
        try simp only [Act.put, List.setIfInBounds_toArray, List.set_cons_zero, List.set_cons_succ]
        refine wpAnyZ_step (i := 4) (o := ⟨some 30, _, _, _, _, _⟩) (by kernel_rfl) rfl (fun K hK => ?_)
        go_simp
        refine (HOF.out _ hHeld).mono ?_
        rintro e v4 ⟨rfl, hk4⟩
        have hq4 := hHeld.trans hk4 (fun _ _ h => h)
        refine hK.out _ _ hq4 (fun hHeld => ?_)
        clear hK K
        try simp only [Act.put, List.setIfInBounds_toArray, List.set_cons_zero, List.set_cons_succ]
        refine wpAnyZ_step (i := 5) (o := ⟨some 31, _, _, _, _, _⟩) (by kernel_rfl) rfl (fun K hK => ?_)
        go_simp
        refine (HJN.out _ hHeld).mono ?_
        rintro e v5 ⟨rfl, hk5⟩
        have hq5 := hHeld.trans hk5 (fun _ _ h => h)
        refine hK.out _ _ hq5 (fun hHeld => ?_)
        clear hK K
        try simp only [Act.put, List.setIfInBounds_toArray, List.set_cons_zero, List.set_cons_succ]
        refine wpAnyZ_last (o := ⟨none, _, _, _, _, _⟩) (by kernel_rfl) (by kernel_rfl) rfl (fun K hK => ?_)
        refine stepH_store rfl 95 _ _ rfl NV rfl rfl (hHeld.blk HBC.out (fun h => h)) (by rw [HCL.out, HNL.out]) HNI.out HN1.out ?_
        refine hK.out _ _ ?_
        clear hK K
        try simp only [Act.put, List.setIfInBounds_toArray, List.set_cons_zero, List.set_cons_succ]
        have HQ : Hid (Keeps (fun _ => False) w3 v5) := Lib.hid hq5
        go_wp2
        go_round
        case rel =>
          refine ⟨k + 1, by omega, by go_num, Lib.hid ⟨?_, ((HQ.out.blk (HK3.out.blk HBZZ.out (fun h => h)) (fun h => h))).setRow_far (by omega) _, ((HKW.out.trans HK3.out (fun _ _ h => h)).trans HQ.out (fun _ _ h => h)).setRow (.inr (Nat.le_refl _)) _⟩⟩
          rw [← HNVV.out]
          exact (HQ.out.blk HBC.out (fun h => h)).setRow NV
        case measure => simp [intOf]; omega
      | false =>
        go_wp2_with (first
          | ((with_reducible show wpList _ _ _ (⟨some 21, Op.load 24 _, _, _, _, _⟩ :: _) _ _); refine wpList_load_lies rfl 24 _ rfl _ _ _ rfl HLp.out Tryd.underlying24 rfl HPI.out ?_)
          | ((with_reducible show wpList _ _ _ (⟨some 33, Op.load 95 _, _, _, _, _⟩ :: _) _ _); refine wpList_load_whole rfl 95 _ rfl _ rfl (HK3.out.blk HBK.out (fun h => h)) Tryd.underlying95 rfl HCI.out ?_)
          | ((with_reducible show wpList _ _ _ (⟨some 34, Op.load 24 _, _, _, _, _⟩ :: _) _ _); refine wpList_load_whole rfl 24 _ rfl _ rfl HBP3.out Tryd.underlying24 rfl HPI.out ?_)
          | (go_at_call 59; refine (HXO.out w3 HK3.out).mono ?_; rintro e v5 ⟨rfl, hk5⟩; have HQ := Lib.hid hk5; have HBC := Lib.hid (hk5.blk (HK3.out.blk HBK.out (fun h => h)) (fun h => h)); clear hk5)
          | ((with_reducible show wpList _ _ _ (⟨none, Op.store 95 (.tmp 6) _, _, _, _, _⟩ :: _) _ _); refine wpList_store_whole rfl 95 _ _ rfl NV rfl rfl HBC.out (by rw [HCL.out, HNL.out]) HNI.out HN1.out ?_)
          | ((with_reducible show wpList _ _ _ (⟨none, Op.store 24 (.tmp 14) _, _, _, _, _⟩ :: _) _ _); refine wpList_store_whole rfl 24 _ _ rfl PV rfl rfl HZP.out (by rw [HPL.out]; simp) HPI.out HP1.out ?_; refine gen_world (fun W => Blk W wr.heap.size 24 PV ∧ Keeps (fun _ => False) wr W) ⟨HZP.out.setRow PV, ((Keeps.refl _ wr).alloc _).setRow (.inr (Nat.le_refl _)) _⟩ ?_; rintro w3 ⟨hbp3, hk3⟩; have cw3 := HCWB.out w3 hk3; have HBP3 := Lib.hid hbp3; have HK3 := Lib.hid hk3; have HXO : Hid (∀ W, Keeps (fun _ => False) wr W → Calls Tryd.prog 59 #[.agg CV.toArray, .agg PV.toArray] W fun e w' => e = .returned (.agg NV.toArray) ∧ Keeps (fun _ => False) W w') := Lib.hid fun W hW => (by { rw [HPVV.out, HCVV.out, HNVV.out, HNX.out]; exact aheadT_any W (HG.out.keep (HKW.out.trans hW (fun _ _ h => h)) (fun _ h => h.elim)) cur d HCOK.out HDD.out }); clear hbp3 hk3))
        go_round
        case rel =>
          refine ⟨k + 1, by omega, by go_num, Lib.hid ⟨?_, ((HQ.out.blk (HK3.out.blk HBZZ.out (fun h => h)) (fun h => h))).setRow_far (by omega) _, ((HKW.out.trans HK3.out (fun _ _ h => h)).trans HQ.out (fun _ _ h => h)).setRow (.inr (Nat.le_refl _)) _⟩⟩
          rw [← HNVV.out]
          exact HBC.out.setRow NV
        case measure => simp [intOf]; omega
    · obtain rfl : k = K := by omega
      obtain ⟨TV, hTV⟩ : ∃ TV, TV = vb (C k) := ⟨_, rfl⟩
      have HT1 : Hid (∀ u ∈ TV, u.oneCell' = true) := Lib.hid (by rw [hTV]; exact vb_one _)
      have HTL : Hid (TV.length = 64) := Lib.hid (by rw [hTV]; exact hcl)
      have HTI : Hid ((Tryd.prog.info? 95).map (·.size) = some TV.length) := Lib.hid (by rw [HTL.out]; kernel_rfl)
      have HBB : Hid (Blk wr w.heap.size 95 TV) := Lib.hid (by rw [hTV]; exact HT.out.1)
      have HBZZ := Lib.hid HT.out.2.1
      have HKW := Lib.hid HT.out.2.2
      clear hcl
      go_wp2_with (first
        | ((with_reducible show wpList _ _ _ (⟨some 37, Op.load 95 _, _, _, _, _⟩ :: _) _ _); refine wpList_load_whole rfl 95 _ rfl _ rfl HBB.out Tryd.underlying95 rfl HTI.out ?_)
        | ((with_reducible show wpList _ _ _ (⟨none, Op.store 95 _ _, _, _, _, _⟩ :: _) _ _); refine wpList_store_whole rfl 95 _ _ rfl TV rfl rfl HBZZ.out (by rw [HTL.out]; simp) HTI.out HT1.out ?_))
      refine bodyPost_ret (results_blk rfl _ _ rfl (HBZZ.out.setRow TV) Tryd.underlying95 rfl HTI.out) rfl ⟨by rw [hTV], HKW.out.setRow (.inr (by omega)) _⟩
end Go.Proofs.YtknecjjdegngfaaDoor

namespace Go.Proofs.YtknecjjdegngfaaDoor
open Go Go.RowKit Go.Sha Go.Aff Go.Book
set_option maxRecDepth 100000 in
theorem dig_in (D : List Int) (hD : D.length = 32) (W : World) : (Op.equalIn 9999 24 (.agg (vb D).toArray) (.agg (vb D).toArray)).run Tryd.prog W = .ok true W := by
  obtain ⟨i, hi, hsz⟩ := Option.map_eq_some_iff.1 (show (Tryd.prog.info? 5).map (·.size) = some 1 by kernel_rfl)
  have hs : Tryd.prog.cellsOf 5 = 1 := by simp [Program.cellsOf, hi, hsz]
  have h9 := run_eqItems_row (P := Tryd.prog) W 9997 5 .u8 Tryd.underlying5 D D (List.range 32) (by intro i hi; simp at hi; omega)
  rw [run_equalIn_array W 9998 _ _ Tryd.underlying24 hi, hs]
  unfold vb
  rw [h9]
  simp
set_option maxRecDepth 100000 in
theorem two_self (s : List Int) (hs : s.length = 64) (W : World) : (Op.equalIn 10000 95 (.agg (vb s).toArray) (.agg (vb s).toArray)).run Tryd.prog W = .ok true W := by
  rw [run_equalIn_agg W 9999 95 _ _ (by kernel_rfl) (by kernel_rfl)]
  have hf : Tryd.prog.fieldsOf 95 = #[{ name := "old", type := 24, offset := 0, embedded := false, tag := "", pkgPath := "affidavit/book", byteOffset := 0 }, { name := "all", type := 24, offset := 32, embedded := false, tag := "", pkgPath := "affidavit/book", byteOffset := 32 }] := by kernel_rfl
  rw [hf]
  have e1 : (List.take 32 (vb s)) = vb (s.take 32) := by simp [vb, List.map_take]
  have e2 : (List.take 32 (List.drop 32 (vb s))) = vb ((s.drop 32).take 32) := by simp [vb, List.map_take, List.map_drop]
  have d1 := dig_in (s.take 32) (by rw [List.length_take]; omega)
  have d2 := dig_in ((s.drop 32).take 32) (by rw [List.length_take, List.length_drop]; omega)
  simp [Op.eqFields, part, e1, e2, d1, d2]
end Go.Proofs.YtknecjjdegngfaaDoor

