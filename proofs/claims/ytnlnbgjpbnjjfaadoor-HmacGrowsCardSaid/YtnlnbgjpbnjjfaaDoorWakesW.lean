/-
  WALKS (laws of hmac): Extract, wakes.
-/
import Derived.Test.YtnlnbgjpbnjjfaaDoorMacSW
import Derived.Test.YtnlnbgjpbnjjfaaDoorPartsW
import Derived.Test.YtnlnbgjpbnjjfaaDoorLentW
import Derived.Lib.SlBytesConst
set_option linter.unusedSimpArgs false
namespace Go.Mac
open Go Go.Aff Go.Sha
def jefeK : List Int := [74, 101, 102, 101]
def jefeA : List Int := [119, 104, 97, 116, 32, 100, 111, 32, 121, 97, 32, 119, 97, 110, 116, 32]
def jefeB : List Int := [102, 111, 114, 32, 110, 111, 116, 104, 105, 110, 103, 63]
def jefeD : List Int := [0x5b, 0xdc, 0xc1, 0x46, 0xbf, 0x60, 0x75, 0x4e, 0x6a, 0x04, 0x24, 0x26, 0x08, 0x95, 0x75, 0xc7, 0x5a, 0x00, 0x3f, 0x08, 0x9d, 0x27, 0x39, 0x83, 0x9d, 0xec, 0x58, 0xb9, 0x64, 0xec, 0x38, 0x43]
set_option maxRecDepth 100000 in
theorem mac_jefe : macF jefeK [jefeA, jefeB].flatten = jefeD := by decide +kernel
end Go.Mac
namespace Go.Proofs.YtnlnbgjpbnjjfaaDoor
open Go Go.RowKit Go.Sha Go.Aff Go.Mac

set_option maxHeartbeats 1000000 in
set_option maxRecDepth 100000 in
theorem hextract_any (w : World) (hG : Glob w) (A : Option Addr) (n c : Nat) (key : List Int) (hn : key.length = n) (hr : Rd w A n (vb key)) (hb : IsBytes key) (hc : n ≤ c) (hm : n ≤ 140737488351232)
    (B : Option Addr) (m d : Nat) (msg : List Int) (hn' : msg.length = m) (hr' : Rd w B m (vb msg)) (hb' : IsBytes msg) (hc' : m ≤ d) (hm' : m ≤ 140737488351232) :
    Calls Tryd.prog 21 #[.slice A n c, .slice B m d] w fun e w' => e = .returned (.agg (vb (macF key msg)).toArray) ∧ Keeps (fun _ => False) w w' := by
  obtain ⟨W1, hW1⟩ : ∃ W1, W1 = w.alloc (.cells (List.replicate 32 (Value.int .u8 0)).toArray 41) := ⟨_, rfl⟩
  have hk1 : Keeps (fun _ => False) w W1 := by rw [hW1]; exact (Keeps.refl _ w).alloc _
  have hz : Blk W1 w.heap.size 41 (List.replicate 32 (Value.int .u8 0)) := by rw [hW1]; exact Blk.new _ _ _
  have hsz : W1.heap.size = w.heap.size + 1 := by rw [hW1]; simp
  have hk2 : Keeps (fun _ => False) W1 (W1.alloc (.cells #[.slice B m d] 22)) := (Keeps.refl _ _).alloc _
  have hp := parts_one (fun _ => False) W1 22 B m d msg (fun _ h => h.elim) hn' (hr'.keep hk1 (no_out _ _)) (no_out _ _) hb' hc' hm'
  have hs := hsum_any (W1.alloc (.cells #[.slice B m d] 22)) (hG.keep (hk1.trans hk2 (fun _ _ h => h)) (fun _ h => h.elim)) A n c key hn ((hr.keep hk1 (no_out _ _)).keep hk2 (no_out _ _)) hb hc hm (some ⟨W1.heap.size, 0, none⟩) 1 1 [msg] rfl hp (by omega) (by simp; omega)
  simp only [List.flatten_cons, List.flatten_nil, List.append_nil] at hs
  rw [hsz] at hs
  have HML : Hid ((vb (macF key msg)).length = 32) := Lib.hid (by rw [vb_length, macF_length])
  obtain ⟨MV, hMV⟩ : ∃ MV, MV = vb (macF key msg) := ⟨_, rfl⟩
  have HM1 : Hid (∀ u ∈ MV, u.oneCell' = true) := Lib.hid (by rw [hMV]; exact vb_one _)
  rw [← hMV] at hs HML ⊢
  have HZ := Lib.hid (hk2.blk hz (fun h => h))
  have HK := Lib.hid (hk1.trans hk2 (fun _ _ h => h))
  rw [hW1] at hs HZ HK
  have HS := Lib.hid hs
  clear hW1 hk1 hz hsz hk2 hp hs hMV hr hb hr' hb' hG
  go_enter Tryd.func21, Tryd.ntmps21
  go_wp2_with (first
    | (go_at_call 19; refine HS.out.mono ?_; rintro e w6 ⟨rfl, hk6⟩; have HZ6 := Lib.hid (hk6.blk HZ.out (fun h => h)); have HK6 := Lib.hid (HK.out.trans hk6 (fun _ _ h => h)); clear hk6)
    | ((with_reducible show wpList _ _ _ (⟨none, Op.store 41 _ _, _, _, _, _⟩ :: _) _ _); refine wpList_store_whole rfl 41 _ _ rfl MV rfl rfl HZ6.out (by rw [HML.out]; simp) (by rw [HML.out]; exact info32) HM1.out ?_))
  refine bodyPost_ret (results_blk rfl _ _ rfl (HZ6.out.setRow MV) Tryd.underlying41 rfl (by rw [HML.out]; exact info32)) rfl ⟨rfl, HK6.out.setRow (.inr (Nat.le_refl _)) _⟩

/-- Bytes in a block of their own, marked or not. -/
theorem rd_marked (w : World) (bs : List Int) (t : TypeId) (fr : Nat × Nat) : Rd (w.alloc (.cells (vb bs).toArray t fr)) (some ⟨w.heap.size, 0, none⟩) bs.length (vb bs) :=
  ⟨vb_length bs, fun _ => ⟨w.heap.size, 0, rfl, fun j _ => by rw [Nat.zero_add, cell_of_row _ _ j _ _ _ (heap_alloc_new w _)]; simp⟩⟩

theorem str_ab : ((strOfNums [97, 98]).toList == [97, 98]) = true := by decide +kernel
set_option maxHeartbeats 4000000 in
set_option maxRecDepth 100000 in
theorem wakes_any (w : World) (hG : Glob w) : Calls Tryd.prog 16 #[] w fun e w' => e = .returned (.bool true) ∧ Keeps (fun _ => False) w w' := by
  have kc := fun (w : World) (C : Array Value) (n c : Nat) => Lib.run_convert_bytes_const (P := Tryd.prog) w 22 5 C n c Tryd.underlying22 Tryd.underlying5
  have kc2 := fun (w : World) (o : Obj) (C : Array Value) (n c : Nat) => kc (w.alloc o) C n c
  have kc3 := fun (w : World) (o o' : Obj) (C : Array Value) (n c : Nat) => kc ((w.alloc o).alloc o') C n c
  simp only [World.size_alloc] at kc2 kc3
  have hby : ∀ bs : List Int, (bs.all fun x => decide (0 ≤ x) && decide (x < 256)) = true → IsBytes bs := fun bs h x hx => by
    have := List.all_eq_true.1 h x hx
    simpa using this
  have HP : Hid (Calls Tryd.prog 13 #[.slice (some ⟨w.heap.size, 0, none⟩) 8 8] (w.alloc (.cells (vb [50, 32, 97, 98, 32, 48, 32, 32]).toArray 5 (8, 9))) fun e w' => ∃ g c A' c', e = .returned (.tuple #[.slice (some ⟨g, 0, none⟩) 2 c, .nilIface]) ∧ Keeps (fun _ => False) w w' ∧ (∀ W, Keeps (fun _ => False) w' W → W.cell? ⟨g, 0, none⟩ = some (.slice A' 2 c') ∧ Rd W A' 2 (vb [97, 98]))) := Lib.hid (by
    refine (hparts_any _ (some ⟨w.heap.size, 0, none⟩) 8 8 [50, 32, 97, 98, 32, 48, 32, 32] rfl (rd_marked w _ _ _) (hby _ (by decide)) (by omega) (by omega)).mono ?_
    rintro e w' ⟨h1, _⟩
    obtain ⟨A, k, c, vals, he, hp⟩ := h1 _ parts_wakes
    have hk : k = 2 := hp.len.symm
    subst hk
    obtain ⟨g, rfl, _, _⟩ := hp.row.form (by omega)
    obtain ⟨A', c', hv, hm⟩ := hp.each 0 [97, 98] rfl
    refine ⟨g, c, A', c', he, ((Keeps.refl _ w).alloc _).trans hp.row.2.1 (fun _ _ h => h), fun W hk => ⟨?_, Rd.of_own (hm.keep hk).1⟩⟩
    have := own_cell (hp.row.keep hk).1 0 (by omega)
    rw [this, hv]
    rfl)
  have HS : Hid (∀ W, Keeps (fun _ => False) w W → Calls Tryd.prog 19 #[.slice (some ⟨W.heap.size, 0, none⟩) 4 4, .slice (some ⟨W.heap.size + 1 + 1 + 1, 0, none⟩) 2 2]
      ((((W.alloc (.cells (vb jefeK).toArray 5 (4, 5))).alloc (.cells (vb jefeA).toArray 5 (16, 17))).alloc (.cells (vb jefeB).toArray 5 (12, 13))).alloc (.cells #[.slice (some ⟨W.heap.size + 1, 0, none⟩) 16 16, .slice (some ⟨W.heap.size + 1 + 1, 0, none⟩) 12 12] 22)) fun e w' => e = .returned (.agg (vb jefeD).toArray) ∧ Keeps (fun _ => False) W w') := Lib.hid fun W hk => by
    have r1 := ((rd_marked W jefeK 5 (4, 5)).alloc (.cells (vb jefeA).toArray 5 (16, 17))).alloc (.cells (vb jefeB).toArray 5 (12, 13))
    have r2 := (rd_marked (W.alloc (.cells (vb jefeK).toArray 5 (4, 5))) jefeA 5 (16, 17)).alloc (.cells (vb jefeB).toArray 5 (12, 13))
    have r3 := rd_marked ((W.alloc (.cells (vb jefeK).toArray 5 (4, 5))).alloc (.cells (vb jefeA).toArray 5 (16, 17))) jefeB 5 (12, 13)
    have hk3 : Keeps (fun _ => False) W (((W.alloc (.cells (vb jefeK).toArray 5 (4, 5))).alloc (.cells (vb jefeA).toArray 5 (16, 17))).alloc (.cells (vb jefeB).toArray 5 (12, 13))) := (((Keeps.refl _ W).alloc _).alloc _).alloc _
    obtain ⟨W3, hW3⟩ : ∃ W3, W3 = (((W.alloc (.cells (vb jefeK).toArray 5 (4, 5))).alloc (.cells (vb jefeA).toArray 5 (16, 17))).alloc (.cells (vb jefeB).toArray 5 (12, 13))) := ⟨_, rfl⟩
    have hsz : W3.heap.size = W.heap.size + 1 + 1 + 1 := by rw [hW3]; simp only [World.size_alloc]
    simp only [World.size_alloc] at r2 r3
    rw [← hW3] at r1 r2 r3 hk3
    have hp := parts_two (fun _ => False) W3 22 _ _ 16 16 12 12 jefeA jefeB (fun _ h => h.elim) rfl r2 (no_out _ _) (hby _ (by decide)) (by decide) (by decide) rfl r3 (no_out _ _) (hby _ (by decide)) (by decide) (by decide)
    rw [hsz] at hp
    have hk4 : Keeps (fun _ => False) W (W3.alloc (.cells #[.slice (some ⟨W.heap.size + 1, 0, none⟩) 16 16, .slice (some ⟨W.heap.size + 1 + 1, 0, none⟩) 12 12] 22)) := hk3.alloc _
    have hs := hsum_any _ ((hG.keep hk (fun _ h => h.elim)).keep hk4 (fun _ h => h.elim)) _ 4 4 jefeK rfl (r1.alloc _) (hby _ (by decide)) (by decide) (by decide) _ 2 2 [jefeA, jefeB] rfl hp (by decide) (by decide)
    rw [mac_jefe] at hs
    rw [← hW3]
    exact hs.mono fun e w' ⟨he, hk'⟩ => ⟨he, hk4.trans hk' (fun _ _ h => h)⟩
  have hab := str_ab
  clear hG hby
  go_enter Tryd.func16, Tryd.ntmps16
  go_wp2_with (first
    | (go_at_call 13; refine HP.out.mono ?_; rintro e w2 ⟨g, c, A', c', rfl, hk2, hv2⟩; have HK2 := Lib.hid hk2; have HV2 := Lib.hid hv2; clear hk2 hv2)
    | (go_at_call 19; refine (HS.out _ HK2.out).mono ?_; rintro e w3 ⟨rfl, hk3⟩; have HK3 := Lib.hid hk3; have HZ3 := Lib.hid (Blk.new w3 41 (List.replicate 32 (Value.int .u8 0))); clear hk3)
    | ((with_reducible show wpList _ _ _ (⟨none, Op.store 41 _ _, _, _, _, _⟩ :: _) _ _); refine wpList_store_whole rfl 41 _ _ rfl (vb jefeD) rfl rfl HZ3.out rfl info32 (vb_one _) ?_; have hb4 := HZ3.out.setRow (vb jefeD); have hk4 := (HK3.out.alloc (.cells (List.replicate 32 (Value.int .u8 0)).toArray 41)).setRow (.inr HK3.out.size) (vb jefeD).toArray; refine gen_world (fun W => Blk W w3.heap.size 41 (vb jefeD) ∧ Keeps (fun _ => False) w2 W) ⟨hb4, hk4⟩ ?_; clear hb4 hk4; rintro W4 ⟨hb4, hk4⟩; have d0 : W4.cell? ⟨w3.heap.size, 0, none⟩ = some (.int .u8 91) := (by rw [hb4.cell]; rfl); have d31 : W4.cell? ⟨w3.heap.size, 31, none⟩ = some (.int .u8 67) := (by rw [hb4.cell]; rfl); obtain ⟨l0, lr⟩ := HV2.out W4 hk4; have hcv := convert_rd (P := Tryd.prog) W4 Tryd.underlying22 Tryd.underlying5 Tryd.underlying9 c' lr; have HK4 := Lib.hid hk4; clear hb4 hk4 lr))
  go_ret
  exact ⟨rfl, HK2.out.trans HK4.out (fun _ _ h => h)⟩
end Go.Proofs.YtnlnbgjpbnjjfaaDoor
