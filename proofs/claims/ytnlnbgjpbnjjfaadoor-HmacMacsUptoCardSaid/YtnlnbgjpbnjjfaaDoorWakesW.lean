/-
  WALKS (laws of hmac): lent, kept, wakes.
-/
import Derived.Test.YtnlnbgjpbnjjfaaDoorMemK
import Derived.Test.YtnlnbgjpbnjjfaaDoorShaBW
import Derived.Test.YtnlnbgjpbnjjfaaDoorMacAW
import Derived.Test.YtnlnbgjpbnjjfaaDoorPartsW
import Derived.Lib.SlBytesConst
set_option linter.unusedSimpArgs false
namespace Go.Proofs.YtnlnbgjpbnjjfaaDoor
open Go Go.RowKit Go.Sha Go.Aff

/-- What was lent: the bytes in memory of their own, the marks behind them. -/
def marks (bs : List Int) (k : Nat) : List Int := bs ++ List.replicate k 165
theorem marks_succ (bs : List Int) (k : Nat) : vb (marks bs k) ++ [.int .u8 165] = vb (marks bs (k + 1)) := by
  simp [marks, vb, List.replicate_succ']
theorem marks_length (bs : List Int) (k : Nat) : (marks bs k).length = bs.length + k := by simp [marks]
theorem marks_bytes {bs : List Int} (h : IsBytes bs) (k : Nat) : IsBytes (marks bs k) := fun x hx => by
  rcases List.mem_append.1 hx with hx | hx
  · exact h x hx
  · have := List.eq_of_mem_replicate hx; omega
/-- .. in a world. -/
def Lent (w wr : World) (g n cap : Nat) (bs : List Int) : Prop := Mine w wr 5 (some ⟨g, 0, none⟩) (n + 70) cap (vb (marks bs 70))
theorem Lent.keep {w wr w' : World} {g n cap : Nat} {bs : List Int} (h : Lent w wr g n cap bs) (hk : Keeps (fun _ => False) wr w') : Lent w w' g n cap bs := Mine.keep h hk
theorem Lent.rd {w wr : World} {g n cap : Nat} {bs : List Int} (h : Lent w wr g n cap bs) (hn : bs.length = n) : Rd wr (some ⟨g, 0, none⟩) n (vb bs) := by
  have := (Rd.of_own h.1).take (k := n) (by omega)
  have e : (vb (marks bs 70)).take n = vb bs := by simp [vb, marks, ← hn]
  rwa [e] at this
theorem Lent.cap {w wr : World} {g n cap : Nat} {bs : List Int} (h : Lent w wr g n cap bs) : n + 70 ≤ cap := own_cap h.1

set_option maxHeartbeats 1000000 in
set_option maxRecDepth 100000 in
theorem lent_any (w : World) (A : Option Addr) (n c : Nat) (bs : List Int) (_hn : bs.length = n) (hr : Rd w A n (vb bs)) (hm : n ≤ 140737488351232) :
    Calls Tryd.prog 12 #[.slice A n c] w fun e w' => ∃ g cap, e = .returned (.slice (some ⟨g, 0, none⟩) n cap) ∧ Lent w w' g n cap bs := by
  have h0 : vb bs = vb (marks bs 0) := by simp [marks]
  have HR := Lib.hid hr
  have HS := Lib.hid (marks_succ bs)
  have H0 := Lib.hid h0
  clear hr h0
  go_enter Tryd.func12, Tryd.ntmps12
  go_wp2_with (first
    | (at_make; refine wpList_make0 _ rfl _ _ 22 rfl 5 (.int .u8 0) 1 Tryd.underlying22 info5 .i64 .i64 _ (n + 70) rfl rfl (by omega) (by omega) (by unfold maxLen; omega) ?_; intro w1 ho1 hg1; have HM1 := Lib.hid (Mine.made ho1 hg1); have HR1 := Lib.hid (HR.out.keep HM1.out.2.1 (no_out _ _)); clear ho1 hg1)
    | (at_builtin; refine wpList_append_rd _ rfl (.tmp 9) (.tmp 10) 22 rfl 5 (.int .u8 0) 1 Tryd.underlying22 info5 rfl (.slice (some ⟨w.heap.size, 0, none⟩) 0 (n + 70)) 0 [] rfl HM1.out.1 A n c (vb bs) rfl HR1.out (vb_one bs) (by unfold maxLen; omega) (by omega) ?_; intro A2 c2 w2 hown hg hb; simp only [Nat.zero_add, List.nil_append] at hown hb ⊢; have HM2 := Lib.hid (Mine.app0 HM1.out hown hg hb); clear hown hg hb))
  rw [H0.out] at HM2
  go_loopw [3, 4] (fun v i wr => ∃ (k : Nat) (A3 : Option Addr) (c3 : Nat), k ≤ 70 ∧ i = .int .i64 k ∧ v = .slice A3 (n + k) c3 ∧ Mine w wr 5 A3 (n + k) c3 (vb (marks bs k))) (fun _ i _ => 70 - (intOf i).toNat)
  case atStart => exact ⟨0, A2, c2, by omega, rfl, rfl, HM2.out⟩
  case round =>
    clear HM2
    obtain ⟨k, A3, c3, hk, rfl, rfl, hm3⟩ := hrel
    have HM3 := Lib.hid hm3
    clear hm3
    by_cases hlt : k < 70
    · have HO := Lib.hid (HM3.out.1.alloc (.cells #[.int .u8 165] 5))
      have HRD := Lib.hid (Rd.of_blk (Blk.new wr 5 [.int .u8 165]) (n := 1) rfl)
      go_wp2_with (at_builtin; refine wpList_append_rd _ rfl (.tmp 16) (.tmp 17) 22 rfl 5 (.int .u8 0) 1 Tryd.underlying22 info5 rfl (.slice A3 (n + k) c3) (n + k) _ rfl HO.out _ 1 1 _ rfl HRD.out (vb_one [165]) (by unfold maxLen; omega) (by omega) ?_; intro A4 c4 w4 hown hg hb; rw [HS.out k] at hown; have HM4 := Lib.hid (Mine.app HM3.out hown hg (by simpa only [World.size_alloc] using hb)); clear hown hg hb)
      go_roundw
      case rel => exact ⟨k + 1, A4, c4, by omega, by go_num, rfl, HM4.out⟩
      case measure => simp [intOf]; omega
    · obtain rfl : k = 70 := by omega
      obtain ⟨g, rfl, hgl, hcap⟩ := HM3.out.form (by omega)
      go_wp2
      go_ret
      exact ⟨g, c3, rfl, HM3.out⟩

set_option maxHeartbeats 1000000 in
set_option maxRecDepth 100000 in
theorem kept_any (w w0 : World) (g n cap : Nat) (A : Option Addr) (c : Nat) (bs : List Int) (hn : bs.length = n) (hl : Lent w0 w g n cap bs) (hr : Rd w A n (vb bs)) (hm : n ≤ 140737488351232) :
    Calls Tryd.prog 15 #[.slice (some ⟨g, 0, none⟩) n cap, .slice A n c] w fun e w' => e = .returned (.bool true) ∧ w' = w := by
  have c1 := convert_rd (P := Tryd.prog) w Tryd.underlying22 Tryd.underlying5 Tryd.underlying9 cap (hl.rd hn)
  have c2 := convert_rd (P := Tryd.prog) w Tryd.underlying22 Tryd.underlying5 Tryd.underlying9 c hr
  have hcap := hl.cap
  have HC : Hid (∀ i, n ≤ i → i < n + 70 → w.cell? ⟨g, i, none⟩ = some (.int .u8 165)) := Lib.hid fun i h1 h2 => by
    rw [own_cell hl.1 i h2]
    have : (marks bs 70)[i]? = some 165 := by
      unfold marks
      rw [List.getElem?_append_right (by omega), List.getElem?_replicate, if_pos (by omega)]
    simp [vb, this]
  obtain ⟨str, hstr⟩ : ∃ s, s = strOfNums bs := ⟨_, rfl⟩
  rw [← hstr] at c1 c2
  clear hl hr hn hstr
  go_enter Tryd.func15, Tryd.ntmps15
  go_wp2
  clear c1 c2
  go_loop [6] (fun i => ∃ k : Nat, n ≤ k ∧ k ≤ n + 70 ∧ i = .int .i64 k) (fun i => n + 70 - (intOf i).toNat)
  case atStart => exact ⟨n, by omega, by omega, rfl⟩
  case round =>
    obtain ⟨k, hk1, hk2, rfl⟩ := hrel
    by_cases hlt : k < n + 70
    · have hc := HC.out k hk1 hlt
      have hlt' : (k : Int) < (n : Int) + 70 := by omega
      go_wp2
      go_round
      case rel => exact ⟨k + 1, by omega, by omega, by go_num⟩
      case measure => simp [intOf]; omega
    · obtain rfl : k = n + 70 := by omega
      go_wp2
      go_ret
      exact ⟨rfl, rfl⟩
end Go.Proofs.YtnlnbgjpbnjjfaaDoor

namespace Go.Mac
open Go Go.Aff Go.Sha
def jefeK : List Int := [74, 101, 102, 101]
def jefeA : List Int := [119, 104, 97, 116, 32, 100, 111, 32, 121, 97, 32, 119, 97, 110, 116, 32]
def jefeB : List Int := [102, 111, 114, 32, 110, 111, 116, 104, 105, 110, 103, 63]
def jefeD : List Int := [0x5b, 0xdc, 0xc1, 0x46, 0xbf, 0x60, 0x75, 0x4e, 0x6a, 0x04, 0x24, 0x26, 0x08, 0x95, 0x75, 0xc7, 0x5a, 0x00, 0x3f, 0x08, 0x9d, 0x27, 0x39, 0x83, 0x9d, 0xec, 0x58, 0xb9, 0x64, 0xec, 0x38, 0x43]
set_option maxRecDepth 100000 in
theorem mac_jefe : macF jefeK [jefeA, jefeB].flatten = jefeD := by decide +kernel
end Go.Mac
namespace Go.Proofs.YtnlnbgjpbnjjfaaDoor
open Go Go.RowKit Go.Sha Go.Aff Go.Mac

set_option maxHeartbeats 1000000 in
set_option maxRecDepth 100000 in
theorem hextract_any (w : World) (hG : Glob w) (A : Option Addr) (n c : Nat) (key : List Int) (hn : key.length = n) (hr : Rd w A n (vb key)) (hb : IsBytes key) (hc : n ≤ c) (hm : n ≤ 140737488351232)
    (B : Option Addr) (m d : Nat) (msg : List Int) (hn' : msg.length = m) (hr' : Rd w B m (vb msg)) (hb' : IsBytes msg) (hc' : m ≤ d) (hm' : m ≤ 140737488351232) :
    Calls Tryd.prog 21 #[.slice A n c, .slice B m d] w fun e w' => e = .returned (.agg (vb (macF key msg)).toArray) ∧ Keeps (fun _ => False) w w' := by
  obtain ⟨W1, hW1⟩ : ∃ W1, W1 = w.alloc (.cells (List.replicate 32 (Value.int .u8 0)).toArray 41) := ⟨_, rfl⟩
  have hk1 : Keeps (fun _ => False) w W1 := by rw [hW1]; exact (Keeps.refl _ w).alloc _
  have hz : Blk W1 w.heap.size 41 (List.replicate 32 (Value.int .u8 0)) := by rw [hW1]; exact Blk.new _ _ _
  have hsz : W1.heap.size = w.heap.size + 1 := by rw [hW1]; simp
  have hk2 : Keeps (fun _ => False) W1 (W1.alloc (.cells #[.slice B m d] 22)) := (Keeps.refl _ _).alloc _
  have hp := parts_one (fun _ => False) W1 22 B m d msg (fun _ h => h.elim) hn' (hr'.keep hk1 (no_out _ _)) (no_out _ _) hb' hc' hm'
  have hs := hsum_any (W1.alloc (.cells #[.slice B m d] 22)) (hG.keep (hk1.trans hk2 (fun _ _ h => h)) (fun _ h => h.elim)) A n c key hn ((hr.keep hk1 (no_out _ _)).keep hk2 (no_out _ _)) hb hc hm (some ⟨W1.heap.size, 0, none⟩) 1 1 [msg] rfl hp (by omega) (by simp; omega)
  simp only [List.flatten_cons, List.flatten_nil, List.append_nil] at hs
  rw [hsz] at hs
  have HML : Hid ((vb (macF key msg)).length = 32) := Lib.hid (by rw [vb_length, macF_length])
  obtain ⟨MV, hMV⟩ : ∃ MV, MV = vb (macF key msg) := ⟨_, rfl⟩
  have HM1 : Hid (∀ u ∈ MV, u.oneCell' = true) := Lib.hid (by rw [hMV]; exact vb_one _)
  rw [← hMV] at hs HML ⊢
  have HZ := Lib.hid (hk2.blk hz (fun h => h))
  have HK := Lib.hid (hk1.trans hk2 (fun _ _ h => h))
  rw [hW1] at hs HZ HK
  have HS := Lib.hid hs
  clear hW1 hk1 hz hsz hk2 hp hs hMV hr hb hr' hb' hG
  go_enter Tryd.func21, Tryd.ntmps21
  go_wp2_with (first
    | (go_at_call 19; refine HS.out.mono ?_; rintro e w6 ⟨rfl, hk6⟩; have HZ6 := Lib.hid (hk6.blk HZ.out (fun h => h)); have HK6 := Lib.hid (HK.out.trans hk6 (fun _ _ h => h)); clear hk6)
    | ((with_reducible show wpList _ _ _ (⟨none, Op.store 41 _ _, _, _, _, _⟩ :: _) _ _); refine wpList_store_whole rfl 41 _ _ rfl MV rfl rfl HZ6.out (by rw [HML.out]; simp) (by rw [HML.out]; exact info32) HM1.out ?_))
  refine bodyPost_ret (results_blk rfl _ _ rfl (HZ6.out.setRow MV) Tryd.underlying41 rfl (by rw [HML.out]; exact info32)) rfl ⟨rfl, HK6.out.setRow (.inr (Nat.le_refl _)) _⟩

/-- Bytes in a block of their own, marked or not. -/
theorem rd_marked (w : World) (bs : List Int) (t : TypeId) (fr : Nat × Nat) : Rd (w.alloc (.cells (vb bs).toArray t fr)) (some ⟨w.heap.size, 0, none⟩) bs.length (vb bs) :=
  ⟨vb_length bs, fun _ => ⟨w.heap.size, 0, rfl, fun j _ => by rw [Nat.zero_add, cell_of_row _ _ j _ _ _ (heap_alloc_new w _)]; simp⟩⟩

theorem str_ab : ((strOfNums [97, 98]).toList == [97, 98]) = true := by decide +kernel
set_option maxHeartbeats 4000000 in
set_option maxRecDepth 100000 in
theorem wakes_any (w : World) (hG : Glob w) : Calls Tryd.prog 16 #[] w fun e w' => e = .returned (.bool true) ∧ Keeps (fun _ => False) w w' := by
  have kc := fun (w : World) (C : Array Value) (n c : Nat) => Lib.run_convert_bytes_const (P := Tryd.prog) w 22 5 C n c Tryd.underlying22 Tryd.underlying5
  have kc2 := fun (w : World) (o : Obj) (C : Array Value) (n c : Nat) => kc (w.alloc o) C n c
  have kc3 := fun (w : World) (o o' : Obj) (C : Array Value) (n c : Nat) => kc ((w.alloc o).alloc o') C n c
  simp only [World.size_alloc] at kc2 kc3
  have hby : ∀ bs : List Int, (bs.all fun x => decide (0 ≤ x) && decide (x < 256)) = true → IsBytes bs := fun bs h x hx => by
    have := List.all_eq_true.1 h x hx
    simpa using this
  have HP : Hid (Calls Tryd.prog 13 #[.slice (some ⟨w.heap.size, 0, none⟩) 8 8] (w.alloc (.cells (vb [50, 32, 97, 98, 32, 48, 32, 32]).toArray 5 (8, 9))) fun e w' => ∃ g c A' c', e = .returned (.tuple #[.slice (some ⟨g, 0, none⟩) 2 c, .nilIface]) ∧ Keeps (fun _ => False) w w' ∧ (∀ W, Keeps (fun _ => False) w' W → W.cell? ⟨g, 0, none⟩ = some (.slice A' 2 c') ∧ Rd W A' 2 (vb [97, 98]))) := Lib.hid (by
    refine (hparts_any _ (some ⟨w.heap.size, 0, none⟩) 8 8 [50, 32, 97, 98, 32, 48, 32, 32] rfl (rd_marked w _ _ _) (hby _ (by decide)) (by omega) (by omega)).mono ?_
    rintro e w' ⟨h1, _⟩
    obtain ⟨A, k, c, vals, he, hp⟩ := h1 _ parts_wakes
    have hk : k = 2 := hp.len.symm
    subst hk
    obtain ⟨g, rfl, _, _⟩ := hp.row.form (by omega)
    obtain ⟨A', c', hv, hm⟩ := hp.each 0 [97, 98] rfl
    refine ⟨g, c, A', c', he, ((Keeps.refl _ w).alloc _).trans hp.row.2.1 (fun _ _ h => h), fun W hk => ⟨?_, Rd.of_own (hm.keep hk).1⟩⟩
    have := own_cell (hp.row.keep hk).1 0 (by omega)
    rw [this, hv]
    rfl)
  have HS : Hid (∀ W, Keeps (fun _ => False) w W → Calls Tryd.prog 19 #[.slice (some ⟨W.heap.size, 0, none⟩) 4 4, .slice (some ⟨W.heap.size + 1 + 1 + 1, 0, none⟩) 2 2]
      ((((W.alloc (.cells (vb jefeK).toArray 5 (4, 5))).alloc (.cells (vb jefeA).toArray 5 (16, 17))).alloc (.cells (vb jefeB).toArray 5 (12, 13))).alloc (.cells #[.slice (some ⟨W.heap.size + 1, 0, none⟩) 16 16, .slice (some ⟨W.heap.size + 1 + 1, 0, none⟩) 12 12] 22)) fun e w' => e = .returned (.agg (vb jefeD).toArray) ∧ Keeps (fun _ => False) W w') := Lib.hid fun W hk => by
    have r1 := ((rd_marked W jefeK 5 (4, 5)).alloc (.cells (vb jefeA).toArray 5 (16, 17))).alloc (.cells (vb jefeB).toArray 5 (12, 13))
    have r2 := (rd_marked (W.alloc (.cells (vb jefeK).toArray 5 (4, 5))) jefeA 5 (16, 17)).alloc (.cells (vb jefeB).toArray 5 (12, 13))
    have r3 := rd_marked ((W.alloc (.cells (vb jefeK).toArray 5 (4, 5))).alloc (.cells (vb jefeA).toArray 5 (16, 17))) jefeB 5 (12, 13)
    have hk3 : Keeps (fun _ => False) W (((W.alloc (.cells (vb jefeK).toArray 5 (4, 5))).alloc (.cells (vb jefeA).toArray 5 (16, 17))).alloc (.cells (vb jefeB).toArray 5 (12, 13))) := (((Keeps.refl _ W).alloc _).alloc _).alloc _
    obtain ⟨W3, hW3⟩ : ∃ W3, W3 = (((W.alloc (.cells (vb jefeK).toArray 5 (4, 5))).alloc (.cells (vb jefeA).toArray 5 (16, 17))).alloc (.cells (vb jefeB).toArray 5 (12, 13))) := ⟨_, rfl⟩
    have hsz : W3.heap.size = W.heap.size + 1 + 1 + 1 := by rw [hW3]; simp only [World.size_alloc]
    simp only [World.size_alloc] at r2 r3
    rw [← hW3] at r1 r2 r3 hk3
    have hp := parts_two (fun _ => False) W3 22 _ _ 16 16 12 12 jefeA jefeB (fun _ h => h.elim) rfl r2 (no_out _ _) (hby _ (by decide)) (by decide) (by decide) rfl r3 (no_out _ _) (hby _ (by decide)) (by decide) (by decide)
    rw [hsz] at hp
    have hk4 : Keeps (fun _ => False) W (W3.alloc (.cells #[.slice (some ⟨W.heap.size + 1, 0, none⟩) 16 16, .slice (some ⟨W.heap.size + 1 + 1, 0, none⟩) 12 12] 22)) := hk3.alloc _
    have hs := hsum_any _ ((hG.keep hk (fun _ h => h.elim)).keep hk4 (fun _ h => h.elim)) _ 4 4 jefeK rfl (r1.alloc _) (hby _ (by decide)) (by decide) (by decide) _ 2 2 [jefeA, jefeB] rfl hp (by decide) (by decide)
    rw [mac_jefe] at hs
    rw [← hW3]
    exact hs.mono fun e w' ⟨he, hk'⟩ => ⟨he, hk4.trans hk' (fun _ _ h => h)⟩
  have hab := str_ab
  clear hG hby
  go_enter Tryd.func16, Tryd.ntmps16
  go_wp2_with (first
    | (go_at_call 13; refine HP.out.mono ?_; rintro e w2 ⟨g, c, A', c', rfl, hk2, hv2⟩; have HK2 := Lib.hid hk2; have HV2 := Lib.hid hv2; clear hk2 hv2)
    | (go_at_call 19; refine (HS.out _ HK2.out).mono ?_; rintro e w3 ⟨rfl, hk3⟩; have HK3 := Lib.hid hk3; have HZ3 := Lib.hid (Blk.new w3 41 (List.replicate 32 (Value.int .u8 0))); clear hk3)
    | ((with_reducible show wpList _ _ _ (⟨none, Op.store 41 _ _, _, _, _, _⟩ :: _) _ _); refine wpList_store_whole rfl 41 _ _ rfl (vb jefeD) rfl rfl HZ3.out rfl info32 (vb_one _) ?_; have hb4 := HZ3.out.setRow (vb jefeD); have hk4 := (HK3.out.alloc (.cells (List.replicate 32 (Value.int .u8 0)).toArray 41)).setRow (.inr HK3.out.size) (vb jefeD).toArray; refine gen_world (fun W => Blk W w3.heap.size 41 (vb jefeD) ∧ Keeps (fun _ => False) w2 W) ⟨hb4, hk4⟩ ?_; clear hb4 hk4; rintro W4 ⟨hb4, hk4⟩; have d0 : W4.cell? ⟨w3.heap.size, 0, none⟩ = some (.int .u8 91) := (by rw [hb4.cell]; rfl); have d31 : W4.cell? ⟨w3.heap.size, 31, none⟩ = some (.int .u8 67) := (by rw [hb4.cell]; rfl); obtain ⟨l0, lr⟩ := HV2.out W4 hk4; have hcv := convert_rd (P := Tryd.prog) W4 Tryd.underlying22 Tryd.underlying5 Tryd.underlying9 c' lr; have HK4 := Lib.hid hk4; clear hb4 hk4 lr))
  go_ret
  exact ⟨rfl, HK2.out.trans HK4.out (fun _ _ h => h)⟩
end Go.Proofs.YtnlnbgjpbnjjfaaDoor

