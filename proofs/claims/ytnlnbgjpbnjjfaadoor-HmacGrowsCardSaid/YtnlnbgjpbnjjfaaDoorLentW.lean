/-
  WALKS (laws of hmac): lent, kept.
-/
import Derived.Test.YtnlnbgjpbnjjfaaDoorOwnSet
import Derived.Test.YtnlnbgjpbnjjfaaDoorBaseW
import Derived.Test.YtnlnbgjpbnjjfaaDoorStrL
set_option linter.unusedSimpArgs false
namespace Go.Proofs.YtnlnbgjpbnjjfaaDoor
open Go Go.RowKit Go.Sha Go.Aff

/-- What was lent: the bytes in memory of their own, the marks behind them. -/
def marks (bs : List Int) (k : Nat) : List Int := bs ++ List.replicate k 165
theorem marks_succ (bs : List Int) (k : Nat) : vb (marks bs k) ++ [.int .u8 165] = vb (marks bs (k + 1)) := by
  simp [marks, vb, List.replicate_succ']
theorem marks_length (bs : List Int) (k : Nat) : (marks bs k).length = bs.length + k := by simp [marks]
theorem marks_bytes {bs : List Int} (h : IsBytes bs) (k : Nat) : IsBytes (marks bs k) := fun x hx => by
  rcases List.mem_append.1 hx with hx | hx
  · exact h x hx
  · have := List.eq_of_mem_replicate hx; omega
/-- .. in a world. -/
def Lent (w wr : World) (g n cap : Nat) (bs : List Int) : Prop := Mine w wr 5 (some ⟨g, 0, none⟩) (n + 70) cap (vb (marks bs 70))
theorem Lent.keep {w wr w' : World} {g n cap : Nat} {bs : List Int} (h : Lent w wr g n cap bs) (hk : Keeps (fun _ => False) wr w') : Lent w w' g n cap bs := Mine.keep h hk
theorem Lent.rd {w wr : World} {g n cap : Nat} {bs : List Int} (h : Lent w wr g n cap bs) (hn : bs.length = n) : Rd wr (some ⟨g, 0, none⟩) n (vb bs) := by
  have := (Rd.of_own h.1).take (k := n) (by omega)
  have e : (vb (marks bs 70)).take n = vb bs := by simp [vb, marks, ← hn]
  rwa [e] at this
theorem Lent.cap {w wr : World} {g n cap : Nat} {bs : List Int} (h : Lent w wr g n cap bs) : n + 70 ≤ cap := own_cap h.1

set_option maxHeartbeats 1000000 in
set_option maxRecDepth 100000 in
theorem lent_any (w : World) (A : Option Addr) (n c : Nat) (bs : List Int) (_hn : bs.length = n) (hr : Rd w A n (vb bs)) (hm : n ≤ 140737488351232) :
    Calls Tryd.prog 12 #[.slice A n c] w fun e w' => ∃ g cap, e = .returned (.slice (some ⟨g, 0, none⟩) n cap) ∧ Lent w w' g n cap bs := by
  have h0 : vb bs = vb (marks bs 0) := by simp [marks]
  have HR := Lib.hid hr
  have HS := Lib.hid (marks_succ bs)
  have H0 := Lib.hid h0
  clear hr h0
  go_enter Tryd.func12, Tryd.ntmps12
  go_wp2_with (first
    | (at_make; refine wpList_make0 _ rfl _ _ 22 rfl 5 (.int .u8 0) 1 Tryd.underlying22 info5 .i64 .i64 _ (n + 70) rfl rfl (by omega) (by omega) (by unfold maxLen; omega) ?_; intro w1 ho1 hg1; have HM1 := Lib.hid (Mine.made ho1 hg1); have HR1 := Lib.hid (HR.out.keep HM1.out.2.1 (no_out _ _)); clear ho1 hg1)
    | (at_builtin; refine wpList_append_rd _ rfl (.tmp 9) (.tmp 10) 22 rfl 5 (.int .u8 0) 1 Tryd.underlying22 info5 rfl (.slice (some ⟨w.heap.size, 0, none⟩) 0 (n + 70)) 0 [] rfl HM1.out.1 A n c (vb bs) rfl HR1.out (vb_one bs) (by unfold maxLen; omega) (by omega) ?_; intro A2 c2 w2 hown hg hb; simp only [Nat.zero_add, List.nil_append] at hown hb ⊢; have HM2 := Lib.hid (Mine.app0 HM1.out hown hg hb); clear hown hg hb))
  rw [H0.out] at HM2
  go_loopw [3, 4] (fun v i wr => ∃ (k : Nat) (A3 : Option Addr) (c3 : Nat), k ≤ 70 ∧ i = .int .i64 k ∧ v = .slice A3 (n + k) c3 ∧ Mine w wr 5 A3 (n + k) c3 (vb (marks bs k))) (fun _ i _ => 70 - (intOf i).toNat)
  case atStart => exact ⟨0, A2, c2, by omega, rfl, rfl, HM2.out⟩
  case round =>
    clear HM2
    obtain ⟨k, A3, c3, hk, rfl, rfl, hm3⟩ := hrel
    have HM3 := Lib.hid hm3
    clear hm3
    by_cases hlt : k < 70
    · have HO := Lib.hid (HM3.out.1.alloc (.cells #[.int .u8 165] 5))
      have HRD := Lib.hid (Rd.of_blk (Blk.new wr 5 [.int .u8 165]) (n := 1) rfl)
      go_wp2_with (at_builtin; refine wpList_append_rd _ rfl (.tmp 16) (.tmp 17) 22 rfl 5 (.int .u8 0) 1 Tryd.underlying22 info5 rfl (.slice A3 (n + k) c3) (n + k) _ rfl HO.out _ 1 1 _ rfl HRD.out (vb_one [165]) (by unfold maxLen; omega) (by omega) ?_; intro A4 c4 w4 hown hg hb; rw [HS.out k] at hown; have HM4 := Lib.hid (Mine.app HM3.out hown hg (by simpa only [World.size_alloc] using hb)); clear hown hg hb)
      go_roundw
      case rel => exact ⟨k + 1, A4, c4, by omega, by go_num, rfl, HM4.out⟩
      case measure => simp [intOf]; omega
    · obtain rfl : k = 70 := by omega
      obtain ⟨g, rfl, hgl, hcap⟩ := HM3.out.form (by omega)
      go_wp2
      go_ret
      exact ⟨g, c3, rfl, HM3.out⟩

set_option maxHeartbeats 1000000 in
set_option maxRecDepth 100000 in
theorem kept_any (w w0 : World) (g n cap : Nat) (A : Option Addr) (c : Nat) (bs : List Int) (hn : bs.length = n) (hl : Lent w0 w g n cap bs) (hr : Rd w A n (vb bs)) (hm : n ≤ 140737488351232) :
    Calls Tryd.prog 15 #[.slice (some ⟨g, 0, none⟩) n cap, .slice A n c] w fun e w' => e = .returned (.bool true) ∧ w' = w := by
  have c1 := convert_rd (P := Tryd.prog) w Tryd.underlying22 Tryd.underlying5 Tryd.underlying9 cap (hl.rd hn)
  have c2 := convert_rd (P := Tryd.prog) w Tryd.underlying22 Tryd.underlying5 Tryd.underlying9 c hr
  have hcap := hl.cap
  have HC : Hid (∀ i, n ≤ i → i < n + 70 → w.cell? ⟨g, i, none⟩ = some (.int .u8 165)) := Lib.hid fun i h1 h2 => by
    rw [own_cell hl.1 i h2]
    have : (marks bs 70)[i]? = some 165 := by
      unfold marks
      rw [List.getElem?_append_right (by omega), List.getElem?_replicate, if_pos (by omega)]
    simp [vb, this]
  obtain ⟨str, hstr⟩ : ∃ s, s = strOfNums bs := ⟨_, rfl⟩
  rw [← hstr] at c1 c2
  clear hl hr hn hstr
  go_enter Tryd.func15, Tryd.ntmps15
  go_wp2
  clear c1 c2
  go_loop [6] (fun i => ∃ k : Nat, n ≤ k ∧ k ≤ n + 70 ∧ i = .int .i64 k) (fun i => n + 70 - (intOf i).toNat)
  case atStart => exact ⟨n, by omega, by omega, rfl⟩
  case round =>
    obtain ⟨k, hk1, hk2, rfl⟩ := hrel
    by_cases hlt : k < n + 70
    · have hc := HC.out k hk1 hlt
      have hlt' : (k : Int) < (n : Int) + 70 := by omega
      go_wp2
      go_round
      case rel => exact ⟨k + 1, by omega, by omega, by go_num⟩
      case measure => simp [intOf]; omega
    · obtain rfl : k = n + 70 := by omega
      go_wp2
      go_ret
      exact ⟨rfl, rfl⟩
end Go.Proofs.YtnlnbgjpbnjjfaaDoor
