/-
  WALKS: pad.
-/
import Derived.Test.YtnlnbgjpbnjjfaaDoorHashW
import Derived.Deep.OwnRows
namespace Go.Sha
def padLen (n : Nat) : Nat := 9 + (119 - n % 64) % 64
/-- the k last bytes of the length -/
def tailB (n : Nat) : Nat → List Int
  | 0 => []
  | k + 1 => (8 * (n : Int) / 2 ^ (8 * k) % 256) :: tailB n k
def padK (n k : Nat) : List Int := 128 :: (List.replicate (padLen n - 1 - k) 0 ++ tailB n k)
/-- What stands behind a row of n bytes. -/
def padF (n : Nat) : List Int := padK n 8
theorem tailB_length (n k : Nat) : (tailB n k).length = k := by induction k <;> simp_all [tailB]
theorem padLen_ge (n : Nat) : 9 ≤ padLen n ∧ padLen n ≤ 72 := by unfold padLen; omega
theorem padLen_whole (n : Nat) : (n + padLen n) % 64 = 0 := by unfold padLen; omega
theorem padK_length (n k : Nat) (hk : k ≤ 8) : (padK n k).length = padLen n := by
  have := padLen_ge n
  simp [padK, tailB_length]; omega
theorem padK_set (n k : Nat) (hk : k < 8) : (padK n k).set (padLen n - 1 - k) (8 * (n : Int) / 2 ^ (8 * k) % 256) = padK n (k + 1) := by
  have h := padLen_ge n
  have e1 : padLen n - 1 - k = (padLen n - 1 - (k + 1)) + 1 := by omega
  unfold padK
  rw [e1, List.set_cons_succ, List.replicate_succ', List.append_assoc, List.set_append_right _ _ (by simp)]
  simp [tailB]
theorem tailB_bytes (n k : Nat) : Go.Aff.IsBytes (tailB n k) := by
  induction k with
  | zero => intro x hx; cases hx
  | succ k ih =>
    intro x hx
    rcases List.mem_cons.1 hx with rfl | hx
    · omega
    · exact ih x hx
theorem padF_bytes (n : Nat) : Go.Aff.IsBytes (padF n) := by
  intro x hx
  rcases List.mem_cons.1 hx with rfl | hx
  · omega
  · rcases List.mem_append.1 hx with hx | hx
    · rw [List.eq_of_mem_replicate hx]; omega
    · exact tailB_bytes n 8 x hx
end Go.Sha
namespace Go.Proofs.YtnlnbgjpbnjjfaaDoor
open Go Go.RowKit Go.Sha Go.Aff

theorem pad_start (n : Nat) : (madeCells #[Value.int .u8 0] (padLen n)).setIfInBounds 0 (.int .u8 128) = (vb (padK n 0)).toArray := by
  have h := padLen_ge n
  have e : madeCells #[Value.int .u8 0] (padLen n) = (List.replicate (padLen n) (Value.int .u8 0)).toArray := by
    rw [← toList_madeCells_one]
  rw [e]
  obtain ⟨m, hm⟩ : ∃ m, padLen n = m + 1 := ⟨padLen n - 1, by omega⟩
  simp [padK, tailB, vb, hm, List.replicate_succ]
set_option maxRecDepth 100000 in
theorem pad_any (w : World) (n : Nat) (hn : n < 2305843009213693952) :
    Calls Tryd.prog 57 #[.int .u64 n] w fun e w' => e = .returned (.slice (some ⟨w.heap.size, 0, none⟩) (padLen n) (padLen n)) ∧ Blk w' w.heap.size 5 (vb (padF n)) ∧ Keeps (fun _ => False) w w' := by
  have hL := padLen_ge n
  have hcast : (9 : Int) + (119 - (n : Int)) % 64 = ((padLen n : Nat) : Int) := by unfold padLen; omega
  have hmk := fun W : World => run_make_row' (P := Tryd.prog) 22 5 (.int .u8 0) 1 Tryd.underlying22 info5 rfl .u64 .u64 (padLen n) (by omega) (by omega) W
  have hm0 : (madeCells #[Value.int .u8 0] (padLen n))[0]? = some (.int .u8 0) := by
    rw [← Array.getElem?_toList, toList_madeCells_one, List.getElem?_replicate, if_pos (by omega)]
  have hst : Blk (w.alloc (.cells ((madeCells #[Value.int .u8 0] (padLen n)).setIfInBounds 0 (.int .u8 128)) 5)) w.heap.size 5 (vb (padK n 0)) := by
    rw [pad_start]; exact Blk.new _ _ _
  have HST := Lib.hid hst
  clear hst
  have H8 : 8 < padLen n := by omega
  go_enter Tryd.func57, Tryd.ntmps57
  go_wp2
  go_loopw [4, 13] (fun _ i wr => ∃ k : Nat, k ≤ 8 ∧ i = .int .i64 k ∧ Blk wr w.heap.size 5 (vb (padK n k)) ∧ Keeps (fun _ => False) w wr) (fun _ i _ => 8 - (intOf i).toNat)
  case atStart => exact ⟨0, by omega, rfl, HST.out, (Keeps.refl _ _).alloc _⟩
  case round =>
    clear hmk hm0 HST hcast
    obtain ⟨k, hk, rfl, hb, hkeep⟩ := hrel
    by_cases hlt : k < 8
    · have hlen : (vb (padK n k)).length = padLen n := by simp [vb, padK_length n k (by omega)]
      have hcell : ∃ u, wr.cell? ⟨w.heap.size, padLen n - 1 - k, none⟩ = some u := by
        rw [hb.cell]
        exact ⟨_, List.getElem?_eq_getElem (by rw [hlen]; omega)⟩
      obtain ⟨u, hcell⟩ := hcell
      have hf := hb.frozen (padLen n - 1 - k)
      have hi : ((padLen n : Int) - 1 - (k : Int)).toNat = padLen n - 1 - k := by omega
      have HB := Lib.hid hb
      have HKp := Lib.hid hkeep
      clear hb hkeep hlen
      go_wp2
      go_roundw
      case rel =>
        refine ⟨k + 1, by omega, by go_num, ?_, HKp.out.setCell (.inr (Nat.le_refl _)) _⟩
        have h := HB.out.set_ (padLen n - 1 - k) (.int .u8 (8 * (n : Int) / 2 ^ (8 * k) % 256))
        have e : (vb (padK n k)).set (padLen n - 1 - k) (.int .u8 (8 * (n : Int) / 2 ^ (8 * k) % 256)) = vb (padK n (k + 1)) := by
          unfold vb
          rw [← padK_set n k hlt, List.map_set]
        rwa [e] at h
      case measure => simp [intOf]; omega
    · obtain rfl : k = 8 := by omega
      have HB := Lib.hid hb
      have HKp := Lib.hid hkeep
      clear hb hkeep
      go_wp2
      go_ret
      exact ⟨rfl, HB.out, HKp.out⟩
end Go.Proofs.YtnlnbgjpbnjjfaaDoor
