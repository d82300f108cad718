/-
  WALKS: the reference's Len and Pad.
-/
import Derived.Test.YtknecjjdegngfaaDoorRHashW
import Derived.Test.YtknecjjdegngfaaDoorPadsP
set_option linter.unusedSimpArgs false
namespace Go.Proofs.YtknecjjdegngfaaDoor
open Go Go.RowKit Go.Sha Go.Aff

set_option maxRecDepth 100000 in
theorem rlen_any (w : World) (S : Nat → Int) (nb : Nat) (A : Option Addr) (n c : Nat) (h : 64 * nb + n < 2305843009213693952) (hn : n ≤ 64) :
    Calls Tryd.prog 92 #[.agg (hcells S nb (.slice A n c)).toArray] w fun e w' => e = .returned (.int .u64 ((64 * nb + n : Nat) : Int)) ∧ Keeps (fun _ => False) w w' := by
  obtain ⟨cs, hcs⟩ : ∃ cs, cs = (hcells S nb (.slice A n c)).toArray := ⟨_, rfl⟩
  have k8 : cs[8]? = some (.int .u64 nb) := by rw [hcs]; rfl
  have k9 : cs[9]? = some (.slice A n c) := by rw [hcs]; rfl
  have h0 : 64 * (nb : Int) + (n : Int) < 2305843009213693952 := by omega
  have HF : Hid ((64 * (nb : Int) + (n : Int)) = ((64 * nb + n : Nat) : Int)) := Lib.hid (by omega)
  obtain ⟨L, hL⟩ : ∃ L : Int, L = ((64 * nb + n : Nat) : Int) := ⟨_, rfl⟩
  rw [← hL] at HF ⊢
  rw [← hcs]
  clear hcs h hL
  go_enter Tryd.func92, Tryd.ntmps92
  go_wp2
  go_ret
  exact ⟨by rw [← HF.out]; rfl, (Keeps.refl _ w).alloc _⟩

/-- While what stands behind is put together: m bytes of it are. -/
def RPadRel (w : World) (n m : Nat) (v : Value) (wr : World) : Prop :=
  ∃ A c, v = .slice A m c ∧ wr.ownsRow 0 5 1 v m (vb ((padF n).take m)) ∧ Keeps (fun _ => False) w wr ∧ ∀ g, v.ownBlock = some g → w.heap.size ≤ g

theorem RPadRel.step {w wr w' : World} {n m : Nat} {A A' : Option Addr} {c c' : Nat} {b : Int} (h : RPadRel w n m (.slice A m c) wr) (hb : b = (padF n).getD m 0) (hm : m < padLen n)
    (hown : w'.ownsRow 0 5 1 (.slice A' (m + 1) c') (m + 1) (vb ((padF n).take m) ++ [.int .u8 b])) (hg : (wr.alloc (.cells #[.int .u8 b] 5)).grownBy w' (Value.slice A m c).ownBlock)
    (hk : (Value.slice A' (m + 1) c').ownBlock = (Value.slice A m c).ownBlock ∨ (Value.slice A' (m + 1) c').ownBlock = some (wr.heap.size + 1)) : RPadRel w n (m + 1) (.slice A' (m + 1) c') w' := by
  obtain ⟨A0, c0, e0, h1, h2, h3⟩ := h
  have hl : (padF n).length = padLen n := padK_length n 8 (by omega)
  have e : (padF n).take (m + 1) = (padF n).take m ++ [b] := by
    rw [List.take_succ_eq_append_getElem (by omega), hb]
    simp [hl, hm]
  refine ⟨A', c', rfl, ?_, (h2.alloc _).grown hg (fun g hgg => .inr (h3 g hgg)), ?_⟩
  · rw [e]
    simpa [vb] using hown
  · intro g hgg
    rcases hk with h | h
    · exact h3 g (h.symm.trans hgg)
    · rw [h] at hgg
      injection hgg with e'
      have := h2.size
      omega

set_option maxHeartbeats 1000000 in
set_option maxRecDepth 100000 in
theorem rpad_any (w : World) (n : Nat) (hn : n < 2305843009213693952) :
    Calls Tryd.prog 91 #[.int .u64 n] w fun e w' => ∃ A c, e = .returned (.slice A (padLen n) c) ∧ w'.ownsRow 0 5 1 (.slice A (padLen n) c) (padLen n) (vb (padF n)) ∧ Keeps (fun _ => False) w w' ∧ ∀ g, (Value.slice A (padLen n) c).ownBlock = some g → w.heap.size ≤ g := by
  have hpl : (padF n).length = padLen n := padK_length n 8 (by omega)
  have hL := padLen_ge n
  have hLe : padLen n = 9 + (119 - n % 64) % 64 := rfl
  have R0 : Hid (RPadRel w n 1 (.slice (some ⟨w.heap.size, 0, none⟩) 1 1) (w.alloc (.cells #[.int .u8 128] 5))) := by
    refine ⟨_, _, rfl, ⟨by simp [vb, hpl]; omega, .inr ⟨w.heap.size, 1, #[.int .u8 128], rfl, Nat.zero_le _, heap_alloc_new w _, Nat.le_refl _, by unfold maxLen; omega, rfl, ?_⟩⟩, (Keeps.refl _ w).alloc _, fun g e => by injection e with e; have e' : w.heap.size = g := e; omega⟩
    rfl
  have hz : Hid (∀ m, 1 ≤ m → m + 8 < padLen n → (padF n).getD m 0 = 0) := fun m h1 h2 => by
    have := padF_zero n (m - 1) (by omega)
    rwa [show m - 1 + 1 = m by omega] at this
  have hby : Hid (∀ k, k < 8 → (padF n).getD (padLen n - 8 + k) 0 = 8 * (n : Int) / 2 ^ (56 - 8 * k) % 256) := fun k hk => by
    have := padF_byte n (padLen n - 8 + k - 1) hn (by omega)
    rw [show padLen n - 8 + k - 1 + 1 = padLen n - 8 + k by omega, show 8 * (padLen n - 1 - (padLen n - 8 + k)) = 56 - 8 * k by omega] at this
    exact this
  have hfin : Hid (∀ v wr, RPadRel w n (padLen n) v wr → ∃ A c, v = .slice A (padLen n) c ∧ wr.ownsRow 0 5 1 (.slice A (padLen n) c) (padLen n) (vb (padF n)) ∧ Keeps (fun _ => False) w wr ∧ ∀ g, (Value.slice A (padLen n) c).ownBlock = some g → w.heap.size ≤ g) := by
    rintro v wr ⟨A, c, rfl, h1, h2, h3⟩
    rw [← hpl, List.take_length] at h1
    rw [hpl] at h1
    exact ⟨A, c, rfl, h1, h2, h3⟩
  obtain ⟨PL, hPL⟩ : ∃ PL, PL = padLen n := ⟨_, rfl⟩
  have HPL := Lib.hid hPL
  rw [← hPL] at hL hLe hz hby hfin ⊢
  obtain ⟨N, hN⟩ : ∃ N : Int, N = n := ⟨_, rfl⟩
  have hNb : 0 ≤ N := by omega
  have hNb2 : N < 2305843009213693952 := by omega
  have HN := Lib.hid hN
  rw [← hN]
  have HLE : Hid (∀ m : Nat, m ≤ PL - 8 → 1 ≤ m → ((N + (m : Int) + 8) % 64 = 0 ↔ m = PL - 8)) := fun m h1 h2 => by omega
  clear hpl hPL hn hN hLe
  go_enter Tryd.func91, Tryd.ntmps91
  go_wp2
  go_loopw [3] (fun v wr => ∃ m, 1 ≤ m ∧ m ≤ PL - 8 ∧ lenV v = m ∧ RPadRel w n m v wr) (fun v _ => PL - lenV v)
  case atStart => exact ⟨1, by omega, by omega, rfl, R0.out⟩
  case round =>
    clear R0
    obtain ⟨m, hm1, hm2, _, hrel⟩ := hrel
    obtain ⟨A, c, rfl, _⟩ := id hrel
    have HR := Lib.hid hrel
    clear hrel
    have HO := Lib.hid ((id HR.out : RPadRel w n m _ wr).elim fun A0 h => h.elim fun c0 h => h.2.1)
    have HOA := Lib.hid (HO.out.alloc (.cells #[.int .u8 0] 5))
    have HRD := Lib.hid (Rd.of_blk (Blk.new wr 5 [.int .u8 0]) (n := 1) rfl)
    by_cases hlt : m < PL - 8
    · have hq : ((N + (m : Int) + 8) % 64 != 0) = true := by simp only [bne_iff_ne]; exact fun e => by have := (HLE.out m (by omega) hm1).1 e; omega
      have hNm : (m : Int) < 80 := by omega
      have hst : Hid (∀ A' c' w', w'.ownsRow 0 5 1 (.slice A' (m + 1) c') (m + 1) (vb ((padF n).take m) ++ [.int .u8 0]) → (wr.alloc (.cells #[.int .u8 0] 5)).grownBy w' (Value.slice A m c).ownBlock → ((Value.slice A' (m + 1) c').ownBlock = (Value.slice A m c).ownBlock ∨ (Value.slice A' (m + 1) c').ownBlock = some (wr.alloc (.cells #[.int .u8 0] 5)).heap.size) → RPadRel w n (m + 1) (.slice A' (m + 1) c') w') := fun A' c' w' hown hg hb => RPadRel.step HR.out (hz.out m hm1 (by omega)).symm (by rw [← HPL.out]; omega) hown hg (by simpa only [World.alloc, Array.size_push] using hb)
      go_wp2_with (at_builtin; refine wpList_append_rd _ rfl (.tmp 14) (.tmp 15) 22 rfl 5 (.int .u8 0) 1 Tryd.underlying22 info5 rfl _ m _ rfl HOA.out _ 1 1 _ rfl HRD.out (vb_one [0]) (by unfold maxLen; omega) (by omega) ?_; intro A' c' w' hown hg hb; have HW := Lib.hid (hst.out A' c' w' hown hg hb); clear hown hg hb)
      go_roundw
      case rel => exact ⟨m + 1, by omega, by omega, rfl, HW.out⟩
      case measure => simp only [lenV]; omega
    · have hq : ((N + (m : Int) + 8) % 64 != 0) = false := by simp only [bne_eq_false_iff_eq]; exact (HLE.out m (by omega) hm1).2 (by omega)
      have hNm : (m : Int) < 80 := by omega
      obtain rfl : m = PL - 8 := by omega
      go_wp2
      clear HOA HRD HO hq hNm HLE hz
      go_loopw [3, 4] (fun v i wr => ∃ k : Nat, k ≤ 8 ∧ i = .int .i64 (56 - 8 * (k : Int)) ∧ lenV v = PL - 8 + k ∧ RPadRel w n (PL - 8 + k) v wr) (fun v _ _ => PL - lenV v)
      case atStart => exact ⟨0, by omega, rfl, rfl, HR.out⟩
      case round =>
        clear HR
        obtain ⟨k, hk, rfl, hlv, hrel⟩ := hrel
        obtain ⟨A, c, rfl, _⟩ := id hrel
        have HR := Lib.hid hrel
        clear hrel
        by_cases hlt : k < 8
        · have hq : (0 : Int) ≤ 56 - 8 * (k : Int) := by omega
          have hB := hby.out k hlt
          rw [← HN.out] at hB
          have HO := Lib.hid ((id HR.out : RPadRel w n (PL - 8 + k) _ wr).elim fun A0 h => h.elim fun c0 h => h.2.1)
          have HOA := Lib.hid (HO.out.alloc (.cells #[.int .u8 (8 * N / 2 ^ (56 - 8 * k) % 256)] 5))
          have HRD := Lib.hid (Rd.of_blk (Blk.new wr 5 [.int .u8 (8 * N / 2 ^ (56 - 8 * k) % 256)]) (n := 1) rfl)
          have hst : Hid (∀ A' c' w', w'.ownsRow 0 5 1 (.slice A' (PL - 8 + k + 1) c') (PL - 8 + k + 1) (vb ((padF n).take (PL - 8 + k)) ++ [.int .u8 (8 * N / 2 ^ (56 - 8 * k) % 256)]) → (wr.alloc (.cells #[.int .u8 (8 * N / 2 ^ (56 - 8 * k) % 256)] 5)).grownBy w' (Value.slice A (PL - 8 + k) c).ownBlock → ((Value.slice A' (PL - 8 + k + 1) c').ownBlock = (Value.slice A (PL - 8 + k) c).ownBlock ∨ (Value.slice A' (PL - 8 + k + 1) c').ownBlock = some (wr.alloc (.cells #[.int .u8 (8 * N / 2 ^ (56 - 8 * k) % 256)] 5)).heap.size) → RPadRel w n (PL - 8 + k + 1) (.slice A' (PL - 8 + k + 1) c') w') := fun A' c' w' hown hg hb => RPadRel.step HR.out hB.symm (by rw [← HPL.out]; omega) hown hg (by simpa only [World.alloc, Array.size_push] using hb)
          clear hB hby hfin
          go_wp2_with (at_builtin; refine wpList_append_rd _ rfl (.tmp 21) (.tmp 27) 22 rfl 5 (.int .u8 0) 1 Tryd.underlying22 info5 rfl _ (PL - 8 + k) _ rfl HOA.out _ 1 1 _ rfl HRD.out (vb_one [8 * N / 2 ^ (56 - 8 * k) % 256]) (by unfold maxLen; omega) (by omega) ?_; intro A' c' w' hown hg hb; have HW := Lib.hid (hst.out A' c' w' hown hg hb); clear hown hg hb)
          go_roundw
          case rel => exact ⟨k + 1, by omega, by go_num, rfl, HW.out⟩
          case measure => simp only [lenV]; omega
        · have hq : ¬ (0 : Int) ≤ 56 - 8 * (k : Int) := by omega
          obtain rfl : k = 8 := by omega
          rw [show PL - 8 + 8 = PL by omega] at HR
          go_wp2
          go_ret
          obtain ⟨A', c', e, h1, h2, h3⟩ := hfin.out _ _ HR.out
          injection e with e1 e2 e3
          subst e1 e3
          exact ⟨_, _, by simp; omega, h1, h2, h3⟩
end Go.Proofs.YtknecjjdegngfaaDoor
